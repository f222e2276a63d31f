/- Part 5 of a proof: S19, S20, S23, S25, S26, S27, S28, S36, S37, S38, S30b, Abs32, S45, S46, B1, B2, B3, Abs34, AbsS, Abs35, AbsI, B4. -/
import Derived.Test.YtlbdomhfcghjdaaP4
import Derived.Test.YtlbdomhfcghjdaaRows
import Derived.Shelf.Spec.SlicesInsert
import Derived.Shelf.Spec.SlicesInsertGrow
section
namespace GA
open Go Go.RowKit Go.Proofs
set_option pp.deepTerms true
set_option maxRecDepth 8000
set_option linter.unusedVariables false
set_option linter.unusedSimpArgs false

def quoA (parts out : List Int) (i : Nat) : Int × Int := (parts.getD i 0, 2 * out.getD i 0 + 1)
def pq (parts out : List Int) (st : Nat × (Int × Int)) (i : Nat) : Nat × (Int × Int) :=
  if (st.2 = (0, 1) ∧ 0 < parts.getD i 0) ∨ aboveB (quoA parts out i) st.2 = true then (i, quoA parts out i) else st
def pqI (parts out : List Int) (i : Nat) : Nat × (Int × Int) := (List.range i).foldl (pq parts out) (0, (0, 1))
def whoR (parts out : List Int) : Nat := (pqI parts out 6).1
def shareStep (parts out : List Int) : List Int := out.set (whoR parts out) (out.getD (whoR parts out) 0 + 1)
def shareI (parts : List Int) : Nat → List Int
  | 0 => List.replicate 6 0
  | n + 1 => shareStep parts (shareI parts n)
theorem pqI_succ (parts out : List Int) (i : Nat) : pqI parts out (i + 1) = pq parts out (pqI parts out i) i := by
  unfold pqI; rw [List.range_succ, List.foldl_append]; rfl
def OutOk (n : Nat) (out : List Int) : Prop := out.length = 6 ∧ ∀ i, 0 ≤ out.getD i 0 ∧ out.getD i 0 ≤ n
theorem pqI_ok {parts out : List Int} {k : Nat} (hp : PartsOk 9 parts) (ho : OutOk k out) : ∀ i, i ≤ 6 → (pqI parts out i).1 < 6 ∧ (0 ≤ (pqI parts out i).2.1 ∧ (pqI parts out i).2.1 ≤ 900) ∧ (1 ≤ (pqI parts out i).2.2 ∧ (pqI parts out i).2.2 ≤ 2 * k + 1)
  | 0, _ => by simp [pqI]; omega
  | i + 1, h => by
    have ih := pqI_ok hp ho i (by omega)
    have a := hp.2 i
    have b := ho.2 i
    rw [pqI_succ]; unfold pq
    split
    · simp only [quoA]; omega
    · exact ih
theorem shareI_ok {parts : List Int} (hp : PartsOk 9 parts) : ∀ n, OutOk n (shareI parts n)
  | 0 => ⟨rfl, fun i => by
      show 0 ≤ (List.replicate 6 (0 : Int)).getD i 0 ∧ (List.replicate 6 (0 : Int)).getD i 0 ≤ _
      rw [List.getD_eq_getElem?_getD, List.getElem?_replicate]; split <;> simp⟩
  | n + 1 => by
    have ih := shareI_ok hp n
    refine ⟨by simp [shareI, shareStep, ih.1], fun i => ?_⟩
    have a := ih.2 i
    have b := ih.2 (whoR parts (shareI parts n))
    show 0 ≤ ((shareI parts n).set (whoR parts (shareI parts n)) ((shareI parts n).getD (whoR parts (shareI parts n)) 0 + 1)).getD i 0 ∧ ((shareI parts n).set (whoR parts (shareI parts n)) ((shareI parts n).getD (whoR parts (shareI parts n)) 0 + 1)).getD i 0 ≤ _
    rw [getD_set]
    split <;> omega
def shareE (l : Ld) (pay : Int) : Int := if checkR l ≠ 0 then checkR l else if inB pay 0 500 = false then 3 else if 0 < pay ∧ greatestR (partsR l) = 0 then 6 else 0
def shareG (l : Ld) (pay : Int) : AV × List Blk := if shareE l pay = 0 then (.tup [.gr 0 6, .int .i64 0], [.grow 3 false (ints (shareI (partsR l) pay.toNat))]) else (.tup [.sl true [], .int .i64 (shareE l pay)], [])
theorem shareG_low (l : Ld) (pay : Int) : (shareG l pay).1.low (shareG l pay).2.length = true ∧ ∀ x ∈ (shareG l pay).2, x.low (shareG l pay).2.length = true := by
  unfold shareG; split
  · exact ⟨rfl, fun x hx => by simp only [List.mem_cons, List.not_mem_nil, or_false] at hx; subst hx; exact lowI _⟩
  · exact ⟨rfl, fun x hx => by simp at hx⟩
theorem XGive.err {H : List Blk} {r : AV} (hr : r.low 0 = true) : XGive H r r [] := .mk' [] rfl (by simp) trivial (AV.ren_low0 hr).symm
theorem ren_grow (f : Nat → Nat) (t : TypeId) (nl : Bool) (xs : List Int) : (Blk.grow t nl (ints xs)).ren f = .grow t nl (ints xs) := Blk.ren_low (n := 0) (fun i hi => by omega) (lowI xs)
def shareR (l : Ld) (pay : Int) : AV := if shareE l pay = 0 then .tup [.sl false (ints (shareI (partsR l) pay.toNat)), .int .i64 0] else .tup [.sl true [], .int .i64 (shareE l pay)]
theorem share_g (l : Ld) (pay : Int) (o : LdW l) : Gives Try.prog 33 [ldA l, .int .i64 pay] (shareG l pay).1 (shareG l pay).2 := by
  refine Gives.body (T := tab) (res := [.tmp 4, .tmp 5]) tab_ok [] Try.func33 rfl (by kernel_rfl) Try.ntmps33 rfl (by simp only [List.length_cons, List.length_nil]; decide) (by simp only [lowL, AV.low, ldL]; rfl) (shareG_low l pay).1 (shareG_low l pay).2 ?_; conv => whnf
  refine XCall.ret (check_c l o.w o.h1 o.h2 o.h3) ?_
  conv => whnf
  repeat' first | (with_reducible apply XBr.not) | ((with_reducible apply XBr.bne) <;> (intro h; first | (exfalso; omega) | (conv => whnf))) | (refine XCall.ret (in_c _ _ _) ?_; conv => whnf) | ((with_reducible apply XBr.mk') <;> (intro h; conv => whnf))
  · have he : shareE l pay = checkR l := by unfold shareE; rw [if_pos (by assumption)]
    unfold shareG; rw [if_neg (by rw [he]; assumption), he]; exact XGive.err rfl
  · rename_i h0
    have ok := (checkR_ok l).1 (by omega)
    have pk := parts_ok ok
    have hpart := parts_c l ok
    have hbd := h
    rw [inB_iff] at hbd
    have hres : shareG l pay = if 0 < pay ∧ greatestR (partsR l) = 0 then (.tup [.sl true [], .int .i64 6], []) else (.tup [.gr 0 6, .int .i64 0], [.grow 3 false (ints (shareI (partsR l) pay.toNat))]) := by
      have he : shareE l pay = if 0 < pay ∧ greatestR (partsR l) = 0 then 6 else 0 := by
        unfold shareE
        rw [if_neg (show ¬ checkR l ≠ 0 by omega), if_neg (by rw [h]; simp)]
      unfold shareG; rw [he]
      by_cases hc : 0 < pay ∧ greatestR (partsR l) = 0
      · rw [if_pos hc, if_pos hc]; rfl
      · rw [if_neg hc, if_neg hc]; rfl
    rw [hres]
    clear hres
    generalize partsR l = parts at pk hpart
    apply Walk.drawX tab_ok mixed_ok [] [2] (hsV _ [id, fun H => H ++ [.grow 3 false (ints (List.replicate 6 0))]]) [_, _, _, _, _] (by kernel_rfl) rfl
    · skip
      repeat' first | ((with_reducible refine XHold.mk ?_ ?_); (first | omega | rfl | decide | exact ⟨rfl, by decide, rfl⟩ | exact wideI _ | exact widePr _ | exact wideSk _ | (unfold Room; constructor <;> ((try simp) <;> omega)) | exact ⟨rfl, by simp only [List.length_map], by unfold Room; constructor <;> ((try simp) <;> omega)⟩ | exact ⟨by omega, by omega, by unfold Room; constructor <;> ((try simp) <;> omega)⟩); conv => whnf) | (with_reducible apply XAnd.mk) | ((first | (with_reducible apply Chk.go) | (with_reducible apply ChkA.go)); conv => whnf) | (exact XSame.mk rfl rfl) | (with_reducible exact trivial) | (refine XCall.ret hpart ?_; conv => whnf)
    · skip
      repeat' first | (with_reducible apply XAnd.mk) | ((first | (with_reducible apply Chk.go) | (with_reducible apply ChkF.go) | (with_reducible apply ChkB.go)); conv => whnf) | (exact XSame.mk rfl rfl) | (with_reducible exact trivial) | (refine XCall.ret hpart ?_; conv => whnf)
    · conv => whnf
      repeat' first | ((first | (with_reducible apply XBr.tt) | (with_reducible apply XBr.ff)); conv => whnf) | ((with_reducible apply XBr.dec) <;> (intro h; first | (exfalso; omega) | ((try simp only [List.length_map] at h); first | (exfalso; omega) | (conv => whnf)))) | ((with_reducible apply XBr.beq) <;> (intro h; first | (exfalso; omega) | (conv => whnf))) | (refine XCall.ret (greatest_c _ parts (by have := pk.1; omega)) ?_; conv => whnf)
      · rename_i hg
        rw [if_pos ⟨by assumption, h⟩]; exact XGive.err rfl
      · rw [if_neg (fun hh => h hh.2)]
        have pkl := pk.1
        obtain ⟨pn, rfl⟩ := Int.eq_ofNat_of_zero_le hbd.1
        rw [Int.toNat_natCast]
        refine Walk.loopG tab_ok [] (fun k : Nat => k ≤ pn) (fun k => [(7, .sl false (ints parts)), (8, .gr 0 6), (33, natA pn), (34, natA k)])
          (fun k => [.grow 3 false (ints (shareI parts k))]) (fun k => pn - k) 0 (by omega) rfl ⟨rfl, rfl, rfl, rfl, trivial⟩ ?_ ?_ ?_
        · intro k _
          constructor
          · intro x hx; simp at hx; subst hx; exact lowI _
          · intro p hp; simp at hp; rcases hp with rfl | rfl | rfl | rfl <;> first | exact lowI _ | rfl
        · intro k _; simp
        intro k hk
        have ok := shareI_ok pk k
        have hnx : shareI parts (k + 1) = shareStep parts (shareI parts k) := rfl
        have hfin : k = pn → shareI parts pn = shareI parts k := fun h => by rw [h]
        generalize shareI parts k = out at ok hnx hfin
        have okl := ok.1
        conv => whnf
        repeat' first | ((with_reducible apply XBr.dec) <;> (intro h; first | (exfalso; omega) | ((try simp only [List.length_map] at h); first | (exfalso; omega) | (conv => whnf))))
        · skip
          refine Walk.loopG tab_ok [] (fun i : Nat => i ≤ 6) (fun i => [(7, .sl false (ints parts)), (8, .gr 0 6), (10, .ptr 1 0), (11, .ptr 2 0), (33, natA pn), (34, natA k), (38, .sl false (ints parts)), (39, .int .i64 6), (9, natA (pqI parts out i).1), (40, natA i)])
            (fun i => [.grow 3 false (ints out), .cells [.int .i64 0, .int .i64 1], .cells [.int .i64 (pqI parts out i).2.1, .int .i64 (pqI parts out i).2.2]]) (fun i => 6 - i) 0 (by omega) rfl
            ⟨rfl, rfl, rfl, rfl, rfl, rfl, rfl, congrArg (fun n : Nat => some (AV.int .i64 n)) (by rw [List.length_map, pkl]), rfl, rfl, trivial⟩ ?_ ?_ ?_
          · intro i _
            constructor
            · intro x hx; simp at hx; rcases hx with rfl | rfl | rfl <;> first | exact lowI _ | rfl
            · intro p hp; simp at hp; rcases hp with rfl | rfl | rfl | rfl | rfl | rfl | rfl | rfl | rfl | rfl <;> first | exact lowI _ | rfl
          · intro i _; simp
          intro i hi
          have sk := pqI_ok pk ok i hi
          have hpn := pqI_succ parts out i
          have hwho : i = 6 → whoR parts out = (pqI parts out i).1 := fun h => by rw [h]; rfl
          generalize pqI parts out i = st at sk hpn hwho
          obtain ⟨who, b1, b2⟩ := st
          dsimp only at sk hwho ⊢
          have hb : ([b1, b2] == [0, 1]) = true ↔ (b1, b2) = ((0 : Int), (1 : Int)) := by simp
          have pv := pk.2 i
          have ov := ok.2 i
          have pv2 : 0 ≤ parts.getD i default ∧ parts.getD i default ≤ 100 * 9 := pv
          have ov2 : 0 ≤ out.getD (i : Int).toNat default ∧ out.getD (i : Int).toNat default ≤ k := ov
          have ow2 : 0 ≤ out.getD (who : Int).toNat default ∧ out.getD (who : Int).toNat default ≤ k := ok.2 who
          have hyes : ((b1, b2) = ((0 : Int), (1 : Int)) ∧ 0 < parts.getD i default) ∨ aboveB (parts.getD i default, 2 * out.getD (i : Int).toNat default + 1) (b1, b2) = true → pqI parts out (i + 1) = (i, parts.getD i default, 2 * out.getD (i : Int).toNat default + 1) := fun h => by rw [hpn]; unfold pq; exact if_pos h
          have hno : ¬ (((b1, b2) = ((0 : Int), (1 : Int)) ∧ 0 < parts.getD i default) ∨ aboveB (parts.getD i default, 2 * out.getD (i : Int).toNat default + 1) (b1, b2) = true) → pqI parts out (i + 1) = (who, b1, b2) := fun h => by rw [hpn]; unfold pq; exact if_neg h
          conv => whnf
          repeat' first | ((first | (with_reducible apply XBr.tt) | (with_reducible apply XBr.ff)); conv => whnf) | ((with_reducible apply XBr.dec) <;> (intro h; first | (exfalso; omega) | ((try simp only [List.length_map] at h); first | (exfalso; omega) | (conv => whnf)))) | ((first | (with_reducible refine XInt.i64 (by omega) (by omega) ?_) | ((with_reducible refine XIx.nat ?_ ?_ ?_); omega; (intro _; rfl)) | (refine XHold.mk ⟨by rw [List.length_map]; exact okl, rfl, by omega, by omega⟩ ?_) | (refine XGet.map (by rw [okl]) (by omega) ?_) | (refine XEqA.mk ⟨[b1, b2], [0, 1], rfl, rfl, rfl, rfl, ?_⟩) | (refine XCall.ret (above_c (parts.getD i default, 2 * out.getD (i : Int).toNat default + 1) (b1, b2) (by dsimp only; omega) (by dsimp only; omega) (by dsimp only; omega) (by dsimp only; omega)) ?_)); conv => whnf) | ((with_reducible apply XBr.mk') <;> (intro h; conv => whnf))
          · have hy := hyes (.inl ⟨hb.1 (by assumption), h⟩)
            apply Walk.drawX tab_ok mixed_ok [] [3] (hsV _ [id, fun H => H.set 2 (.cells [.int .i64 (parts.getD i default), .int .i64 (2 * out.getD (i : Int).toNat default + 1)])]) [_, _, _, _] (by kernel_rfl) rfl
            · skip
              repeat' first | (with_reducible apply XAnd.mk) | ((first | (with_reducible apply Chk.go) | (with_reducible apply ChkA.go)); conv => whnf) | (exact XSame.mk rfl rfl) | (with_reducible exact trivial)
            · skip
              repeat' first | (with_reducible apply XAnd.mk) | ((first | (with_reducible apply ChkF.go) | (with_reducible apply ChkB.go)); conv => whnf) | (with_reducible exact trivial)
            · conv => whnf
              repeat' first | ((with_reducible refine XInt.i64 (by omega) (by omega) ?_); conv => whnf)
              refine XAgainG.go (i + 1) [.cells [.int .i64 (parts.getD i default), .int .i64 (2 * out.getD (i : Int).toNat default + 1)]] (by omega) (by omega) ?_ ?_
              · rw [hy]; rfl
              · rw [hy]; exact ⟨rfl, rfl, rfl, rfl, rfl, rfl, rfl, rfl, rfl, rfl, trivial⟩
          · have hy := hyes (.inr h)
            apply Walk.drawX tab_ok mixed_ok [] [3] (hsV _ [id, fun H => H.set 2 (.cells [.int .i64 (parts.getD i default), .int .i64 (2 * out.getD (i : Int).toNat default + 1)])]) [_, _, _, _] (by kernel_rfl) rfl
            · skip
              repeat' first | (with_reducible apply XAnd.mk) | ((first | (with_reducible apply Chk.go) | (with_reducible apply ChkA.go)); conv => whnf) | (exact XSame.mk rfl rfl) | (with_reducible exact trivial)
            · skip
              repeat' first | (with_reducible apply XAnd.mk) | ((first | (with_reducible apply ChkF.go) | (with_reducible apply ChkB.go)); conv => whnf) | (with_reducible exact trivial)
            · conv => whnf
              repeat' first | ((with_reducible refine XInt.i64 (by omega) (by omega) ?_); conv => whnf)
              refine XAgainG.go (i + 1) [.cells [.int .i64 (parts.getD i default), .int .i64 (2 * out.getD (i : Int).toNat default + 1)]] (by omega) (by omega) ?_ ?_
              · rw [hy]; rfl
              · rw [hy]; exact ⟨rfl, rfl, rfl, rfl, rfl, rfl, rfl, rfl, rfl, rfl, trivial⟩
          · have hn := hno (fun hh => by
              rcases hh with ⟨_, e⟩ | e
              · exact (by assumption : ¬ 0 < parts.getD i default) e
              · rw [h] at e; cases e)
            refine XAgainG.go (i + 1) [.cells [.int .i64 (parts.getD i default), .int .i64 (2 * out.getD (i : Int).toNat default + 1)]] (by omega) (by omega) ?_ ?_
            · rw [hn]; rfl
            · rw [hn]; exact ⟨rfl, rfl, rfl, rfl, rfl, rfl, rfl, rfl, rfl, rfl, trivial⟩
          · have hy := hyes (.inr h)
            apply Walk.drawX tab_ok mixed_ok [] [3] (hsV _ [id, fun H => H.set 2 (.cells [.int .i64 (parts.getD i default), .int .i64 (2 * out.getD (i : Int).toNat default + 1)])]) [_, _, _, _] (by kernel_rfl) rfl
            · skip
              repeat' first | (with_reducible apply XAnd.mk) | ((first | (with_reducible apply Chk.go) | (with_reducible apply ChkA.go)); conv => whnf) | (exact XSame.mk rfl rfl) | (with_reducible exact trivial)
            · skip
              repeat' first | (with_reducible apply XAnd.mk) | ((first | (with_reducible apply ChkF.go) | (with_reducible apply ChkB.go)); conv => whnf) | (with_reducible exact trivial)
            · conv => whnf
              repeat' first | ((with_reducible refine XInt.i64 (by omega) (by omega) ?_); conv => whnf)
              refine XAgainG.go (i + 1) [.cells [.int .i64 (parts.getD i default), .int .i64 (2 * out.getD (i : Int).toNat default + 1)]] (by omega) (by omega) ?_ ?_
              · rw [hy]; rfl
              · rw [hy]; exact ⟨rfl, rfl, rfl, rfl, rfl, rfl, rfl, rfl, rfl, rfl, trivial⟩
          · have hn := hno (fun hh => by
              rcases hh with ⟨e, _⟩ | e
              · have := hb.2 e; simp_all
              · rw [h] at e; cases e)
            refine XAgainG.go (i + 1) [.cells [.int .i64 (parts.getD i default), .int .i64 (2 * out.getD (i : Int).toNat default + 1)]] (by omega) (by omega) ?_ ?_
            · rw [hn]; rfl
            · rw [hn]; exact ⟨rfl, rfl, rfl, rfl, rfl, rfl, rfl, rfl, rfl, rfl, trivial⟩
          · have hie : i = 6 := by omega
            refine XPut.map (out.getD (who : Int).toNat default + 1) rfl (by rw [okl]) (by omega) ?_
            conv => whnf
            repeat' first | ((with_reducible refine XInt.i64 (by omega) (by omega) ?_); conv => whnf)
            refine XAgainG.go (k + 1) [.cells [.int .i64 0, .int .i64 1], .cells [.int .i64 b1, .int .i64 b2]] (by omega) (by omega) ?_ ⟨rfl, rfl, rfl, rfl, trivial⟩
            rw [hnx]; unfold shareStep; rw [hwho hie]; rfl
        · skip
          rw [hfin (by omega)]
          exact XGive.mk' [0] rfl (by decide) ⟨congrArg some (ren_grow _ _ _ _).symm, trivial⟩ rfl
      · rw [if_neg (fun hh => h hh.1)]
        have pkl := pk.1
        obtain ⟨pn, rfl⟩ := Int.eq_ofNat_of_zero_le hbd.1
        rw [Int.toNat_natCast]
        refine Walk.loopG tab_ok [] (fun k : Nat => k ≤ pn) (fun k => [(7, .sl false (ints parts)), (8, .gr 0 6), (33, natA pn), (34, natA k)])
          (fun k => [.grow 3 false (ints (shareI parts k))]) (fun k => pn - k) 0 (by omega) rfl ⟨rfl, rfl, rfl, rfl, trivial⟩ ?_ ?_ ?_
        · intro k _
          constructor
          · intro x hx; simp at hx; subst hx; exact lowI _
          · intro p hp; simp at hp; rcases hp with rfl | rfl | rfl | rfl <;> first | exact lowI _ | rfl
        · intro k _; simp
        intro k hk
        have ok := shareI_ok pk k
        have hnx : shareI parts (k + 1) = shareStep parts (shareI parts k) := rfl
        have hfin : k = pn → shareI parts pn = shareI parts k := fun h => by rw [h]
        generalize shareI parts k = out at ok hnx hfin
        have okl := ok.1
        conv => whnf
        repeat' first | ((with_reducible apply XBr.dec) <;> (intro h; first | (exfalso; omega) | ((try simp only [List.length_map] at h); first | (exfalso; omega) | (conv => whnf))))
        rw [hfin (by omega)]
        exact XGive.mk' [0] rfl (by decide) ⟨congrArg some (ren_grow _ _ _ _).symm, trivial⟩ rfl
  · have he : shareE l pay = 3 := by unfold shareE; rw [if_neg (by omega), if_pos h]
    unfold shareG; rw [if_neg (by omega), he]; exact XGive.err rfl
theorem share_c (l : Ld) (pay : Int) (o : LdW l) : Comp Try.prog 33 [ldA l, .int .i64 pay] (shareR l pay) := by
  have x := share_g l pay o
  unfold shareG at x; unfold shareR
  split at x
  · rename_i h
    have pk := (shareI_ok (parts_ok ((checkR_ok l).1 (by unfold shareE at h; split at h <;> omega))) pay.toNat).1
    rw [if_pos h]
    exact x.comp (Froz.tup (.cons (Froz.grow rfl (by rw [List.length_map]; exact pk) (lowI _)) (.cons (Froz.low rfl) .nil)))
  · rename_i h
    rw [if_neg h]
    exact x.comp (Froz.low rfl)
end GA
end

section
namespace GA
open Go Go.RowKit Go.Proofs
set_option pp.deepTerms true
set_option maxRecDepth 8000
set_option linter.unusedVariables false
set_option linter.unusedSimpArgs false

def five : Ld := ⟨50, 10, false, [⟨30, 0⟩, ⟨20, 1⟩, ⟨25, 0⟩, ⟨20, 2⟩, ⟨10, 1⟩], true, [], true, []⟩
def fiveP : Ld := { five with nla := false, apart := [(0, 2)], nlw := false, wth := [(1, 3)] }
def fivePr : Pr := ⟨50, false, [27, 18, 23, 18, 9]⟩
theorem five_ok : checkR five = 0 ∧ checkR fiveP = 0 := by decide +kernel
theorem five_many : manyD (openD five) = 2 := by decide +kernel
theorem five_out : (loadI (openD five) 2 2).out = [0, 0, 1, 1, 1] := by decide +kernel
theorem fiveP_many : manyD (openD fiveP) = 3 := by decide +kernel
theorem fiveP_out : (loadI (openD fiveP) 3 3).out = [0, 1, 2, 1, 0] := by decide +kernel
theorem five_pr : priceE five fivePr = 0 ∧ fairB (openD five) fivePr = true ∧ (fivePr.ps.sum + fivePr.unit - 1) / fivePr.unit = 2 := by decide +kernel
theorem five_share : shareE five 10 = 0 ∧ shareI (partsR five) 10 = [5, 3, 2, 0, 0, 0] := by decide +kernel
theorem five_riddle : riddledR [12, 20, 19, 25] 20 = 0 ∧ keptL [12, 20, 19, 25] 20 = [20, 25] := by decide +kernel
theorem five_w : LdW five := ⟨fun _ => rfl, by decide, by decide, by decide⟩
theorem fiveP_w : LdW fiveP := ⟨(fun h => by cases h), by decide, by decide, by decide⟩
theorem five_c : Comp Try.prog 82 [] (ldA five) := by
  refine Comp.body' (T := tab) (res := [.cell 0 26]) tab_ok [] Try.func82 rfl (by kernel_rfl) Try.ntmps82 rfl (by simp only [List.length_cons, List.length_nil]; decide) (by rfl) ?_; conv => whnf
  repeat' first | ((with_reducible refine XHold.mk ?_ ?_); (first | omega | rfl | decide | exact ⟨rfl, by decide, rfl⟩ | exact wideI _ | exact widePr _ | exact wideSk _ | (unfold Room; constructor <;> ((try simp) <;> omega)) | exact ⟨rfl, by simp only [List.length_map], by unfold Room; constructor <;> ((try simp) <;> omega)⟩ | exact ⟨by omega, by omega, by unfold Room; constructor <;> ((try simp) <;> omega)⟩); conv => whnf)
  exact ⟨Froz.low rfl⟩
theorem five_fewest : fewestR five = .tup [.sl false (ints [0, 0, 1, 1, 1]), .int .i64 2, .int .i64 0] := by
  unfold fewestR; rw [if_pos five_ok.1]; unfold fewestD; rw [five_many, if_neg (by decide), five_out]; rfl
theorem fiveP_fewest : fewestR fiveP = .tup [.sl false (ints [0, 1, 2, 1, 0]), .int .i64 3, .int .i64 0] := by
  unfold fewestR; rw [if_pos five_ok.2]; unfold fewestD; rw [fiveP_many, if_neg (by decide), fiveP_out]; rfl
theorem five_proves : provesR five fivePr = .tup [.int .i64 2, .int .i64 0] := by
  unfold provesR; rw [if_pos five_ok.1, if_pos five_pr.1, if_pos five_pr.2.1, five_pr.2.2]
theorem five_shareR : shareR five 10 = .tup [.sl false (ints [5, 3, 2, 0, 0, 0]), .int .i64 0] := by
  unfold shareR; rw [if_pos five_share.1, show (10 : Int).toNat = 10 from rfl, five_share.2]
theorem five_riddleR : riddleR [12, 20, 19, 25] 20 = .tup [.sl false (ints [20, 25]), slA (thruL [12, 20, 19, 25] 20), .int .i64 0] := by
  unfold riddleR; rw [if_pos five_riddle.1]; unfold riddleA; rw [five_riddle.2]; rfl
theorem cFive : Comp Try.prog 18 [ldA five] (.tup [.sl false (ints [0, 0, 1, 1, 1]), .int .i64 2, .int .i64 0]) := five_fewest ▸ fewest_c five five_w.w five_w.h1 five_w.h2 five_w.h3
theorem cFiveP : Comp Try.prog 18 [ldA fiveP] (.tup [.sl false (ints [0, 1, 2, 1, 0]), .int .i64 3, .int .i64 0]) := fiveP_fewest ▸ fewest_c fiveP fiveP_w.w fiveP_w.h1 fiveP_w.h2 fiveP_w.h3
theorem cRid : Comp Try.prog 27 [.sl false (ints [12, 20, 19, 25]), .int .i64 20] (.tup [.sl false (ints [20, 25]), slA (thruL [12, 20, 19, 25] 20), .int .i64 0]) := five_riddleR ▸ riddle_c false [12, 20, 19, 25] 20 (by decide)
theorem cShare : Comp Try.prog 33 [ldA five, .int .i64 10] (.tup [.sl false (ints [5, 3, 2, 0, 0, 0]), .int .i64 0]) := five_shareR ▸ share_c five 10 five_w
theorem cProves : Comp Try.prog 25 [ldA five, pcA fivePr] (.tup [.int .i64 2, .int .i64 0]) := five_proves ▸ proves_c five fivePr five_w (by decide)
theorem cEq (xs : List Int) (h : xs.length ≤ 100000) : Comp Try.prog 30 [.sl false (ints xs), .sl false (ints xs)] (.bool true) := by
  have := eq_int false false xs xs h
  rwa [show (xs == xs) = true from beq_self_eq_true xs] at this
theorem cEq1 : Comp Try.prog 30 [.sl false (ints [0, 0, 1, 1, 1]), .sl false [.int .i64 0, .int .i64 0, .int .i64 1, .int .i64 1, .int .i64 1]] (.bool true) := cEq [0, 0, 1, 1, 1] (by decide)
theorem cEq2 : Comp Try.prog 30 [.sl false (ints [20, 25]), .sl false [.int .i64 20, .int .i64 25]] (.bool true) := cEq [20, 25] (by decide)
theorem cEq3 : Comp Try.prog 30 [.sl false (ints [5, 3, 2, 0, 0, 0]), .sl false [.int .i64 5, .int .i64 3, .int .i64 2, .int .i64 0, .int .i64 0, .int .i64 0]] (.bool true) := cEq [5, 3, 2, 0, 0, 0] (by decide)
theorem cEq4 : Comp Try.prog 30 [.sl false (ints [0, 1, 2, 1, 0]), .sl false [.int .i64 0, .int .i64 1, .int .i64 2, .int .i64 1, .int .i64 0]] (.bool true) := cEq [0, 1, 2, 1, 0] (by decide)
theorem awake_c : Comp Try.prog 19 [] (.bool true) := by
  refine Comp.body' (T := tab) (res := [.tmp 0]) tab_ok [] Try.func19 rfl (by kernel_rfl) Try.ntmps19 rfl (by simp only [List.length_cons, List.length_nil]; decide) (by rfl) ?_; conv => whnf
  refine XCall.ret five_c ?_
  conv => whnf
  refine XCall.ret cFive ?_
  conv => whnf
  repeat' first | ((with_reducible refine XHold.mk ?_ ?_); (first | omega | rfl | decide | exact ⟨rfl, by decide, rfl⟩ | exact wideI _ | exact widePr _ | exact wideSk _ | (unfold Room; constructor <;> ((try simp) <;> omega)) | exact ⟨rfl, by simp only [List.length_map], by unfold Room; constructor <;> ((try simp) <;> omega)⟩ | exact ⟨by omega, by omega, by unfold Room; constructor <;> ((try simp) <;> omega)⟩); conv => whnf)
  refine XCall.ret cRid ?_
  conv => whnf
  refine XCall.ret five_c ?_
  conv => whnf
  refine XCall.ret cShare ?_
  conv => whnf
  refine XCall.ret five_c ?_
  conv => whnf
  repeat' first | ((with_reducible refine XHold.mk ?_ ?_); (first | omega | rfl | decide | exact ⟨rfl, by decide, rfl⟩ | exact wideI _ | exact widePr _ | exact wideSk _ | (unfold Room; constructor <;> ((try simp) <;> omega)) | exact ⟨rfl, by simp only [List.length_map], by unfold Room; constructor <;> ((try simp) <;> omega)⟩ | exact ⟨by omega, by omega, by unfold Room; constructor <;> ((try simp) <;> omega)⟩); conv => whnf)
  refine XCall.ret cFiveP ?_
  conv => whnf
  refine XCall.ret five_c ?_
  conv => whnf
  repeat' first | ((with_reducible refine XHold.mk ?_ ?_); (first | omega | rfl | decide | exact ⟨rfl, by decide, rfl⟩ | exact wideI _ | exact widePr _ | exact wideSk _ | (unfold Room; constructor <;> ((try simp) <;> omega)) | exact ⟨rfl, by simp only [List.length_map], by unfold Room; constructor <;> ((try simp) <;> omega)⟩ | exact ⟨by omega, by omega, by unfold Room; constructor <;> ((try simp) <;> omega)⟩); conv => whnf)
  refine XCall.ret cProves ?_
  conv => whnf
  refine Walk.norm tab_ok [] [(3, .int .i64 0), (6, .int .i64 0), (8, .int .i64 0), (12, .int .i64 0), (14, .int .i64 0), (1, .sl false (ints [0, 0, 1, 1, 1])), (2, .int .i64 2), (4, .sl false (ints [20, 25])), (7, .sl false (ints [5, 3, 2, 0, 0, 0])), (10, .sl false (ints [0, 1, 2, 1, 0])), (11, .int .i64 3), (13, .int .i64 2)] ⟨rfl, rfl, rfl, rfl, rfl, rfl, rfl, rfl, rfl, rfl, rfl, rfl, trivial⟩ ?_
  conv => whnf
  repeat' first | ((with_reducible apply XBr.tt); conv => whnf) | ((with_reducible apply XBr.beq) <;> (intro h; first | (exfalso; omega) | (conv => whnf))) | ((with_reducible refine XHold.mk ?_ ?_); (first | omega | rfl | decide | exact ⟨rfl, by decide, rfl⟩ | exact wideI _ | exact widePr _ | exact wideSk _ | (unfold Room; constructor <;> ((try simp) <;> omega)) | exact ⟨rfl, by simp only [List.length_map], by unfold Room; constructor <;> ((try simp) <;> omega)⟩ | exact ⟨by omega, by omega, by unfold Room; constructor <;> ((try simp) <;> omega)⟩); conv => whnf)
  refine XCall.ret cEq1 ?_
  conv => whnf
  repeat' first | ((with_reducible apply XBr.tt); conv => whnf) | ((with_reducible apply XBr.beq) <;> (intro h; first | (exfalso; omega) | (conv => whnf))) | ((with_reducible refine XHold.mk ?_ ?_); (first | omega | rfl | decide | exact ⟨rfl, by decide, rfl⟩ | exact wideI _ | exact widePr _ | exact wideSk _ | (unfold Room; constructor <;> ((try simp) <;> omega)) | exact ⟨rfl, by simp only [List.length_map], by unfold Room; constructor <;> ((try simp) <;> omega)⟩ | exact ⟨by omega, by omega, by unfold Room; constructor <;> ((try simp) <;> omega)⟩); conv => whnf)
  refine XCall.ret cEq2 ?_
  conv => whnf
  repeat' first | ((with_reducible apply XBr.tt); conv => whnf) | ((with_reducible refine XHold.mk ?_ ?_); (first | omega | rfl | decide | exact ⟨rfl, by decide, rfl⟩ | exact wideI _ | exact widePr _ | exact wideSk _ | (unfold Room; constructor <;> ((try simp) <;> omega)) | exact ⟨rfl, by simp only [List.length_map], by unfold Room; constructor <;> ((try simp) <;> omega)⟩ | exact ⟨by omega, by omega, by unfold Room; constructor <;> ((try simp) <;> omega)⟩); conv => whnf)
  refine XCall.ret cEq3 ?_
  conv => whnf
  repeat' first | ((with_reducible apply XBr.tt); conv => whnf) | ((with_reducible refine XHold.mk ?_ ?_); (first | omega | rfl | decide | exact ⟨rfl, by decide, rfl⟩ | exact wideI _ | exact widePr _ | exact wideSk _ | (unfold Room; constructor <;> ((try simp) <;> omega)) | exact ⟨rfl, by simp only [List.length_map], by unfold Room; constructor <;> ((try simp) <;> omega)⟩ | exact ⟨by omega, by omega, by unfold Room; constructor <;> ((try simp) <;> omega)⟩); conv => whnf)
  refine XCall.ret cEq4 ?_
  conv => whnf
  repeat' first | ((with_reducible apply XBr.tt); conv => whnf) | ((with_reducible apply XBr.beq) <;> (intro h; first | (exfalso; omega) | (conv => whnf)))
  exact ⟨Froz.low rfl⟩
end GA
end

section
namespace GA
open Go Go.RowKit Go.Proofs
set_option pp.deepTerms true
set_option maxRecDepth 8000
set_option linter.unusedVariables false

abbrev bytes (xs : List Int) : List AV := xs.map (.int .u8)
theorem lowBy {n : Nat} (xs : List Int) : lowL n (bytes xs) = true := lowL_map (fun _ => rfl) xs
structure Hp where
  nl : Bool
  bs : List Int
  nx : Nat
  rd : Int
  deriving Inhabited
def hpC (h : Hp) : Blk := .cells [.sl h.nl (bytes h.bs), .int .i64 h.nx, .int .u32 h.rd]
structure Hp.Ok (h : Hp) : Prop where
  l : h.bs.length < 9223372036854775808
  n : h.nx < h.bs.length ∨ h.nx = 0
def hpN (h : Hp) : Int := IntKind.u32.wrap (40503 * IntKind.u32.wrap (h.rd + 1))
def hpM (h : Hp) : Int := if h.nx < h.bs.length then IntKind.u32.wrap (hpN h + IntKind.u32.wrap (331 * IntKind.u32.wrap (h.bs.getD h.nx default))) else hpN h
def hpV' (n : Int) : Int := iand .u32 (ixor .u32 n (n.fdiv (2 ^ (min (9 : Int).toNat IntKind.u32.bits)))) 32767
def hpV (h : Hp) : Int := hpV' (hpM h)
def hpS (h : Hp) : Hp := if h.bs.length ≤ h.nx + 1 then ⟨h.nl, h.bs, 0, IntKind.u32.wrap (h.rd + 1)⟩ else ⟨h.nl, h.bs, h.nx + 1, h.rd⟩
theorem hpV_bound (n : Int) : 0 ≤ hpV' n ∧ hpV' n ≤ 32767 := by
  unfold hpV' iand
  have h1 : (BitVec.ofInt IntKind.u32.bits (ixor .u32 n (n.fdiv (2 ^ (min (9 : Int).toNat IntKind.u32.bits)))) &&& BitVec.ofInt IntKind.u32.bits 32767).toNat ≤ 32767 := by
    rw [BitVec.toNat_and]
    exact Nat.le_trans Nat.and_le_right (by decide)
  generalize (BitVec.ofInt IntKind.u32.bits (ixor .u32 n (n.fdiv (2 ^ (min (9 : Int).toNat IntKind.u32.bits)))) &&& BitVec.ofInt IntKind.u32.bits 32767).toNat = m at h1 ⊢
  simp only [IntKind.wrap, IntKind.bits, IntKind.signed]
  constructor <;> simp <;> omega
theorem hpS_ok {h : Hp} (o : h.Ok) : (hpS h).Ok := by
  unfold hpS; split
  · exact ⟨o.l, .inr rfl⟩
  · exact ⟨o.l, .inl (by dsimp only; omega)⟩
theorem hpC_low {n : Nat} (h : Hp) : (hpC h).low n = true := by simp only [hpC, Blk.low, lowL, AV.low, lowBy]; rfl
theorem hpC_ren (f : Nat → Nat) (h : Hp) : (hpC h).ren f = hpC h := Blk.ren_low (n := 0) (fun i hi => by omega) (hpC_low h)

theorem XInt.w {q : IntKind} {x : Int} {k : AV → Prop} (h : k (.int q (q.wrap x))) : XInt q x k := ⟨h⟩

def HpOk (f : FuncId) (qs : List AV) (h : Hp) (r : AV) (h' : Hp) : Prop :=
  lowL 0 qs = true ∧ ACall Try.prog f (.ptr 0 0 :: qs) [hpC h] fun r' H' => r' = r ∧ H' = [hpC h']
theorem XCall.hp {f : FuncId} {qs : List AV} {h h' : Hp} {r : AV} (x : HpOk f qs h r h') (hr : r.low 0 = true) {H : List Blk} {k : AV → List Blk → Prop} {j : Nat} (h0 : lget H j = some (hpC h))
    (hk : k r (H.set j (hpC h'))) : XCall Try.prog f (.ptr j 0 :: qs) H k := by
  constructor
  have e := ACall.frame (ρ := fun i => j + i) (H := H) (k := k) x.2 (fun a b _ _ h => by have : j + a = j + b := h; omega) ?_ (fun y hy => by simp at hy; subst hy; exact hpC_low h) ?_ ?_
  · have hd : renL (fun i => j + i) qs = qs := renL_low0 x.1
    rw [List.map_cons, ← renL_eq, hd] at e
    exact e
  · intro i x1 hi
    rw [lget_eq] at h0
    rcases i with _ | i
    · simp only [List.getElem?_cons_zero, Option.some.injEq] at hi; subst hi
      rw [hpC_ren]; exact h0
    · simp at hi
  · simp only [lowL, AV.low, lowL_mono (Nat.zero_le _) x.1]; rfl
  · rintro r1 H1' ⟨rfl, rfl⟩
    rw [lget_eq] at h0
    have hj := (List.getElem?_eq_some_iff.1 h0).1
    refine ⟨rfl, H.set j (hpC h'), by simp, fun i x1 hi => ?_, fun q hq => ?_, ?_⟩
    · rcases i with _ | i
      · simp only [List.getElem?_cons_zero, Option.some.injEq] at hi; subst hi
        rw [hpC_ren]; simp [hj]
      · simp at hi
    · exact List.getElem?_set_ne (by have := hq 0 (by simp); simpa using this)
    · rw [AV.ren_low (n := 0) (fun i hi => by omega) hr]; exact hk

theorem hpM_lt {u : Hp} (h : (u.nx : Int) < u.bs.length) : hpM u = IntKind.u32.wrap (hpN u + IntKind.u32.wrap (331 * IntKind.u32.wrap (u.bs.getD u.nx default))) := if_pos (by omega)
theorem hpM_ge {u : Hp} (h : ¬ (u.nx : Int) < u.bs.length) : hpM u = hpN u := if_neg (by omega)
theorem hpS_end {u : Hp} (h : (u.bs.length : Int) ≤ u.nx + 1) : [hpC (hpS u)] = [Blk.cells [AV.sl u.nl (bytes u.bs), AV.int IntKind.i64 0, AV.int IntKind.u32 (IntKind.u32.wrap (u.rd + 1))]] := by
  unfold hpS; rw [if_pos (by omega)]; rfl
theorem hpS_on {u : Hp} (h : ¬ (u.bs.length : Int) ≤ u.nx + 1) : [hpC (hpS u)] = [Blk.cells [AV.sl u.nl (bytes u.bs), AV.int IntKind.i64 (u.nx + 1), AV.int IntKind.u32 u.rd]] := by
  unfold hpS; rw [if_neg (by omega)]; rfl
theorem i64_small {n : Int} (h1 : 0 ≤ n) (h2 : n ≤ 32767) : IntKind.i64.wrap n = n := by
  simp only [IntKind.wrap, IntKind.bits, IntKind.signed]; simp; omega
theorem pick_end {u : Hp} {n : Int} {H1 : List Blk} (hn : hpM u = n) (hS : [hpC (hpS u)] = H1) : XCut [hpC u].length [] H1 (.int .i64 (IntKind.i64.wrap (hpV' n))) fun r' H' => r' = .int .i64 (hpV u) ∧ H' = [hpC (hpS u)] := by
  subst hn; subst hS
  obtain ⟨h1, h2⟩ := hpV_bound (hpM u)
  rw [i64_small h1 h2]
  exact XCut.mk' [hpC (hpS u)] [] rfl rfl (fun x hx => by simp only [List.mem_cons, List.not_mem_nil, or_false] at hx; subst hx; exact hpC_low _) rfl ⟨rfl, rfl⟩
theorem pick_c (u : Hp) (o : u.Ok) : HpOk 86 [] u (.int .i64 (hpV u)) (hpS u) := by
  have hl := o.l
  have hn := o.n
  refine ⟨rfl, ?_⟩
  refine ACall.bodyK (T := tab) (res := [.tmp 2]) tab_ok [] Try.func86 rfl (by kernel_rfl) Try.ntmps86 rfl (by simp only [List.length_cons, List.length_nil]; decide) ?_; conv => whnf
  repeat' first | ((refine XInt.w ?_); conv => whnf)
  apply Walk.drawX tab_ok mixed_ok [] [] (hsK _) [_, _, _, _, _, _, _, _, _, _] (by kernel_rfl) rfl
  · skip
    repeat' first | (with_reducible apply XAnd.mk) | ((first | (with_reducible apply Chk.go) | (with_reducible apply ChkA.go)); conv => whnf) | (exact XSame.mk rfl rfl) | (with_reducible exact trivial)
  · skip
    repeat' first | (with_reducible apply XAnd.mk) | ((first | (with_reducible apply ChkF.go) | (with_reducible apply ChkB.go)); conv => whnf) | (with_reducible exact trivial)
  · conv => whnf
    repeat' first | ((with_reducible apply XBr.dec) <;> (intro h; first | (exfalso; omega) | ((try simp only [List.length_map] at h); first | (exfalso; omega) | (conv => whnf)))) | ((with_reducible refine XInt.i64 (by omega) (by omega) ?_); conv => whnf)
    · apply Walk.drawX tab_ok mixed_ok [] [] (hsK _) [_, _, _, _, _, _, _, _, _, _, _, _, _, _, _] (by kernel_rfl) rfl
      · skip
        repeat' first | (((with_reducible refine XIx.nat ?_ ?_ ?_); omega; (intro _; rfl)); conv => whnf) | (with_reducible apply XAnd.mk) | ((first | (with_reducible apply Chk.go) | (with_reducible apply ChkA.go)); conv => whnf) | (exact XSame.mk rfl rfl) | (with_reducible exact trivial) | ((refine XInt.w ?_); conv => whnf)
      · skip
        repeat' first | (with_reducible apply XAnd.mk) | ((first | (with_reducible apply ChkF.go) | (with_reducible apply ChkB.go)); conv => whnf) | (with_reducible exact trivial)
      · conv => whnf
        repeat' first | ((with_reducible refine XInt.i64 (by omega) (by omega) ?_); conv => whnf)
        apply Walk.drawX tab_ok mixed_ok [] [] (hsK _) [_, _, _, _, _, _, _, _, _, _] (by kernel_rfl) rfl
        · skip
          repeat' first | (with_reducible apply XAnd.mk) | ((first | (with_reducible apply Chk.go) | (with_reducible apply ChkA.go)); conv => whnf) | (exact XSame.mk rfl rfl) | (with_reducible exact trivial)
        · skip
          repeat' first | (with_reducible apply XAnd.mk) | ((first | (with_reducible apply ChkF.go) | (with_reducible apply ChkB.go)); conv => whnf) | (with_reducible exact trivial)
        · conv => whnf
          repeat' first | ((with_reducible apply XBr.dec) <;> (intro h; first | (exfalso; omega) | ((try simp only [List.length_map] at h); first | (exfalso; omega) | (conv => whnf)))) | ((with_reducible refine XHold.mk ?_ ?_); (first | omega | rfl | decide | exact ⟨rfl, by decide, rfl⟩ | exact wideI _ | exact widePr _ | exact wideSk _ | (unfold Room; constructor <;> ((try simp) <;> omega)) | exact ⟨rfl, by simp only [List.length_map], by unfold Room; constructor <;> ((try simp) <;> omega)⟩ | exact ⟨by omega, by omega, by unfold Room; constructor <;> ((try simp) <;> omega)⟩); conv => whnf) | ((refine XInt.w ?_); conv => whnf)
          · exact pick_end (hpM_lt (by assumption)) (hpS_end h)
          · exact pick_end (hpM_lt (by assumption)) (hpS_on h)
    · skip
      apply Walk.drawX tab_ok mixed_ok [] [] (hsK _) [_, _, _, _, _, _, _, _, _, _] (by kernel_rfl) rfl
      · skip
        repeat' first | (with_reducible apply XAnd.mk) | ((first | (with_reducible apply Chk.go) | (with_reducible apply ChkA.go)); conv => whnf) | (exact XSame.mk rfl rfl) | (with_reducible exact trivial)
      · skip
        repeat' first | (with_reducible apply XAnd.mk) | ((first | (with_reducible apply ChkF.go) | (with_reducible apply ChkB.go)); conv => whnf) | (with_reducible exact trivial)
      · conv => whnf
        repeat' first | ((with_reducible apply XBr.dec) <;> (intro h; first | (exfalso; omega) | ((try simp only [List.length_map] at h); first | (exfalso; omega) | (conv => whnf)))) | ((with_reducible refine XHold.mk ?_ ?_); (first | omega | rfl | decide | exact ⟨rfl, by decide, rfl⟩ | exact wideI _ | exact widePr _ | exact wideSk _ | (unfold Room; constructor <;> ((try simp) <;> omega)) | exact ⟨rfl, by simp only [List.length_map], by unfold Room; constructor <;> ((try simp) <;> omega)⟩ | exact ⟨by omega, by omega, by unfold Room; constructor <;> ((try simp) <;> omega)⟩); conv => whnf) | ((refine XInt.w ?_); conv => whnf)
        · exact pick_end (hpM_ge (by assumption)) (hpS_end h)

def modV (h : Hp) (n : Int) : Int := (hpV h).tmod (max 1 (n + 1))
theorem modV_bound (h : Hp) (n : Int) : 0 ≤ modV h n ∧ modV h n ≤ max 0 n := by
  have hb := hpV_bound (hpM h)
  have h1 : 0 ≤ hpV h := hb.1
  unfold modV
  rw [Int.tmod_eq_emod_of_nonneg h1]
  have h2 := Int.emod_nonneg (hpV h) (show max 1 (n + 1) ≠ 0 by omega)
  have h3 := Int.emod_lt_of_pos (hpV h) (show 0 < max 1 (n + 1) by omega)
  omega
theorem hp_end {u u' : Hp} {r : AV} (hr : r.low 1 = true) : XCut [hpC u].length [] [hpC u'] r fun r' H' => r' = r ∧ H' = [hpC u'] :=
  XCut.mk' [hpC u'] [] rfl rfl (fun x hx => by simp only [List.mem_cons, List.not_mem_nil, or_false] at hx; subst hx; exact hpC_low _) hr ⟨rfl, rfl⟩
theorem upto_c (u : Hp) (n : Int) (o : u.Ok) (h1 : -100000 ≤ n) (h2 : n ≤ 100000) : HpOk 23 [.int .i64 n] u (.int .i64 (modV u n)) (hpS u) := by
  refine ⟨rfl, ?_⟩
  refine ACall.bodyK (T := tab) (res := [.tmp 4]) tab_ok [] Try.func23 rfl (by kernel_rfl) Try.ntmps23 rfl (by simp only [List.length_cons, List.length_nil]; decide) ?_; conv => whnf
  refine XCall.hp (j := 0) (pick_c u o) rfl rfl ?_
  conv => whnf
  repeat' first | ((with_reducible refine XInt.i64 (by omega) (by omega) ?_); conv => whnf) | ((with_reducible refine XHold.mk ?_ ?_); (first | omega | rfl | decide | exact ⟨rfl, by decide, rfl⟩ | exact wideI _ | exact widePr _ | exact wideSk _ | (unfold Room; constructor <;> ((try simp) <;> omega)) | exact ⟨rfl, by simp only [List.length_map], by unfold Room; constructor <;> ((try simp) <;> omega)⟩ | exact ⟨by omega, by omega, by unfold Room; constructor <;> ((try simp) <;> omega)⟩); conv => whnf)
  exact hp_end rfl
theorem from_c (u : Hp) (lo hi : Int) (o : u.Ok) (h1 : -10000 ≤ lo) (h2 : lo ≤ 10000) (h3 : -10000 ≤ hi) (h4 : hi ≤ 10000) : HpOk 22 [.int .i64 lo, .int .i64 hi] u (.int .i64 (lo + modV u (hi - lo))) (hpS u) := by
  have hb := modV_bound u (hi - lo)
  refine ⟨rfl, ?_⟩
  refine ACall.bodyK (T := tab) (res := [.tmp 6]) tab_ok [] Try.func22 rfl (by kernel_rfl) Try.ntmps22 rfl (by simp only [List.length_cons, List.length_nil]; decide) ?_; conv => whnf
  repeat' first | ((first | (with_reducible refine XInt.i64 (by omega) (by omega) ?_) | (refine XCall.hp (j := 0) (upto_c u (hi - lo) o (by omega) (by omega)) rfl rfl ?_)); conv => whnf)
  exact hp_end rfl
end GA
end

section
namespace GA
open Go Go.RowKit Go.Proofs
set_option pp.deepTerms true
set_option maxRecDepth 8000
set_option linter.unusedVariables false
set_option linter.unusedSimpArgs false

structure Prs where
  ap : List (Int × Int)
  wt : List (Int × Int)
  u : Hp
theorem isEmpty_app {α : Type} (l : List α) (x : α) : (l ++ [x]).isEmpty = (l.isEmpty && false) := by cases l <;> rfl
end GA
end

section
namespace GA
open Go Go.RowKit Go.Proofs
set_option linter.unusedVariables false
set_option linter.unusedSimpArgs false

theorem sum_set (v : Int) : ∀ (xs : List Int) (i : Nat), i < xs.length → (xs.set i v).sum = xs.sum - xs.getD i 0 + v
  | [], i, h => by simp at h
  | x :: xs, 0, h => by simp; omega
  | x :: xs, i + 1, h => by
    have := sum_set v xs i (by simpa using h)
    simp only [List.set_cons_succ, List.sum_cons, List.getD_cons_succ, this]; omega
theorem parts_sum {l : Ld} (o : LdOk l) : ∀ (ss : List Sk) (out : List Int), (∀ s ∈ ss, s ∈ l.sacks) → out.length = 6 → (ss.foldl (partStep l) out).sum = out.sum + (ss.map (weightR l)).sum
  | [], out, _, _ => by simp
  | s :: ss, out, hs, ho => by
    have hso := o.sk s (hs s (by simp))
    rw [List.foldl_cons, parts_sum o ss _ (fun x hx => hs x (by simp [hx])) (by simp [partStep, ho])]
    unfold partStep
    rw [sum_set _ _ _ (by omega), List.map_cons, List.sum_cons]; omega
end GA
end

section
namespace GA
open Go Go.RowKit Go.Proofs
set_option pp.deepTerms true
set_option maxRecDepth 8000
set_option linter.unusedVariables false
set_option linter.unusedSimpArgs false

def hp0 (nl : Bool) (bs : List Int) : Hp := ⟨nl, bs, 0, 0⟩
theorem hp0_ok {nl : Bool} {bs : List Int} (h : bs.length < 9223372036854775808) : (hp0 nl bs).Ok := ⟨h, .inr rfl⟩
theorem ldW {l : Ld} (o : LdOk l) (hn : l.nla = true → l.apart = []) : LdW l := ⟨hn, by have := o.n; omega, by have := o.na; omega, by have := o.nw; omega⟩
end GA
end

section
namespace GA
open Go Go.RowKit Go.ChangeShapes Go.WideShapes Go.ChangeAt Go.Proofs Go.Proofs.Ytlbdomhfcghjdaa
set_option linter.unusedVariables false
set_option linter.unusedSimpArgs false

section
variable {P : Program} {w : World} {r : Reach} {base : Nat} {t : TypeId} {v : Value}
theorem okWide_len {e : TypeId} (ht : P.underlying t = some (.slice e)) (h : Value.okWide P w r base t v) : ∃ a len cap, v = .slice a len cap ∧ len < 9223372036854775808 := by
  simp only [Value.okWide, ht, Cell.okWide] at h
  cases v with
  | slice a len cap =>
    refine ⟨a, len, cap, rfl, ?_⟩
    cases a with
    | none =>
      cases len with
      | zero => omega
      | succ n => simp [Cell.ok, ht] at h
    | some a =>
      simp only [Cell.ok, ht] at h
      have h1 : IntKind.i64.max = 9223372036854775807 := by decide
      omega
  | _ => simp_all [Cell.ok]
theorem okWide_has {k : IntKind} (ht : P.underlying t = some (.int k)) (h : Value.okWide P w r base t v) : ∃ n, v = .int k n ∧ k.min ≤ n ∧ n ≤ k.max := by
  obtain ⟨n, rfl⟩ := okWide_int ht h
  refine ⟨n, rfl, ?_⟩
  simp only [Value.okWide, ht, Cell.okWide] at h
  simp only [Cell.ok, ht, IntKind.has] at h
  exact h.2
end
theorem rep_len {P : Program} {h : Nat → Option Obj} {β : Nat → Value} {H : List Blk} {nl : Bool} {els : List AV} {a : Option Addr} {len cap : Nat} (x : Rep P h β H (.sl nl els) (.slice a len cap)) : els.length = len := by
  cases x with
  | slnil => rfl
  | slemp => rfl
  | sl us h1 => exact h1.symm
theorem ownK : ownKnob Try.prog.godebug = none := by kernel_rfl
theorem oByte : Opens Try.prog 5 1 (fun a : {n : Int // IntKind.u8.min ≤ n ∧ n ≤ IntKind.u8.max} => [AV.int .u8 a.1]) := .int (by kernel_rfl) (by kernel_rfl)
theorem oBytes : Opens Try.prog 22 1 (fun p : Bool × List Int => [AV.sl p.1 (bytes p.2)]) :=
  (Opens.slice (t := 22) (by kernel_rfl) (by kernel_rfl) oByte (by decide) (fun a => .int .u8 a.1) (fun _ => rfl)).as (fun p => ⟨(p.1.1, p.1.2.map (·.1)), by simp [bytes]⟩) (fun _ => rfl)
end GA
end

section
namespace GA
open Go Go.RowKit Go.Proofs
set_option maxRecDepth 8000
set_option linter.unusedVariables false
set_option linter.unusedSimpArgs false

theorem bit_ext {a b : Nat} (h : ∀ i, a.testBit i = b.testBit i) : a = b := Nat.eq_of_testBit_eq h
theorem Sub.refl (a : Nat) : Sub a a := fun _ h => h
theorem Sub.trans {a b c : Nat} (h : Sub a b) (k : Sub b c) : Sub a c := fun i x => k i (h i x)
theorem sub_half {a m : Nat} (h : Sub a m) : Sub (a / 2) (m / 2) := fun i x => by
  have := h (i + 1) (by rw [Nat.testBit_succ]; exact x)
  rwa [Nat.testBit_succ] at this
theorem sub_odd {a m : Nat} (h : Sub a m) : a % 2 ≤ m % 2 := by
  have := h 0
  simp only [Nat.testBit_zero, decide_eq_true_eq] at this
  omega
theorem and_half (a b : Nat) : (a &&& b) = 2 * ((a / 2) &&& (b / 2)) + ((a % 2) * (b % 2)) := by
  have h1 : (a &&& b) / 2 = (a / 2) &&& (b / 2) := Nat.and_div_two
  have h2 : (a &&& b) % 2 = (a % 2) * (b % 2) := by
    have e : (a &&& b).testBit 0 = (a.testBit 0 && b.testBit 0) := Nat.testBit_and ..
    simp only [Nat.testBit_zero] at e
    rcases Nat.mod_two_eq_zero_or_one a with ha | ha <;> rcases Nat.mod_two_eq_zero_or_one b with hb | hb <;> rcases Nat.mod_two_eq_zero_or_one (a &&& b) with hc | hc <;> simp [ha, hb, hc] at e ⊢
  omega
theorem sub_and {a m : Nat} (h : Sub a m) : a &&& m = a := bit_ext fun i => by
  rw [Nat.testBit_and]; cases e : a.testBit i
  · rfl
  · rw [h i e]; rfl
theorem sub_pred : ∀ (rest r m : Nat), Sub rest m → Sub r m → r < rest → r ≤ (rest - 1) &&& m := by
  intro rest
  induction rest using Nat.strongRecOn with
  | ind rest ih =>
    intro r m h1 h2 h3
    rw [and_half]
    have o2 := sub_odd h2
    rcases Nat.mod_two_eq_zero_or_one rest with hx | hx
    · have e1 : (rest - 1) / 2 = rest / 2 - 1 := by omega
      have e2 : (rest - 1) % 2 = 1 := by omega
      have := ih (rest / 2) (by omega) (r / 2) (m / 2) (sub_half h1) (sub_half h2) (by omega)
      rw [e1, e2]; omega
    · have e1 : (rest - 1) / 2 = rest / 2 := by omega
      have e2 : (rest - 1) % 2 = 0 := by omega
      rw [e1, e2, sub_and (sub_half h1)]; omega
theorem diff_and (a s l : Nat) : diff (a &&& s) l = a &&& diff s l := bit_ext fun i => by
  rw [diff_bit, Nat.testBit_and, Nat.testBit_and, diff_bit]; cases a.testBit i <;> cases s.testBit i <;> rfl
theorem sub_diff (s c : Nat) : Sub (diff s c) s := fun i h => by rw [diff_bit, Bool.and_eq_true] at h; exact h.1
theorem cartsF_all (d : Dk) (set : Nat) : ∀ (f rest : Nat), rest < f → Sub rest (diff set (lowb set)) → ∀ r, Sub r (diff set (lowb set)) → r ≤ rest → rightB d (r ||| lowb set) = true → r ||| lowb set ∈ cartsF d set f rest
  | 0, _, h, _, _, _, _, _ => absurd h (Nat.not_lt_zero _)
  | f + 1, rest, hf, hr, r, h1, h2, h3 => by
    rw [cartsF_succ, List.mem_append]
    by_cases he : r = rest
    · subst he; left; rw [if_pos h3]; exact List.mem_singleton.2 rfl
    · right
      rw [if_neg (by omega)]
      have e := sub_pred rest r _ hr h1 (by omega)
      rw [diff_and]
      have hle : (rest - 1) &&& diff set (lowb set) ≤ rest - 1 := Nat.and_le_left
      exact cartsF_all d set f _ (by omega) (fun i h => by rw [Nat.testBit_and, Bool.and_eq_true] at h; exact h.2) r h1 e h3
theorem lowb_one_all : ∀ s : Fin 512, s.val ≠ 0 → ∃ i : Fin 9, lowb s.val = 2 ^ i.val := by decide +kernel
theorem lowb_one {s : Nat} (h0 : s ≠ 0) (h : s < 512) : ∃ i, i < 9 ∧ lowb s = 2 ^ i := by
  obtain ⟨i, hi⟩ := lowb_one_all ⟨s, h⟩ h0
  exact ⟨i.val, i.isLt, hi⟩
theorem sub_pow {i c : Nat} : Sub (2 ^ i) c ↔ c.testBit i = true := by
  constructor
  · intro h; exact h i (by rw [Nat.testBit_two_pow_self])
  · intro h j hj; rw [Nat.testBit_two_pow, decide_eq_true_eq] at hj; subst hj; exact h
theorem carts_iff (d : Dk) {set c : Nat} (h9 : set < 512) : c ∈ cartsL d set ↔ Sub c set ∧ Sub (lowb set) c ∧ rightB d c = true := by
  refine ⟨carts_sub d, fun ⟨h1, h2, h3⟩ => ?_⟩
  have e : diff c (lowb set) ||| lowb set = c := bit_ext fun i => by
    rw [Nat.testBit_or, diff_bit]
    cases hc : c.testBit i
    · cases hl : (lowb set).testBit i
      · rfl
      · rw [h2 i hl] at hc; cases hc
    · cases hl : (lowb set).testBit i <;> rfl
  have hs : Sub (diff c (lowb set)) (diff set (lowb set)) := fun i h => by
    rw [diff_bit, Bool.and_eq_true] at h ⊢; exact ⟨h1 i h.1, h.2⟩
  have := cartsF_all d set 512 (diff set (lowb set)) (by have := diff_le set (lowb set); omega) (Sub.refl _) (diff c (lowb set)) hs hs.le (by rw [e]; exact h3)
  rw [e] at this; exact this

inductive Pk (R : Nat → Bool) : Nat → Nat → Prop
  | nil : Pk R 0 0
  | cons {n set : Nat} (c : Nat) (hr : R c = true) (hs : Sub c set) (h0 : c ≠ 0) (t : Pk R n (diff set c)) : Pk R (n + 1) set
theorem diff_diff (s a b : Nat) : diff (diff s a) b = diff (diff s b) a := bit_ext fun i => by
  simp only [diff_bit]; cases s.testBit i <;> cases a.testBit i <;> cases b.testBit i <;> rfl
theorem ne_zero_bit {c i : Nat} (h : c.testBit i = true) : c ≠ 0 := fun e => by rw [e, Nat.zero_testBit] at h; cases h
theorem Pk.first {R : Nat → Bool} {n set i : Nat} (h : Pk R n set) (hi : set.testBit i = true) : ∃ c k, n = k + 1 ∧ R c = true ∧ Sub c set ∧ c.testBit i = true ∧ Pk R k (diff set c) := by
  induction h with
  | nil => rw [Nat.zero_testBit] at hi; cases hi
  | @cons n set c hr hs h0 t ih =>
    cases hc : c.testBit i
    · obtain ⟨c', k, h1, h2, h3, h4, h5⟩ := ih (by rw [diff_bit, hi, hc]; rfl)
      subst h1
      refine ⟨c', k + 1, rfl, h2, h3.trans (sub_diff _ _), h4, .cons c hr (fun j hj => ?_) h0 (by rw [diff_diff]; exact h5)⟩
      rw [diff_bit, hs j hj]
      cases hc' : c'.testBit j
      · rfl
      · have := h3 j hc'; rw [diff_bit, hj, Bool.not_true, Bool.and_false] at this; cases this
    · exact ⟨c, n, rfl, hr, hs, hc, t⟩
theorem Pk.zero {R : Nat → Bool} {n : Nat} (h : Pk R n 0) : n = 0 := by
  cases h with
  | nil => rfl
  | cons c hr hs h0 t => exact absurd (Nat.le_zero.1 hs.le) h0
theorem Pk.none {R : Nat → Bool} {set : Nat} (h : Pk R 0 set) : set = 0 := by cases h; rfl
theorem Pk.mono {R R' : Nat → Bool} {n set : Nat} (h : Pk R n set) (hR : ∀ c, Sub c set → R c = true → R' c = true) : Pk R' n set := by
  induction h with
  | nil => exact .nil
  | cons c hr hs h0 t ih => exact .cons c (hR c hs hr) hs h0 (ih fun c' hc' => hR c' (hc'.trans (sub_diff _ _)))
structure IsOpt (R : Nat → Bool) (set v : Nat) : Prop where
  le : v ≤ 10
  lo : ∀ n, Pk R n set → v ≤ n
  is : v < 10 → Pk R v set
theorem IsOpt.eq {R : Nat → Bool} {set v v' : Nat} (h : IsOpt R set v) (h' : IsOpt R set v') : v = v' := by
  rcases Nat.lt_trichotomy v v' with hl | hl | hl
  · have := h'.lo v (h.is (by have := h'.le; omega)); omega
  · exact hl
  · have := h.lo v' (h'.is (by have := h.le; omega)); omega
def MemOk (R : Nat → Bool) (m : List (Int × Nat)) : Prop := ∀ (s : Nat) v, look (s : Int) m = some v → IsOpt R s v
theorem ofM_opt (d : Dk) : ∀ (f set : Nat) (m : List (Int × Nat)), set < f → set < 512 → MOk m → MemOk (rightB d) m → IsOpt (rightB d) set (ofM d f set m).1 ∧ MemOk (rightB d) (ofM d f set m).2
  | 0, _, _, h, _, _, _ => absurd h (Nat.not_lt_zero _)
  | f + 1, set, m, hf, h9, mo, me => by
    rw [ofM_succ]
    cases hl : look (set : Int) m with
    | some v => exact ⟨me set v hl, me⟩
    | none =>
      have h0 : set ≠ 0 := fun e => by subst e; rw [show ((0 : Nat) : Int) = 0 from rfl, mo.z] at hl; cases hl
      obtain ⟨i, _, hi⟩ := lowb_one h0 h9
      have hbit : set.testBit i = true := sub_pow.1 (hi ▸ lowb_sub set)
      have fold : ∀ (cs : List Nat) (p : Nat × List (Int × Nat)), (∀ c ∈ cs, c ∈ cartsL d set) → p.1 ≤ 10 → (p.1 < 10 → Pk (rightB d) p.1 set) → MOk p.2 → MemOk (rightB d) p.2 →
          ((cs.foldl (ofStep d f set) p).1 ≤ 10 ∧ ((cs.foldl (ofStep d f set) p).1 < 10 → Pk (rightB d) (cs.foldl (ofStep d f set) p).1 set) ∧ (cs.foldl (ofStep d f set) p).1 ≤ p.1 ∧ (∀ c ∈ cs, ∀ n, Pk (rightB d) n (diff set c) → (cs.foldl (ofStep d f set) p).1 ≤ n + 1)) ∧
          MemOk (rightB d) (cs.foldl (ofStep d f set) p).2 := by
        intro cs
        induction cs with
        | nil => intro p _ h1 h2 h3 h4; exact ⟨⟨h1, h2, Nat.le_refl _, by simp⟩, h4⟩
        | cons c cs ih =>
          intro p hc h1 h2 h3 h4
          rw [List.foldl_cons]
          have hm := hc c List.mem_cons_self
          obtain ⟨k1, k2, k3⟩ := carts_sub d hm
          obtain ⟨hlt, hc9⟩ := carts_lt d (by omega) h9 hm
          obtain ⟨g1, g2⟩ := ofM_opt d f (diff set c) p.2 (by omega) (by omega) h3 h4
          obtain ⟨g3, g4⟩ := ofM_ok d f (diff set c) p.2 h3
          obtain ⟨⟨a1, a2, a3, a4⟩, a5⟩ := ih (ofStep d f set p c) (fun x hx => hc x (List.mem_cons_of_mem _ hx)) (by simp only [ofStep]; omega) (fun hlt10 => by
            simp only [ofStep] at hlt10 ⊢
            rcases Nat.le_total p.1 ((ofM d f (diff set c) p.2).1 + 1) with hle | hle
            · rw [Nat.min_eq_left hle] at hlt10 ⊢; exact h2 hlt10
            · rw [Nat.min_eq_right hle] at hlt10 ⊢
              exact .cons c k3 k1 (ne_zero_bit (k2 i (by rw [hi, Nat.testBit_two_pow_self]))) (g1.is (by omega))) g4 g2
          refine ⟨⟨a1, a2, ?_, ?_⟩, a5⟩
          · exact Nat.le_trans a3 (Nat.min_le_left _ _)
          · intro x hx n hn
            rcases List.mem_cons.1 hx with rfl | hx
            · have := g1.lo n hn; have h5 := Nat.le_trans a3 (Nat.min_le_right _ _); omega
            · exact a4 x hx n hn
      obtain ⟨⟨a1, a2, _, a4⟩, a5⟩ := fold (cartsL d set) (10, m) (fun _ h => h) (Nat.le_refl 10) (fun h => absurd h (by simp)) mo me
      have hopt : IsOpt (rightB d) set ((cartsL d set).foldl (ofStep d f set) (10, m)).1 := ⟨a1, fun n hn => by
        obtain ⟨c, k, rfl, h1, h2, h3, h4⟩ := hn.first hbit
        exact a4 c ((carts_iff d h9).2 ⟨h2, hi ▸ sub_pow.2 h3, h1⟩) k h4, a2⟩
      refine ⟨hopt, fun s v e => ?_⟩
      rw [look_put] at e
      split at e
      · rename_i he; cases e; have : s = set := by omega
        subst this; exact hopt
      · exact a5 s v e
theorem memOk_zero (R : Nat → Bool) : MemOk R [(0, 0)] := fun s v h => by
  simp only [look] at h
  split at h
  · rename_i e; cases h; have : s = 0 := by omega
    subst this; exact ⟨by omega, fun _ _ => Nat.zero_le _, fun _ => .nil⟩
  · cases h
theorem many_opt (d : Dk) (h : d.l.sacks.length ≤ 9) : IsOpt (rightB d) (allD d) (manyD d) := by
  have hall : allD d < 512 := by have := pow9 h; unfold allD; omega
  exact (ofM_opt d 512 (allD d) _ hall hall MOk.zero (memOk_zero _)).1
end GA
end

section
namespace GA
open Go Go.RowKit Go.Proofs
set_option maxRecDepth 8000
set_option linter.unusedVariables false
set_option linter.unusedSimpArgs false

theorem bitsF_iff : ∀ (f i s : Nat), s < 2 ^ f → ∀ x : Int, x ∈ bitsF f i s ↔ ∃ j : Nat, x = ((i + j : Nat) : Int) ∧ s.testBit j = true
  | 0, i, s, h, x => by
    have : s = 0 := by simpa using h
    subst this
    simp [bitsF]
  | f + 1, i, s, h, x => by
    have ih := bitsF_iff f (i + 1) (s / 2) (by rw [Nat.pow_succ] at h; omega) x
    have hz : (∃ j : Nat, x = ((i + j : Nat) : Int) ∧ s.testBit j = true) ↔ (x = (i : Int) ∧ s % 2 = 1) ∨ ∃ j : Nat, x = ((i + 1 + j : Nat) : Int) ∧ (s / 2).testBit j = true := by
      constructor
      · rintro ⟨j, h1, h2⟩
        rcases j with _ | j
        · left; rw [Nat.testBit_zero, decide_eq_true_eq] at h2; exact ⟨by simpa using h1, h2⟩
        · right; rw [Nat.testBit_succ] at h2; exact ⟨j, by rw [h1]; congr 1; omega, h2⟩
      · rintro (⟨h1, h2⟩ | ⟨j, h1, h2⟩)
        · exact ⟨0, by simpa using h1, by rw [Nat.testBit_zero, decide_eq_true_eq]; exact h2⟩
        · exact ⟨j + 1, by rw [h1]; congr 1; omega, by rw [Nat.testBit_succ]; exact h2⟩
    rw [hz, ← ih]
    have e : bitsF (f + 1) i s = if s = 0 then [] else if s % 2 = 1 then (i : Int) :: bitsF f (i + 1) (s / 2) else bitsF f (i + 1) (s / 2) := rfl
    rw [e]
    split
    · rename_i h0; subst h0; rw [Nat.zero_div, bitsF_zero]; simp
    · split
      · rename_i h1; rw [List.mem_cons]; simp [h1]
      · rename_i h1; simp [h1]
theorem bits_iff {s : Nat} (h : s < 512) (x : Int) : x ∈ bits s ↔ ∃ j : Nat, x = (j : Int) ∧ s.testBit j = true := by
  have := bitsF_iff 62 0 s (by omega) x
  unfold bits
  simpa using this
theorem inSet_bit (set : Nat) (p : Int) : inSet set p = set.testBit p.toNat := by
  unfold inSet; rw [Nat.testBit_eq_decide_div_mod_eq]
  rcases Nat.mod_two_eq_zero_or_one (set / 2 ^ p.toNat) with h | h <;> rw [h] <;> rfl
theorem diff_zero {a b : Nat} : diff a b = 0 ↔ Sub a b := by
  constructor
  · intro h i hi
    cases hb : b.testBit i
    · have := diff_bit a b i; rw [h, hi, hb, Nat.zero_testBit] at this; cases this
    · rfl
  · intro h
    apply bit_ext; intro i
    rw [diff_bit, Nat.zero_testBit]
    cases ha : a.testBit i
    · rfl
    · rw [h i ha]; rfl
def allP (b : List Nat) (p : Int × Int) : Nat := b.getD p.1.toNat 0 ||| b.getD p.2.toNat 0
theorem joinStep_get (b : List Nat) (p : Int × Int) {i : Nat} (hi : i < b.length) : (joinStep b p).getD i 0 = if (allP b p).testBit i = true then b.getD i 0 ||| allP b p else b.getD i 0 := by
  have e : (allP b p).testBit i = decide ((b.getD p.1.toNat 0 ||| b.getD p.2.toNat 0) / 2 ^ i % 2 = 1) := Nat.testBit_eq_decide_div_mod_eq
  rw [e]
  unfold joinStep allP
  simp only [List.getD_eq_getElem?_getD, List.getElem?_mapIdx, List.getElem?_eq_getElem hi, Option.map_some, Option.getD_some, decide_eq_true_eq]
theorem joinStep_none (b : List Nat) (p : Int × Int) {i : Nat} (hi : ¬ i < b.length) : (joinStep b p).getD i 0 = 0 := by
  rw [List.getD_eq_getElem?_getD, List.getElem?_eq_none (by rw [joinStep_len]; omega)]; rfl
theorem joinStep_sub (b : List Nat) (p : Int × Int) (i : Nat) : Sub (b.getD i 0) ((joinStep b p).getD i 0) := by
  by_cases hi : i < b.length
  · rw [joinStep_get b p hi]; split
    · intro j hj; rw [Nat.testBit_or, hj]; rfl
    · exact Sub.refl _
  · rw [List.getD_eq_getElem?_getD, List.getElem?_eq_none (by omega)]; exact Sub.zero _
theorem foldl_sub : ∀ (ps : List (Int × Int)) (b : List Nat) (i : Nat), Sub (b.getD i 0) ((ps.foldl joinStep b).getD i 0)
  | [], _, _ => Sub.refl _
  | p :: ps, b, i => by rw [List.foldl_cons]; exact (joinStep_sub b p i).trans (foldl_sub ps _ i)
theorem closeF_sub (l : Ld) : ∀ (n : Nat) (b : List Nat) (i : Nat), Sub (b.getD i 0) ((closeF l n b).getD i 0)
  | 0, _, _ => Sub.refl _
  | n + 1, b, i => by
    show Sub _ ((if joinR l b = b then b else closeF l n (joinR l b)).getD i 0)
    split
    · exact Sub.refl _
    · exact (foldl_sub _ b i).trans (closeF_sub l n _ i)
theorem closeF_fix (l : Ld) : ∀ (n : Nat) (b : List Nat), msr b < n → (∀ i, b.getD i 0 < 512) → joinR l (closeF l n b) = closeF l n b
  | 0, _, h, _ => absurd h (Nat.not_lt_zero _)
  | n + 1, b, h, hs => by
    show joinR l (if joinR l b = b then b else closeF l n (joinR l b)) = if joinR l b = b then b else closeF l n (joinR l b)
    split
    · assumption
    · rename_i hne
      have := msr_lt b (joinR l b) (joinR_len l b).symm (joinR_ge l b) (joinR_small l b hs) (Ne.symm hne)
      exact closeF_fix l n _ (by omega) (joinR_small l b hs)
theorem foldl_fix : ∀ (ps : List (Int × Int)) (b : List Nat), ps.foldl joinStep b = b → ∀ p ∈ ps, joinStep b p = b
  | [], _, _, _, h => by simp at h
  | q :: ps, b, h, p, hp => by
    rw [List.foldl_cons] at h
    have hq : joinStep b q = b := by
      refine eq_of_getD (d := 0) (joinStep_len b q) fun j _ => ?_
      have h1 := joinStep_ge b q j
      have h2 := foldl_ge ps (joinStep b q) j
      rw [h] at h2; omega
    rcases List.mem_cons.1 hp with rfl | hp
    · exact hq
    · rw [hq] at h; exact foldl_fix ps b h p hp
def Cl (l : Ld) (c : Nat) : Prop := ∀ p ∈ l.wth, c.testBit p.1.toNat = c.testBit p.2.toNat
def Inv (c : Nat) (b : List Nat) : Prop := ∀ i, (c.testBit i = true → Sub (b.getD i 0) c) ∧ (c.testBit i = false → ∀ j, (b.getD i 0).testBit j = true → c.testBit j = false)
theorem Inv.step {c : Nat} {b : List Nat} {p : Int × Int} (h : Inv c b) (hp : c.testBit p.1.toNat = c.testBit p.2.toNat) : Inv c (joinStep b p) := by
  intro i
  by_cases hi : i < b.length
  · rw [joinStep_get b p hi]
    split
    · rename_i ha
      unfold allP at ha ⊢
      cases h1 : c.testBit p.1.toNat
      · have k1 := (h p.1.toNat).2 h1
        have k2 := (h p.2.toNat).2 (hp ▸ h1)
        have hci : c.testBit i = false := by
          rw [Nat.testBit_or, Bool.or_eq_true] at ha
          exact ha.elim (k1 i) (k2 i)
        refine ⟨fun e => (by rw [hci] at e; cases e), fun _ j hj => ?_⟩
        rw [Nat.testBit_or, Nat.testBit_or, Bool.or_eq_true, Bool.or_eq_true] at hj
        rcases hj with hj | hj | hj
        · exact (h i).2 hci j hj
        · exact k1 j hj
        · exact k2 j hj
      · have k1 := (h p.1.toNat).1 h1
        have k2 := (h p.2.toNat).1 (hp ▸ h1)
        have hci : c.testBit i = true := by
          rw [Nat.testBit_or, Bool.or_eq_true] at ha
          exact ha.elim (k1 i) (k2 i)
        refine ⟨fun _ j hj => ?_, fun e => (by rw [hci] at e; cases e)⟩
        rw [Nat.testBit_or, Nat.testBit_or, Bool.or_eq_true, Bool.or_eq_true] at hj
        rcases hj with hj | hj | hj
        · exact (h i).1 hci j hj
        · exact k1 j hj
        · exact k2 j hj
    · exact h i
  · rw [joinStep_none b p hi]
    exact ⟨fun _ => Sub.zero _, fun _ j hj => by rw [Nat.zero_testBit] at hj; cases hj⟩
theorem Inv.fold {c : Nat} : ∀ (ps : List (Int × Int)) (b : List Nat), (∀ p ∈ ps, c.testBit p.1.toNat = c.testBit p.2.toNat) → Inv c b → Inv c (ps.foldl joinStep b)
  | [], _, _, h => h
  | p :: ps, b, hp, h => by rw [List.foldl_cons]; exact Inv.fold ps _ (fun q hq => hp q (List.mem_cons_of_mem _ hq)) (h.step (hp p List.mem_cons_self))
theorem Inv.close {l : Ld} {c : Nat} (hc : Cl l c) : ∀ (n : Nat) (b : List Nat), Inv c b → Inv c (closeF l n b)
  | 0, _, h => h
  | n + 1, b, h => by
    show Inv c (if joinR l b = b then b else closeF l n (joinR l b))
    split
    · exact h
    · exact Inv.close hc n _ (Inv.fold _ _ hc h)
theorem ndI_get {n i : Nat} (hi : i < 9) : (ndI n).getD i 0 = if i < n then 2 ^ i else 0 := by
  unfold ndI; rw [List.getD_eq_getElem?_getD, List.getElem?_map, List.getElem?_range hi]; rfl
theorem Inv.zero (c n : Nat) : Inv c (ndI n) := by
  intro i
  by_cases hi : i < 9
  · rw [ndI_get hi]
    split
    · refine ⟨fun h => sub_pow.2 h, fun h j hj => ?_⟩
      rw [Nat.testBit_two_pow, decide_eq_true_eq] at hj; subst hj; exact h
    · exact ⟨fun _ => Sub.zero _, fun _ j hj => by rw [Nat.zero_testBit] at hj; cases hj⟩
  · rw [List.getD_eq_getElem?_getD, List.getElem?_eq_none (by rw [ndI_len]; omega)]
    exact ⟨fun _ => Sub.zero _, fun _ j hj => by rw [Option.getD_none, Nat.zero_testBit] at hj; cases hj⟩
theorem nd_self {l : Ld} (o : LdOk l) {i : Nat} (hi : i < l.sacks.length) : ((openD l).nd.getD i 0).testBit i = true := by
  refine closeF_sub l 5000 (ndI l.sacks.length) i i ?_
  rw [ndI_get (by have := o.n; omega), if_pos hi, Nat.testBit_two_pow_self]
theorem nd_least {l : Ld} {c : Nat} (hc : Cl l c) {i : Nat} (hi : c.testBit i = true) : Sub ((openD l).nd.getD i 0) c :=
  (Inv.close hc 5000 _ (Inv.zero c _) i).1 hi
theorem nd_fix {l : Ld} (o : LdOk l) : ∀ p ∈ l.wth, joinStep (openD l).nd p = (openD l).nd :=
  foldl_fix _ _ (closeF_fix l 5000 _ (by have := msr_le (ndI l.sacks.length) (ndI_len _); omega) (ndI_small _))
theorem nd_len {l : Ld} : (openD l).nd.length = 9 := by show (closeF l 5000 _).length = 9; rw [closeF_len, ndI_len]
structure RightP (l : Ld) (c : Nat) : Prop where
  w : (sumW (wts l) c : Int) ≤ l.bears
  wp : Cl l c
  ap : ∀ p ∈ l.apart, ¬ (c.testBit p.1.toNat = true ∧ c.testBit p.2.toNat = true)
theorem hv_get {l : Ld} (o : LdOk l) {c : Nat} (hc : c < 2 ^ l.sacks.length) : (openD l).hv.getD c 0 = sumW (wts l) c := by
  have := pow9 o.n
  show (hvF (wts l) (2 ^ l.sacks.length)).getD c 0 = _
  rw [hvF_get (by omega), if_pos hc]
theorem bit_lt {c n i : Nat} (hc : c < 2 ^ n) (hi : c.testBit i = true) : i < n := by
  rcases Nat.lt_or_ge i n with h | h
  · exact h
  · rw [Nat.testBit_lt_two_pow (Nat.lt_of_lt_of_le hc (Nat.pow_le_pow_right (by omega) h))] at hi; cases hi
theorem whole_iff {l : Ld} (o : LdOk l) {c : Nat} (hc : c < 2 ^ l.sacks.length) : wholeB (openD l) c = true ↔ Cl l c ∧ ∀ p ∈ l.apart, ¬ (c.testBit p.1.toNat = true ∧ c.testBit p.2.toNat = true) := by
  have h9 := pow9 o.n
  have hn := o.n
  have hw : ((bits c).all fun i => diff ((openD l).nd.getD i.toNat 0) c == 0) = true ↔ ∀ i : Nat, c.testBit i = true → Sub ((openD l).nd.getD i 0) c := by
    rw [List.all_eq_true]
    constructor
    · intro h i hi
      have := h (i : Int) ((bits_iff (by omega) _).2 ⟨i, rfl, hi⟩)
      rw [beq_iff_eq] at this; exact diff_zero.1 this
    · intro h x hx
      obtain ⟨j, rfl, hj⟩ := (bits_iff (by omega) _).1 hx
      rw [beq_iff_eq]; exact diff_zero.2 (h j hj)
  have ha : (l.apart.all fun p => !inSet c p.1 || !inSet c p.2) = true ↔ ∀ p ∈ l.apart, ¬ (c.testBit p.1.toNat = true ∧ c.testBit p.2.toNat = true) := by
    rw [List.all_eq_true]
    constructor
    · intro h p hp
      have := h p hp
      simp only [inSet_bit] at this
      rintro ⟨h1, h2⟩
      rw [h1, h2] at this; cases this
    · intro h p hp
      have := h p hp
      simp only [inSet_bit]
      cases h1 : c.testBit p.1.toNat
      · rfl
      · cases h2 : c.testBit p.2.toNat
        · rfl
        · exact absurd ⟨h1, h2⟩ this
  unfold wholeB
  rw [Bool.and_eq_true, hw]
  show _ ∧ (l.apart.all fun p => !inSet c p.1 || !inSet c p.2) = true ↔ _
  rw [ha]
  refine and_congr_left fun _ => ?_
  constructor
  · intro h p hp
    have b := o.wp p hp
    have e := nd_fix o p hp
    have k1 := nd_self o (i := p.1.toNat) (by omega)
    have k2 := nd_self o (i := p.2.toNat) (by omega)
    have g1 : (allP (openD l).nd p).testBit p.1.toNat = true := by unfold allP; rw [Nat.testBit_or, k1]; rfl
    have g2 : (allP (openD l).nd p).testBit p.2.toNat = true := by unfold allP; rw [Nat.testBit_or, k2, Bool.or_true]
    have e1 := joinStep_get (openD l).nd p (i := p.1.toNat) (by rw [nd_len]; omega)
    have e2 := joinStep_get (openD l).nd p (i := p.2.toNat) (by rw [nd_len]; omega)
    rw [e, if_pos g1] at e1
    rw [e, if_pos g2] at e2
    have s1 : c.testBit p.1.toNat = true → c.testBit p.2.toNat = true := fun hb => h _ hb _ (by rw [e1, Nat.testBit_or, g2, Bool.or_true])
    have s2 : c.testBit p.2.toNat = true → c.testBit p.1.toNat = true := fun hb => h _ hb _ (by rw [e2, Nat.testBit_or, g1, Bool.or_true])
    cases hb1 : c.testBit p.1.toNat
    · cases hb2 : c.testBit p.2.toNat
      · rfl
      · rw [s2 hb2] at hb1; cases hb1
    · rw [s1 hb1]
  · intro h i hi; exact nd_least h hi
theorem right_iff {l : Ld} (o : LdOk l) {c : Nat} (hc : c < 2 ^ l.sacks.length) : rightB (openD l) c = true ↔ RightP l c := by
  unfold rightB
  rw [Bool.and_eq_true, decide_eq_true_eq, hv_get o hc, whole_iff o hc]
  exact ⟨fun ⟨h1, h2, h3⟩ => ⟨h1, h2, h3⟩, fun h => ⟨h.w, h.wp, h.ap⟩⟩
end GA
end

section
namespace GA
open Go Go.RowKit Go.Proofs
set_option maxRecDepth 8000
set_option linter.unusedVariables false
set_option linter.unusedSimpArgs false

theorem diff_half (a b : Nat) : diff a b / 2 = diff (a / 2) (b / 2) := bit_ext fun i => by
  rw [← Nat.testBit_succ, diff_bit, diff_bit, Nat.testBit_succ, Nat.testBit_succ]
theorem diff_odd {a b : Nat} (h : Sub b a) : diff a b % 2 + b % 2 = a % 2 := by
  have e := diff_bit a b 0
  have hs := sub_odd h
  simp only [Nat.testBit_zero] at e
  rcases Nat.mod_two_eq_zero_or_one a with ha | ha <;> rcases Nat.mod_two_eq_zero_or_one b with hb | hb <;> rcases Nat.mod_two_eq_zero_or_one (diff a b) with hc | hc <;> simp [ha, hb, hc] at e hs ⊢
theorem sumW_split : ∀ (ws : List Nat) (s c : Nat), Sub c s → sumW ws (diff s c) + sumW ws c = sumW ws s
  | [], _, _, _ => rfl
  | w :: ws, s, c, h => by
    have ih := sumW_split ws (s / 2) (c / 2) (sub_half h)
    have ho := diff_odd h
    unfold sumW
    rw [diff_half]
    rcases Nat.mod_two_eq_zero_or_one s with ha | ha <;> rcases Nat.mod_two_eq_zero_or_one c with hb | hb <;> rcases Nat.mod_two_eq_zero_or_one (diff s c) with hc | hc <;> simp only [ha, hb, hc] at ho ⊢ <;> simp <;> omega
theorem sumW_le_of : ∀ (ws vs : List Nat) (s : Nat), ws.length = vs.length → (∀ i, ws.getD i 0 ≤ vs.getD i 0) → sumW ws s ≤ sumW vs s
  | [], [], _, _, _ => Nat.le_refl _
  | w :: ws, v :: vs, s, hl, h => by
    have h0 := h 0
    have := sumW_le_of ws vs (s / 2) (by simpa using hl) (fun i => by simpa using h (i + 1))
    simp only [List.getD_cons_zero] at h0
    unfold sumW; split <;> omega
  | [], _ :: _, _, hl, _ => by simp at hl
  | _ :: _, [], _, hl, _ => by simp at hl
theorem sumW_all : ∀ (ws : List Nat), sumW ws (2 ^ ws.length - 1) = ws.sum
  | [] => rfl
  | w :: ws => by
    have hp := Nat.two_pow_pos ws.length
    have e1 : (2 ^ (ws.length + 1) - 1) % 2 = 1 := by rw [Nat.pow_succ]; omega
    have e2 : (2 ^ (ws.length + 1) - 1) / 2 = 2 ^ ws.length - 1 := by rw [Nat.pow_succ]; omega
    unfold sumW
    rw [List.length_cons, e1, e2, sumW_all ws, List.sum_cons, if_pos rfl]
theorem Pk.sum {R : Nat → Bool} {n set : Nat} (h : Pk R n set) (ws : List Nat) (k : Nat) (hR : ∀ c, Sub c set → R c = true → sumW ws c ≤ k) : sumW ws set ≤ n * k := by
  induction h with
  | nil => rw [sumW_zero]; exact Nat.zero_le _
  | @cons n set c hr hs h0 t ih =>
    have h1 := ih fun c' hc' => hR c' (hc'.trans (sub_diff _ _))
    have h2 := hR c hs hr
    have h3 := sumW_split ws set c hs
    rw [Nat.succ_mul]; omega
theorem ones_pos : ∀ (k c : Nat), c ≠ 0 → c < 2 ^ k → 1 ≤ sumW (List.replicate k 1) c
  | 0, c, h0, h => absurd (by simpa using h) h0
  | k + 1, c, h0, h => by
    show 1 ≤ sumW (1 :: List.replicate k 1) c
    unfold sumW
    rcases Nat.mod_two_eq_zero_or_one c with hc | hc
    · have := ones_pos k (c / 2) (by omega) (by rw [Nat.pow_succ] at h; omega)
      omega
    · rw [if_pos hc]; omega
theorem Pk.count {R : Nat → Bool} {n set k : Nat} (h : Pk R n set) (hs : set < 2 ^ k) : n ≤ sumW (List.replicate k 1) set := by
  induction h with
  | nil => exact Nat.zero_le _
  | @cons n set c hr hsb h0 t ih =>
    have h1 := ih (Nat.lt_of_le_of_lt (diff_le _ _) hs)
    have h2 := ones_pos k c h0 (Nat.lt_of_le_of_lt hsb.le hs)
    have h3 := sumW_split (List.replicate k 1) set c hsb
    omega
theorem ones_le (k set : Nat) : sumW (List.replicate k 1) set ≤ k := by
  induction k generalizing set with
  | zero => exact Nat.zero_le _
  | succ k ih =>
    show sumW (1 :: List.replicate k 1) set ≤ _
    have := ih (set / 2)
    unfold sumW; split <;> omega
theorem Pk.len {R : Nat → Bool} {n k : Nat} (h : Pk R n (2 ^ k - 1)) : n ≤ k := by
  have hp := Nat.two_pow_pos k
  have := h.count (k := k) (by omega)
  have := ones_le k (2 ^ k - 1)
  omega
theorem Pk.tail {R R' : Nat → Bool} (hR : ∀ c, R c = true → R' (c / 2) = true) {n set : Nat} (h : Pk R n set) : ∃ k, k ≤ n ∧ Pk R' k (set / 2) := by
  induction h with
  | nil => exact ⟨0, Nat.le_refl _, .nil⟩
  | @cons n set c hr hs h0 t ih =>
    obtain ⟨k, hk, hp⟩ := ih
    rw [diff_half] at hp
    by_cases hc : c / 2 = 0
    · refine ⟨k, by omega, ?_⟩
      have e : diff (set / 2) (c / 2) = set / 2 := by
        rw [hc]; exact bit_ext fun i => by rw [diff_bit, Nat.zero_testBit]; cases (set / 2).testBit i <;> rfl
      rwa [e] at hp
    · exact ⟨k + 1, by omega, .cons (c / 2) (hR c hr) (sub_half hs) hc hp⟩
theorem RightP.free {l : Ld} (ha : l.apart = []) (hw : l.wth = []) {c : Nat} : RightP l c ↔ (sumW (wts l) c : Int) ≤ l.bears :=
  ⟨fun h => h.w, fun h => ⟨h, fun p hp => by rw [hw] at hp; simp at hp, fun p hp => by rw [ha] at hp; simp at hp⟩⟩
end GA
end

section
namespace GA
open Go Go.RowKit Go.Proofs
set_option maxRecDepth 8000
set_option linter.unusedVariables false
set_option linter.unusedSimpArgs false

theorem XPut.ints {els : List AV} {n e : Nat} {k : List AV → Prop} (xs : List Int) (x : Int) (hE : els = GA.ints xs) (h1 : n = xs.length) (h2 : e < n) (h : k (GA.ints (xs.set e x))) : XPut els n e (.int .i64 x) k := by
  subst hE; exact XPut.map (f := .int .i64) x rfl h1 h2 h
end GA
end

section
namespace GA
open Go Go.RowKit
set_option linter.unusedVariables false

section
variable {P : Program} {T : Tab} {N : Nat} {ρ : Option Nat} {H : List Blk} {σ : St} {D : List Nat}
theorem Walk.place {c : Code} {Q : Post} (x : Walk P N ρ c Q D σ (H ++ [.free])) : Walk P N ρ c Q D σ H := by
  constructor
  intro E h β a w s
  obtain ⟨s', X⟩ := s.sr.push (w' := w) s.sr.env (fun _ _ => rfl) (.pointer none) .free (by intro b hb; simp [anchor] at hb) (fun _ => trivial)
  exact wpIn_mono (x.o E h _ a w ⟨s', fun u r e => let ⟨v, h1, h2⟩ := s.fits u r e; ⟨v, h1, X.rep h2⟩, s.size, s.df.ext X⟩) fun _ _ _ => Conc.ext X
theorem XFree.at {H : List Blk} {b : Blk} {k : Nat → List Blk → Prop} (i : Nat) (h1 : lget H i = some .free) (h2 : hset H i b fun H' => k i H') : XFree H b k := ⟨i, h1, h2⟩
end
end GA
end

section
namespace GA
open Go Go.RowKit Go.Proofs
set_option pp.deepTerms true
set_option maxRecDepth 8000
set_option linter.unusedVariables false
set_option linter.unusedSimpArgs false

theorem XArr.gp {i m' e o : Nat} {n : Int} {m w : Nat} {k : AV → Prop} (h1 : 0 ≤ n) (h2 : n < m) (h : k (.gp i m' e (o + n.toNat * w))) : XArr (.gp i m' e o) n m w k := ⟨h1, h2, h⟩
end GA
end

section
namespace GA
open Go Go.RowKit Go.Proofs
set_option maxRecDepth 8000
set_option linter.unusedVariables false
set_option linter.unusedSimpArgs false

structure Eqv (n : Nat) (b : List Nat) : Prop where
  self : ∀ i, i < n → (b.getD i 0).testBit i = true
  same : ∀ i j, (b.getD j 0).testBit i = true → b.getD i 0 = b.getD j 0
  lt : ∀ i j, (b.getD j 0).testBit i = true → i < n ∧ j < n
theorem Eqv.zero {n : Nat} (hn : n ≤ 9) : Eqv n (ndI n) := by
  have g : ∀ i j, ((ndI n).getD j 0).testBit i = true → i = j ∧ j < n := by
    intro i j h
    by_cases hj : j < 9
    · rw [ndI_get hj] at h
      split at h
      · rw [Nat.testBit_two_pow, decide_eq_true_eq] at h; exact ⟨h.symm, by assumption⟩
      · rw [Nat.zero_testBit] at h; cases h
    · rw [List.getD_eq_getElem?_getD, List.getElem?_eq_none (by rw [ndI_len]; omega), Option.getD_none, Nat.zero_testBit] at h; cases h
  refine ⟨fun i hi => ?_, fun i j h => by rw [(g i j h).1], fun i j h => ?_⟩
  · rw [ndI_get (by omega), if_pos hi, Nat.testBit_two_pow_self]
  · have := g i j h; omega
theorem Eqv.step {n : Nat} {b : List Nat} {p : Int × Int} (h : Eqv n b) (hn : n ≤ 9) (hb : b.length = 9) (h1 : p.1.toNat < n) (h2 : p.2.toNat < n) : Eqv n (joinStep b p) := by
  have ain : ∀ x, (allP b p).testBit x = true → (b.getD p.1.toNat 0).testBit x = true ∨ (b.getD p.2.toNat 0).testBit x = true := fun x hx => by
    unfold allP at hx; rw [Nat.testBit_or, Bool.or_eq_true] at hx; exact hx
  have sub : ∀ x, (allP b p).testBit x = true → Sub (b.getD x 0) (allP b p) := by
    intro x hx y hy
    unfold allP; rw [Nat.testBit_or, Bool.or_eq_true]
    rcases ain x hx with hx | hx
    · rw [h.same _ _ hx] at hy; exact .inl hy
    · rw [h.same _ _ hx] at hy; exact .inr hy
  have alt : ∀ x, (allP b p).testBit x = true → x < n := fun x hx => (ain x hx).elim (fun e => (h.lt _ _ e).1) (fun e => (h.lt _ _ e).1)
  have yes : ∀ x, (allP b p).testBit x = true → (joinStep b p).getD x 0 = allP b p := by
    intro x hx
    have := alt x hx
    rw [joinStep_get b p (by omega), if_pos hx]
    apply bit_ext; intro i; rw [Nat.testBit_or]
    cases hi : (b.getD x 0).testBit i
    · rfl
    · rw [sub x hx i hi]; rfl
  have no : ∀ x, x < 9 → (allP b p).testBit x = false → (joinStep b p).getD x 0 = b.getD x 0 := fun x hx ha => by
    rw [joinStep_get b p (by omega), if_neg (by rw [ha]; simp)]
  have big : ∀ x, ¬ x < 9 → (joinStep b p).getD x 0 = 0 := fun x hx => joinStep_none b p (by omega)
  refine ⟨fun i hi => joinStep_sub b p i i (h.self i hi), fun i j hij => ?_, fun i j hij => ?_⟩
  · by_cases hj : j < 9
    · cases ha : (allP b p).testBit j
      · rw [no j hj ha] at hij ⊢
        have hl := h.lt i j hij
        have hi : (allP b p).testBit i = false := by
          cases hb' : (allP b p).testBit i
          · rfl
          · have h3 := sub i hb'
            rw [h.same i j hij] at h3
            have := h3 j (h.self j hl.2)
            rw [ha] at this; cases this
        rw [no i (by omega) hi, h.same i j hij]
      · rw [yes j ha] at hij ⊢
        exact yes i hij
    · rw [big j hj, Nat.zero_testBit] at hij; cases hij
  · by_cases hj : j < 9
    · cases ha : (allP b p).testBit j
      · rw [no j hj ha] at hij; exact h.lt i j hij
      · rw [yes j ha] at hij; exact ⟨alt i hij, alt j ha⟩
    · rw [big j hj, Nat.zero_testBit] at hij; cases hij
theorem Eqv.fold {n : Nat} (hn : n ≤ 9) : ∀ (ps : List (Int × Int)) (b : List Nat), (∀ p ∈ ps, p.1.toNat < n ∧ p.2.toNat < n) → b.length = 9 → Eqv n b → Eqv n (ps.foldl joinStep b)
  | [], _, _, _, h => h
  | p :: ps, b, hp, hb, h => by
    rw [List.foldl_cons]
    have := hp p List.mem_cons_self
    exact Eqv.fold hn ps _ (fun q hq => hp q (List.mem_cons_of_mem _ hq)) (by rw [joinStep_len]; exact hb) (h.step hn hb this.1 this.2)
theorem Eqv.close {l : Ld} {n : Nat} (hn : n ≤ 9) (hp : ∀ p ∈ l.wth, p.1.toNat < n ∧ p.2.toNat < n) : ∀ (k : Nat) (b : List Nat), b.length = 9 → Eqv n b → Eqv n (closeF l k b)
  | 0, _, _, h => h
  | k + 1, b, hb, h => by
    show Eqv n (if joinR l b = b then b else closeF l k (joinR l b))
    split
    · exact h
    · exact Eqv.close hn hp k _ (by rw [joinR_len]; exact hb) (Eqv.fold hn _ _ hp hb h)
def ndS (l : Ld) (i : Nat) : Nat := (openD l).nd.getD i 0
theorem nd_eqv {l : Ld} (o : LdOk l) : Eqv l.sacks.length (openD l).nd :=
  Eqv.close o.n (fun p hp => by have := o.wp p hp; omega) 5000 _ (ndI_len _) (Eqv.zero o.n)
theorem nd_cl {l : Ld} (o : LdOk l) (i : Nat) : Cl l (ndS l i) := by
  have E := nd_eqv o
  intro p hp
  have b := o.wp p hp
  have hn := o.n
  have e := nd_fix o p hp
  have k1 := nd_self o (i := p.1.toNat) (by omega)
  have k2 := nd_self o (i := p.2.toNat) (by omega)
  have g1 : (allP (openD l).nd p).testBit p.1.toNat = true := by unfold allP; rw [Nat.testBit_or, k1]; rfl
  have g2 : (allP (openD l).nd p).testBit p.2.toNat = true := by unfold allP; rw [Nat.testBit_or, k2, Bool.or_true]
  have e1 := joinStep_get (openD l).nd p (i := p.1.toNat) (by rw [nd_len]; omega)
  have e2 := joinStep_get (openD l).nd p (i := p.2.toNat) (by rw [nd_len]; omega)
  rw [e, if_pos g1] at e1
  rw [e, if_pos g2] at e2
  have s1 : (ndS l i).testBit p.1.toNat = true → (ndS l i).testBit p.2.toNat = true := fun h => by
    have := E.same _ _ h
    show ((openD l).nd.getD i 0).testBit _ = true
    rw [← this, e1, Nat.testBit_or, g2, Bool.or_true]
  have s2 : (ndS l i).testBit p.2.toNat = true → (ndS l i).testBit p.1.toNat = true := fun h => by
    have := E.same _ _ h
    show ((openD l).nd.getD i 0).testBit _ = true
    rw [← this, e2, Nat.testBit_or, g1, Bool.or_true]
  cases h1 : (ndS l i).testBit p.1.toNat
  · cases h2 : (ndS l i).testBit p.2.toNat
    · rfl
    · rw [s2 h2] at h1; cases h1
  · rw [s1 h1]
def setN : List Bool → Nat
  | [] => 0
  | b :: bs => 2 * setN bs + b.toNat
theorem setN_bit : ∀ (bs : List Bool) (k : Nat), (setN bs).testBit k = bs.getD k false
  | [], k => by simp [setN]
  | b :: bs, 0 => by
    unfold setN; rw [Nat.testBit_zero]; cases b <;> simp <;> omega
  | b :: bs, k + 1 => by
    unfold setN; rw [Nat.testBit_succ, show (2 * setN bs + b.toNat) / 2 = setN bs by cases b <;> simp <;> omega, setN_bit bs k]; rfl
def boolN (n s : Nat) : List Bool := (List.range n).map fun k => s.testBit k
theorem boolN_len (n s : Nat) : (boolN n s).length = n := by simp [boolN]
theorem boolN_get {n s k : Nat} (hk : k < n) : (boolN n s).getD k false = s.testBit k := by
  unfold boolN; rw [List.getD_eq_getElem?_getD, List.getElem?_map, List.getElem?_range hk]; rfl
theorem bool_ext {bs : List Bool} {n s : Nat} (hl : bs.length = n) (h : ∀ k, k < n → bs.getD k false = s.testBit k) : bs = boolN n s :=
  eq_of_getD (d := false) (by rw [boolN_len, hl]) fun j hj => by rw [h j (by omega), boolN_get (by omega)]
structure BunOk (l : Ld) (i : Nat) (bs : List Bool) : Prop where
  n : bs.length = l.sacks.length
  me : bs.getD i false = true
  sub : ∀ k, bs.getD k false = true → (ndS l i).testBit k = true
theorem BunOk.done {l : Ld} (o : LdOk l) {i : Nat} {bs : List Bool} (h : BunOk l i bs) (hi : i < l.sacks.length) (hc : ∀ p ∈ l.wth, bs.getD p.1.toNat false = bs.getD p.2.toNat false) : bs = boolN l.sacks.length (ndS l i) := by
  refine bool_ext h.n fun k hk => ?_
  have cl : Cl l (setN bs) := fun p hp => by rw [setN_bit, setN_bit]; exact hc p hp
  have hl := nd_least cl (i := i) (by rw [setN_bit]; exact h.me)
  cases hb : bs.getD k false
  · cases ht : (ndS l i).testBit k
    · rfl
    · have := hl k ht; rw [setN_bit, hb] at this; cases this
  · exact (h.sub k hb).symm
theorem getD_setB (xs : List Bool) (i j : Nat) (v : Bool) : (xs.set i v).getD j false = if i = j ∧ i < xs.length then v else xs.getD j false := getD_set xs i j v false
theorem BunOk.both {l : Ld} (o : LdOk l) {i : Nat} {bs : List Bool} (h : BunOk l i bs) {p : Int × Int} (hp : p ∈ l.wth) (hne : bs.getD p.1.toNat false ≠ bs.getD p.2.toNat false) : BunOk l i ((bs.set p.1.toNat true).set p.2.toNat true) := by
  have hcl := nd_cl o i p hp
  have hin : (ndS l i).testBit p.1.toNat = true ∧ (ndS l i).testBit p.2.toNat = true := by
    cases h1 : bs.getD p.1.toNat false
    · cases h2 : bs.getD p.2.toNat false
      · rw [h1, h2] at hne; exact absurd rfl hne
      · have := h.sub _ h2; exact ⟨by rw [hcl]; exact this, this⟩
    · have := h.sub _ h1; exact ⟨this, by rw [← hcl]; exact this⟩
  refine ⟨by rw [List.length_set, List.length_set]; exact h.n, ?_, fun k hk => ?_⟩
  · rw [getD_setB, getD_setB]; split
    · rfl
    · split
      · rfl
      · exact h.me
  · rw [getD_setB, getD_setB] at hk
    split at hk
    · rename_i e; rw [← e.1]; exact hin.2
    · split at hk
      · rename_i e; rw [← e.1]; exact hin.1
      · exact h.sub k hk
end GA
end

section
namespace GA
open Go Go.RowKit Go.Proofs
set_option pp.deepTerms true
set_option maxRecDepth 8000
set_option linter.unusedVariables false
set_option linter.unusedSimpArgs false

structure Mo where
  g : Int
  r : Int
  pl : Int
  ph : Int
  tl : Int
  th : Int
  deriving Inhabited, DecidableEq
structure Su where
  m : Int
  lo : Int
  hi : Int
  deriving Inhabited, DecidableEq
structure Bd where
  room : Int
  first : Int
  unsure : Int
  nlm : Bool
  months : List Mo
  nls : Bool
  surveys : List Su
  deriving Inhabited
def moA (m : Mo) : AV := .agg [.int .i64 m.g, .int .i64 m.r, .int .i64 m.pl, .int .i64 m.ph, .int .i64 m.tl, .int .i64 m.th]
def suA (s : Su) : AV := .agg [.int .i64 s.m, .int .i64 s.lo, .int .i64 s.hi]
def spA (lo hi : Int) : AV := .agg [.int .i64 lo, .int .i64 hi]
def bedC (b : Bd) : List AV := [.int .i64 b.room, .int .i64 b.first, .int .i64 b.unsure, .sl b.nlm (b.months.map moA), .sl b.nls (b.surveys.map suA)]
def bedA (b : Bd) : AV := .agg (bedC b)
theorem moL {n : Nat} (m : Mo) : (moA m).low n = true := rfl
theorem suL {n : Nat} (m : Su) : (suA m).low n = true := rfl
theorem lowMo {n : Nat} (xs : List Mo) : lowL n (xs.map moA) = true := lowL_map (fun _ => rfl) xs
theorem lowSu {n : Nat} (xs : List Su) : lowL n (xs.map suA) = true := lowL_map (fun _ => rfl) xs
theorem lowBd {n : Nat} (b : Bd) : lowL n (bedC b) = true := by simp only [bedC, lowL, AV.low, lowMo, lowSu]; rfl
theorem bedL {n : Nat} (b : Bd) : (bedA b).low n = true := lowBd b
def inZ (n lo hi : Int) : Bool := decide (lo ≤ n) && decide (n ≤ hi)
theorem inZ_iff {n lo hi : Int} : inZ n lo hi = true ↔ lo ≤ n ∧ n ≤ hi := by simp [inZ]
theorem bedIn_c (n lo hi : Int) : Comp Try.prog 156 [.int .i64 n, .int .i64 lo, .int .i64 hi] (.bool (inZ n lo hi)) := by
  refine Comp.body (T := tab) (res := [.tmp 6]) tab_ok [] Try.func156 rfl (by kernel_rfl) Try.ntmps156 rfl (by simp only [List.length_cons, List.length_nil]; decide) (by rfl) ?_; conv => whnf
  repeat' first | ((first | (with_reducible apply XBr.tt) | (with_reducible apply XBr.ff)); conv => whnf) | ((with_reducible apply XBr.dec) <;> (intro h; first | (exfalso; omega) | ((try simp only [List.length_map] at h); first | (exfalso; omega) | (conv => whnf)))) | fail
  all_goals (refine XOut.bool ?_; rw [Bool.eq_iff_iff]; simp [inZ]; try omega)
def withinB (l h lo hi : Int) : Bool := inZ l lo hi && inZ h l hi
theorem within_c (l h lo hi : Int) : Comp Try.prog 162 [spA l h, .int .i64 lo, .int .i64 hi] (.bool (withinB l h lo hi)) := by
  refine Comp.body (T := tab) (res := [.tmp 6]) tab_ok [] Try.func162 rfl (by kernel_rfl) Try.ntmps162 rfl (by simp only [List.length_cons, List.length_nil]; decide) (by rfl) ?_; conv => whnf
  repeat' first | ((first | (with_reducible apply XBr.tt) | (with_reducible apply XBr.ff) | (refine XCall.ret (bedIn_c _ _ _) ?_)); conv => whnf) | ((with_reducible apply XBr.mk') <;> (intro h; conv => whnf)) | fail
  all_goals exact XOut.bool (by unfold withinB; rw [h]; rfl)
theorem bedAmount_c (b : Bd) (n : Int) : Comp Try.prog 148 [bedA b, .int .i64 n] (.bool (inZ n 0 b.room)) := by
  refine Comp.body (T := tab) (res := [.tmp 4]) tab_ok [] Try.func148 rfl (by kernel_rfl) Try.ntmps148 rfl (by simp only [List.length_cons, List.length_nil]; decide) (by simp only [lowL, bedL, AV.low]; rfl) ?_; conv => whnf
  repeat' first | ((refine XCall.ret (bedIn_c _ _ _) ?_); conv => whnf) | fail
  all_goals exact XOut.bool rfl
def moR (b : Bd) (m : Mo) : Bool := inZ m.g 0 100 && inZ m.r 0 b.room && withinB m.pl m.ph 0 60 && withinB m.tl m.th 0 60
theorem bedRight_c (b : Bd) (m : Mo) : Comp Try.prog 159 [bedA b, moA m] (.bool (moR b m)) := by
  refine Comp.body (T := tab) (res := [.tmp 4]) tab_ok [] Try.func159 rfl (by kernel_rfl) Try.ntmps159 rfl (by simp only [List.length_cons, List.length_nil]; decide) (by simp only [lowL, bedL, moL]; rfl) ?_; conv => whnf
  repeat' first | ((first | (with_reducible apply XBr.tt) | (with_reducible apply XBr.ff) | (refine XCall.ret (bedIn_c _ _ _) ?_) | (refine XCall.ret (bedAmount_c b _) ?_) | (refine XCall.ret (within_c _ _ _ _) ?_)); conv => whnf) | ((with_reducible apply XBr.mk') <;> (intro h; conv => whnf)) | fail
  all_goals exact XOut.bool (by unfold moR; simp [*])
theorem bedGreatest_c (n : Int) (nl : Bool) (xs : List Int) (hx : xs.length ≤ 100000) : Comp Try.prog 123 [.int .i64 n, .sl nl (ints xs)] (.int .i64 (xs.foldl max n)) := by
  have e1 : ((ints xs).length : Int) = xs.length := by rw [List.length_map]
  refine Comp.body (T := tab) (res := [.tmp 4]) tab_ok [] Try.func123 rfl (by kernel_rfl) Try.ntmps123 rfl (by simp only [List.length_cons, List.length_nil]; decide) (by simp only [lowL, AV.low, lowI]; rfl) ?_; conv => whnf
  skip
  refine Walk.loop tab_ok [] (fun k : Nat => k ≤ xs.length) (fun k => [(0, .int .i64 ((xs.take k).foldl max n)), (4, .int .i64 0), (7, .sl nl (ints xs)), (8, .int .i64 (ints xs).length), (9, natA k)]) (fun _ => []) (fun k => xs.length - k) 0 (Nat.zero_le _) rfl ⟨rfl, rfl, rfl, rfl, rfl, trivial⟩ ?_
  intro k hk
  conv => whnf
  repeat' first | ((with_reducible apply XBr.dec) <;> (intro h; first | (exfalso; omega) | ((try simp only [List.length_map] at h); first | (exfalso; omega) | (conv => whnf)))) | ((first | (with_reducible refine XInt.i64 (by omega) (by omega) ?_) | ((with_reducible refine XIx.nat ?_ ?_ ?_); omega; (intro _; rfl))); conv => whnf) | fail
  · refine XAgain.go (k + 1) (show k + 1 ≤ xs.length by omega) (by omega) rfl ⟨?_, rfl, rfl, rfl, rfl, trivial⟩
    show some (AV.int .i64 _) = some (AV.int .i64 ((xs.take (k + 1)).foldl max n))
    rw [take_next (by omega), List.foldl_append]
    rfl
  · refine XOut.int ?_
    rw [List.take_of_length_le (by omega)]
theorem idxf_mo (nl : Bool) (xs : List Mo) (g : FuncId) (caps : List AV) (p : Mo → Bool) (hl : lowL 0 caps = true) (hx : xs.length ≤ 100000) (hp : ∀ x ∈ xs, Comp Try.prog g (moA x :: caps) (.bool (p x))) :
    Comp Try.prog 169 [.sl nl (xs.map moA), .fn g caps] (.int .i64 (idxR p xs)) := by
  refine Comp.body (T := tab) (res := [.tmp 4]) tab_ok [] Try.func169 rfl (by kernel_rfl) Try.ntmps169 rfl (by simp only [List.length_cons, List.length_nil]; decide) (by simp only [lowL, AV.low, lowMo, hl]; rfl) ?_; conv => whnf
  refine Walk.loop tab_ok [] (fun i : Nat => i ≤ xs.length ∧ ∀ j, j < i → p (xs.getD j default) = false) (fun i => [(0, .sl nl (xs.map moA)), (1, .fn g caps), (7, .int .i64 xs.length), (8, .int .i64 i)]) (fun _ => []) (fun i => xs.length - i) 0 ⟨by omega, by omega⟩ rfl ⟨rfl, rfl, by simp only [List.length_map]; rfl, rfl, trivial⟩ ?_
  rintro i ⟨h2, h3⟩
  conv => whnf
  repeat' first | ((with_reducible apply XBr.dec) <;> (intro h; first | (exfalso; omega) | ((try simp only [List.length_map] at h); first | (exfalso; omega) | (conv => whnf)))) | (((with_reducible refine XIx.nat ?_ ?_ ?_); omega; (intro _; rfl)); conv => whnf) | fail
  · refine XCall.ret (hp _ (getD_mem (i := i) (d := default) (by omega))) ?_
    conv => whnf
    refine XBr.mk' ?_ ?_ <;> intro h4 <;> (conv => whnf)
    · refine XOut.int ?_
      simp only [idxR, find_some (d := default) (i := i) (by omega) h4 h3]
    · skip
      repeat' first | ((with_reducible refine XInt.i64 (by omega) (by omega) ?_); conv => whnf) | fail
      refine XAgain.go (i + 1) ⟨by omega, fun j hj => ?_⟩ (by omega) rfl ⟨rfl, rfl, rfl, rfl, trivial⟩
      by_cases hji : j = i
      · subst hji; exact h4
      · exact h3 j (by omega)
  · refine XOut.int ?_
    simp only [idxR, find_none (d := default) fun j hj => h3 j (by omega)]
theorem contf_mo (nl : Bool) (xs : List Mo) (g : FuncId) (caps : List AV) (p : Mo → Bool) (hl : lowL 0 caps = true) (hx : xs.length ≤ 100000) (hp : ∀ x ∈ xs, Comp Try.prog g (moA x :: caps) (.bool (p x))) :
    Comp Try.prog 165 [.sl nl (xs.map moA), .fn g caps] (.bool (xs.any p)) := by
  refine Comp.body (T := tab) (res := [.tmp 4]) tab_ok [] Try.func165 rfl (by kernel_rfl) Try.ntmps165 rfl (by simp only [List.length_cons, List.length_nil]; decide) (by simp only [lowL, AV.low, lowMo, hl]; rfl) ?_; conv => whnf
  refine XCall.ret (idxf_mo nl xs g caps p hl hx hp) ?_
  conv => whnf
  refine XOut.bool ?_
  rw [Bool.eq_iff_iff, decide_eq_true_eq]; exact idxR_pos
theorem idxf_su (nl : Bool) (xs : List Su) (g : FuncId) (caps : List AV) (p : Su → Bool) (hl : lowL 0 caps = true) (hx : xs.length ≤ 100000) (hp : ∀ x ∈ xs, Comp Try.prog g (suA x :: caps) (.bool (p x))) :
    Comp Try.prog 170 [.sl nl (xs.map suA), .fn g caps] (.int .i64 (idxR p xs)) := by
  refine Comp.body (T := tab) (res := [.tmp 4]) tab_ok [] Try.func170 rfl (by kernel_rfl) Try.ntmps170 rfl (by simp only [List.length_cons, List.length_nil]; decide) (by simp only [lowL, AV.low, lowSu, hl]; rfl) ?_; conv => whnf
  refine Walk.loop tab_ok [] (fun i : Nat => i ≤ xs.length ∧ ∀ j, j < i → p (xs.getD j default) = false) (fun i => [(0, .sl nl (xs.map suA)), (1, .fn g caps), (7, .int .i64 xs.length), (8, .int .i64 i)]) (fun _ => []) (fun i => xs.length - i) 0 ⟨by omega, by omega⟩ rfl ⟨rfl, rfl, by simp only [List.length_map]; rfl, rfl, trivial⟩ ?_
  rintro i ⟨h2, h3⟩
  conv => whnf
  repeat' first | ((with_reducible apply XBr.dec) <;> (intro h; first | (exfalso; omega) | ((try simp only [List.length_map] at h); first | (exfalso; omega) | (conv => whnf)))) | (((with_reducible refine XIx.nat ?_ ?_ ?_); omega; (intro _; rfl)); conv => whnf) | fail
  · refine XCall.ret (hp _ (getD_mem (i := i) (d := default) (by omega))) ?_
    conv => whnf
    refine XBr.mk' ?_ ?_ <;> intro h4 <;> (conv => whnf)
    · refine XOut.int ?_
      simp only [idxR, find_some (d := default) (i := i) (by omega) h4 h3]
    · skip
      repeat' first | ((with_reducible refine XInt.i64 (by omega) (by omega) ?_); conv => whnf) | fail
      refine XAgain.go (i + 1) ⟨by omega, fun j hj => ?_⟩ (by omega) rfl ⟨rfl, rfl, rfl, rfl, trivial⟩
      by_cases hji : j = i
      · subst hji; exact h4
      · exact h3 j (by omega)
  · refine XOut.int ?_
    simp only [idxR, find_none (d := default) fun j hj => h3 j (by omega)]
theorem contf_su (nl : Bool) (xs : List Su) (g : FuncId) (caps : List AV) (p : Su → Bool) (hl : lowL 0 caps = true) (hx : xs.length ≤ 100000) (hp : ∀ x ∈ xs, Comp Try.prog g (suA x :: caps) (.bool (p x))) :
    Comp Try.prog 167 [.sl nl (xs.map suA), .fn g caps] (.bool (xs.any p)) := by
  refine Comp.body (T := tab) (res := [.tmp 4]) tab_ok [] Try.func167 rfl (by kernel_rfl) Try.ntmps167 rfl (by simp only [List.length_cons, List.length_nil]; decide) (by simp only [lowL, AV.low, lowSu, hl]; rfl) ?_; conv => whnf
  refine XCall.ret (idxf_su nl xs g caps p hl hx hp) ?_
  conv => whnf
  refine XOut.bool ?_
  rw [Bool.eq_iff_iff, decide_eq_true_eq]; exact idxR_pos
theorem every1_mo (x : Mo) (g : FuncId) (fs : List AV) (p : Mo → Bool) (hl : lowL 0 fs = true) (hp : Comp Try.prog g (fs ++ [moA x]) (.bool (p x))) :
    Comp Try.prog 166 [moA x, .pim [.bf g fs]] (.bool (!p x)) := by
  refine Comp.body (T := tab) (res := [.tmp 3]) tab_ok [] Try.func166 rfl (by kernel_rfl) Try.ntmps166 rfl (by simp only [List.length_cons, List.length_nil]; decide) (by simp only [lowL, AV.low, moL, hl]; rfl) ?_; conv => whnf
  refine XCall.ret hp ?_
  conv => whnf
  exact XOut.bool rfl
theorem every_mo (nl : Bool) (xs : List Mo) (g : FuncId) (fs : List AV) (p : Mo → Bool) (hl : lowL 0 fs = true) (hx : xs.length ≤ 100000) (hp : ∀ x ∈ xs, Comp Try.prog g (fs ++ [moA x]) (.bool (p x))) :
    Comp Try.prog 158 [.sl nl (xs.map moA), .bf g fs] (.bool (xs.all p)) := by
  refine Comp.body (T := tab) (res := [.tmp 4]) tab_ok [] Try.func158 rfl (by kernel_rfl) Try.ntmps158 rfl (by simp only [List.length_cons, List.length_nil]; decide) (by simp only [lowL, AV.low, lowMo, hl]; rfl) ?_; conv => whnf
  refine XCall.ret (contf_mo nl xs 166 [.pim [.bf g fs]] (fun x => !p x) (by simp only [lowL, AV.low, hl]; rfl) hx fun x hm => every1_mo x g fs p hl (hp x hm)) ?_
  conv => whnf
  refine XOut.bool ?_
  rw [List.not_any_eq_all_not]; simp
theorem every1_su (x : Su) (g : FuncId) (caps : List AV) (p : Su → Bool) (hl : lowL 0 caps = true) (hp : Comp Try.prog g (suA x :: caps) (.bool (p x))) :
    Comp Try.prog 168 [suA x, .pim [.fn g caps]] (.bool (!p x)) := by
  refine Comp.body (T := tab) (res := [.tmp 3]) tab_ok [] Try.func168 rfl (by kernel_rfl) Try.ntmps168 rfl (by simp only [List.length_cons, List.length_nil]; decide) (by simp only [lowL, AV.low, suL, hl]; rfl) ?_; conv => whnf
  refine XCall.ret hp ?_
  conv => whnf
  exact XOut.bool rfl
theorem every_su (nl : Bool) (xs : List Su) (g : FuncId) (caps : List AV) (p : Su → Bool) (hl : lowL 0 caps = true) (hx : xs.length ≤ 100000) (hp : ∀ x ∈ xs, Comp Try.prog g (suA x :: caps) (.bool (p x))) :
    Comp Try.prog 160 [.sl nl (xs.map suA), .fn g caps] (.bool (xs.all p)) := by
  refine Comp.body (T := tab) (res := [.tmp 4]) tab_ok [] Try.func160 rfl (by kernel_rfl) Try.ntmps160 rfl (by simp only [List.length_cons, List.length_nil]; decide) (by simp only [lowL, AV.low, lowSu, hl]; rfl) ?_; conv => whnf
  refine XCall.ret (contf_su nl xs 168 [.pim [.fn g caps]] (fun x => !p x) (by simp only [lowL, AV.low, hl]; rfl) hx fun x hm => every1_su x g caps p hl (hp x hm)) ?_
  conv => whnf
  refine XOut.bool ?_
  rw [List.not_any_eq_all_not]; simp
def suR1 (b : Bd) (s : Su) : Bool := withinB s.lo s.hi 0 b.room
def suR2 (b : Bd) (s : Su) : Bool := inZ s.m 0 b.months.length
theorem check1_c (b : Bd) (s : Su) : Comp Try.prog 161 [suA s, .pim (bedC b)] (.bool (suR1 b s)) := by
  refine Comp.body (T := tab) (res := [.tmp 3]) tab_ok [] Try.func161 rfl (by kernel_rfl) Try.ntmps161 rfl (by simp only [List.length_cons, List.length_nil]; decide) (by simp only [lowL, suL, AV.low, lowBd]; rfl) ?_; conv => whnf
  repeat' first | ((refine XCall.ret (within_c _ _ _ _) ?_); conv => whnf) | fail
  all_goals exact XOut.bool rfl
theorem check2_c (b : Bd) (s : Su) (h : b.months.length ≤ 100000) : Comp Try.prog 163 [suA s, .pim (bedC b)] (.bool (suR2 b s)) := by
  refine Comp.body (T := tab) (res := [.tmp 3]) tab_ok [] Try.func163 rfl (by kernel_rfl) Try.ntmps163 rfl (by simp only [List.length_cons, List.length_nil]; decide) (by simp only [lowL, suL, AV.low, lowBd]; rfl) ?_; conv => whnf
  repeat' first | ((refine XCall.ret (bedIn_c _ _ _) ?_); conv => whnf) | fail
  all_goals exact XOut.bool (by unfold suR2; rw [List.length_map])
def bedE (b : Bd) : Int :=
  if inZ b.room 1 120 = false then 3
  else if inZ b.months.length 1 10 = false ∨ (8 : Int) < b.surveys.length then 2
  else if inZ b.first 0 b.room = false ∨ inZ b.unsure 0 40 = false ∨ b.months.all (moR b) = false then 3
  else if b.surveys.all (suR1 b) = false then 3
  else if b.surveys.all (suR2 b) = false then 1
  else 0
theorem bedCheck_c (b : Bd) (h1 : b.months.length ≤ 100000) (h2 : b.surveys.length ≤ 100000) : Comp Try.prog 155 [bedA b] (.int .i64 (bedE b)) := by
  have e1 : ((b.months.map moA).length : Int) = b.months.length := by rw [List.length_map]
  have e2 : ((b.surveys.map suA).length : Int) = b.surveys.length := by rw [List.length_map]
  have hm := every_mo b.nlm b.months 159 [bedA b] (moR b) (by simp only [lowL, bedL]; rfl) h1 fun x _ => bedRight_c b x
  have hs1 := every_su b.nls b.surveys 161 [.pim (bedC b)] (suR1 b) (by simp only [lowL, AV.low, lowBd]; rfl) h2 fun x _ => check1_c b x
  have hs2 := every_su b.nls b.surveys 163 [.pim (bedC b)] (suR2 b) (by simp only [lowL, AV.low, lowBd]; rfl) h2 fun x _ => check2_c b x h1
  have hE : bedE b = if inZ b.room 1 120 = false then 3 else if inZ ((b.months.map moA).length : Int) 1 10 = false ∨ (8 : Int) < b.surveys.length then 2 else if inZ b.first 0 b.room = false ∨ inZ b.unsure 0 40 = false ∨ b.months.all (moR b) = false then 3 else if b.surveys.all (suR1 b) = false then 3 else if b.surveys.all (suR2 b) = false then 1 else 0 := by rw [e1]; rfl
  rw [hE]
  generalize b.months.all (moR b) = r1 at hm
  generalize b.surveys.all (suR1 b) = r2 at hs1
  generalize b.surveys.all (suR2 b) = r3 at hs2
  refine Comp.body (T := tab) (res := [.tmp 2]) tab_ok [] Try.func155 rfl (by kernel_rfl) Try.ntmps155 rfl (by simp only [List.length_cons, List.length_nil]; decide) (by simp only [lowL, bedL]; rfl) ?_; conv => whnf
  repeat' first | ((first | (with_reducible apply XBr.tt) | (with_reducible apply XBr.ff)); conv => whnf) | (with_reducible apply XBr.not) | ((with_reducible apply XBr.dec) <;> (intro h; first | (exfalso; omega) | ((try simp only [List.length_map] at h); first | (exfalso; omega) | (conv => whnf)))) | ((first | (refine XCall.ret (bedIn_c _ _ _) ?_) | (refine XCall.ret (bedAmount_c b _) ?_) | (refine XCall.ret hm ?_) | (refine XCall.ret hs1 ?_) | (refine XCall.ret hs2 ?_)); conv => whnf) | ((with_reducible apply XBr.mk') <;> (intro h; conv => whnf)) | fail
  all_goals refine XOut.int ?_
  all_goals clear hE hm hs1 hs2 e1 e2
  all_goals simp [*, -List.length_map]
end GA
end

section
namespace GA
open Go Go.RowKit Go.Proofs
set_option pp.deepTerms true
set_option maxRecDepth 8000
set_option linter.unusedVariables false
set_option linter.unusedSimpArgs false

def chA (sp st : Int) : AV := .agg [.int .i64 sp, .int .i64 st]
def grossR (room g a sp st : Int) : Int := max 0 (min room (a + a * g / 100 + sp) - st)
theorem grossR_le {room g a sp st : Int} (h : 0 ≤ room) (h2 : 0 ≤ st) : 0 ≤ grossR room g a sp st ∧ grossR room g a sp st ≤ room := by
  unfold grossR; omega
theorem gross_c (b : Bd) (k : Nat) (a sp st : Int) (hk : k < b.months.length) (h1 : 0 ≤ a) (h2 : a ≤ 1000) (h3 : 0 ≤ (b.months.getD k default).g) (h4 : (b.months.getD k default).g ≤ 100) (h5 : 0 ≤ b.room) (h6 : b.room ≤ 1000) (h7 : 0 ≤ sp) (h8 : sp ≤ 1000) (h9 : 0 ≤ st) (h10 : st ≤ 1000) :
    Comp Try.prog 121 [bedA b, natA k, .int .i64 a, chA sp st] (.int .i64 (grossR b.room (b.months.getD k default).g a sp st)) := by
  have e1 : ((b.months.map moA).length : Int) = b.months.length := by rw [List.length_map]
  have q1 : 0 ≤ a * (b.months.getD k default).g := Int.mul_nonneg h1 h3
  have q2 : a * (b.months.getD k default).g ≤ 1000 * 100 := Int.mul_le_mul h2 h4 h3 (by omega)
  have q3 : (a * (b.months.getD k default).g).tdiv 100 = (a * (b.months.getD k default).g) / 100 := Int.tdiv_eq_ediv_of_nonneg q1
  have hg := bedGreatest_c 0 false [min b.room (a + a * (b.months.getD k default).g / 100 + sp) - st] (by simp)
  refine Comp.body (T := tab) (res := [.tmp 8]) tab_ok [] Try.func121 rfl (by kernel_rfl) Try.ntmps121 rfl (by simp only [List.length_cons, List.length_nil]; decide) (by simp only [lowL, bedL, AV.low]; rfl) ?_; conv => whnf
  apply Walk.drawX tab_ok mixed_ok [] [] (hsK _) [_, _, _, _, _, _, _, _, _, _, _, .int .i64 (a * (b.months.getD k default).g / 100), _, _, _, _, _, _, _, _, _, _, _] (by kernel_rfl) rfl
  · skip
    repeat' first | ((with_reducible refine XInt.i64 (by omega) (by omega) ?_); conv => whnf) | ((with_reducible refine XHold.mk ?_ ?_); (first | omega | rfl | decide | exact ⟨rfl, by decide, rfl⟩ | exact wideI _ | exact widePr _ | exact wideSk _ | (unfold Room; constructor <;> ((try simp) <;> omega)) | exact ⟨rfl, by simp only [List.length_map], by unfold Room; constructor <;> ((try simp) <;> omega)⟩ | exact ⟨by omega, by omega, by unfold Room; constructor <;> ((try simp) <;> omega)⟩); conv => whnf) | (((with_reducible refine XIx.nat ?_ ?_ ?_); omega; (intro _; rfl)); conv => whnf) | (with_reducible apply XAnd.mk) | ((first | (with_reducible apply Chk.go) | (with_reducible apply ChkA.go)); conv => whnf) | (exact XSame.mk rfl rfl) | (with_reducible exact trivial) | ((refine XCall.ret hg ?_); conv => whnf) | ((refine XSame.mk (by rw [q3]) rfl)) | fail
  · skip
    repeat' first | (with_reducible apply XAnd.mk) | ((first | (with_reducible apply ChkF.go) | (with_reducible apply ChkB.go)); conv => whnf) | (with_reducible exact trivial) | fail
  conv => whnf
  skip
  all_goals exact XOut.int rfl
theorem worst_c (m : Mo) : Comp Try.prog 122 [moA m] (chA m.pl m.th) := by
  refine Comp.body (T := tab) (res := [.cell 2 176]) tab_ok [] Try.func122 rfl (by kernel_rfl) Try.ntmps122 rfl (by simp only [List.length_cons, List.length_nil]; decide) (by rfl) ?_; conv => whnf
  skip
  exact ⟨.low rfl⟩
def leastR (b : Bd) : Int := max 0 (b.first - b.unsure)
theorem least_c (b : Bd) (h1 : 0 ≤ b.first) (h2 : b.first ≤ 1000) (h3 : 0 ≤ b.unsure) (h4 : b.unsure ≤ 1000) : Comp Try.prog 124 [bedA b] (.int .i64 (leastR b)) := by
  have hg := bedGreatest_c 0 false [b.first - b.unsure] (by simp)
  refine Comp.body (T := tab) (res := [.tmp 2]) tab_ok [] Try.func124 rfl (by kernel_rfl) Try.ntmps124 rfl (by simp only [List.length_cons, List.length_nil]; decide) (by simp only [lowL, bedL]; rfl) ?_; conv => whnf
  repeat' first | ((with_reducible refine XInt.i64 (by omega) (by omega) ?_); conv => whnf) | ((with_reducible refine XHold.mk ?_ ?_); (first | omega | rfl | decide | exact ⟨rfl, by decide, rfl⟩ | exact wideI _ | exact widePr _ | exact wideSk _ | (unfold Room; constructor <;> ((try simp) <;> omega)) | exact ⟨rfl, by simp only [List.length_map], by unfold Room; constructor <;> ((try simp) <;> omega)⟩ | exact ⟨by omega, by omega, by unfold Room; constructor <;> ((try simp) <;> omega)⟩); conv => whnf) | ((refine XCall.ret hg ?_); conv => whnf) | fail
  all_goals exact XOut.int rfl
def dsk (b : Bd) : List Blk := [.map [], .cells (bedC b ++ [.mp 0])]
theorem dsk_ren (b : Bd) (f : Nat → Nat) (n : Nat) (h : f 0 = n) : (Blk.cells (bedC b ++ [.mp 0])).ren f = .cells (bedC b ++ [.mp n]) := by
  simp only [Blk.ren, renL_eq, List.map_append]
  rw [← renL_eq, renL_low0 (lowBd b)]
  simp only [List.map_cons, List.map_nil, AV.ren, h]
theorem dsk_low (b : Bd) : ∀ x ∈ dsk b, x.low (dsk b).length = true := fun x hx => by
  simp only [dsk, List.mem_cons, List.not_mem_nil, or_false] at hx
  rcases hx with rfl | rfl
  · rfl
  · simp only [Blk.low, bedC, List.cons_append, List.nil_append, lowL, AV.low, lowMo, lowSu]; rfl
theorem bedOpened_c (b : Bd) (hE : bedE b = 0) (h1 : b.months.length ≤ 100000) (hs : b.surveys = []) : Gives Try.prog 147 [bedA b] (.tup [.ptr 1 0, .int .i64 0]) (dsk b) := by
  have hc := bedCheck_c b h1 (by rw [hs]; simp)
  rw [hE] at hc
  have e2 : ((b.surveys.map suA).length : Int) = 0 := by rw [hs]; rfl
  refine Gives.body (T := tab) (res := [.tmp 2, .tmp 3]) tab_ok [16] Try.func147 rfl (by kernel_rfl) Try.ntmps147 rfl (by simp only [List.length_cons, List.length_nil]; decide) (by simp only [lowL, bedL]; rfl) rfl (dsk_low b) ?_; conv => whnf
  repeat' first | ((with_reducible apply XBr.bne) <;> (intro h; first | (exfalso; omega) | (conv => whnf))) | ((refine XCall.ret hc ?_); conv => whnf) | fail
  refine Walk.loop tab_ok [] (fun _ : Unit => True) (fun _ => [(2, .nilp), (3, .int .i64 0), (5, .ptr 1 0), (19, .int .i64 (b.surveys.map suA).length), (20, .int .i64 0)]) (fun _ => dsk b) (fun _ => 0) () trivial rfl ⟨rfl, rfl, rfl, rfl, rfl, trivial⟩ ?_
  intro _ _
  conv => whnf
  repeat' first | ((with_reducible apply XBr.dec) <;> (intro h; first | (exfalso; omega) | ((try simp only [List.length_map] at h); first | (exfalso; omega) | (conv => whnf)))) | fail
  exact XGive.mk' [0, 1] rfl (by decide) ⟨rfl, congrArg some (dsk_ren b _ 0 rfl).symm, trivial⟩ rfl
theorem bedShared_c (b : Bd) (share : Int) (hE : bedE b = 0) (h1 : b.months.length ≤ 100000) (hs : b.surveys = []) : Gives Try.prog 120 [bedA b, .int .i64 share] (.tup [.ptr 1 0, .int .i64 (if inZ share 0 b.room = true then 0 else 3)]) (dsk b) := by
  have ho := bedOpened_c b hE h1 hs
  have ha := bedAmount_c b share
  generalize inZ share 0 b.room = r at ha
  refine Gives.body (T := tab) (res := [.tmp 4, .tmp 5]) tab_ok [] Try.func120 rfl (by kernel_rfl) Try.ntmps120 rfl (by simp only [List.length_cons, List.length_nil]; decide) (by simp only [lowL, bedL, AV.low]; rfl) rfl (dsk_low b) ?_; conv => whnf
  refine XCall.give ho ?_
  conv => whnf
  repeat' first | ((with_reducible apply XBr.tt); conv => whnf) | (with_reducible apply XBr.not) | ((with_reducible apply XBr.beq) <;> (intro h; first | (exfalso; omega) | (conv => whnf))) | ((refine XCall.ret ha ?_); conv => whnf) | ((with_reducible apply XBr.mk') <;> (intro h; conv => whnf)) | fail
  all_goals exact XGive.mk' [0, 1] rfl (by decide) ⟨rfl, congrArg some ((dsk_ren b _ 0 rfl).trans (dsk_ren b _ 0 rfl).symm), trivial⟩ (by rw [h]; rfl)
theorem XCall.shared {b : Bd} {share : Int} {H : List Blk} {k : AV → List Blk → Prop} (hE : bedE b = 0) (h1 : b.months.length ≤ 100000) (hs : b.surveys = []) (hsh : inZ share 0 b.room = true)
    (hk : k (.tup [.ptr (H.length + 1) 0, .int .i64 0]) (H ++ [.map [], .cells (bedC b ++ [.mp H.length])])) : XCall Try.prog 120 [bedA b, .int .i64 share] H k := by
  have hg := bedShared_c b share hE h1 hs
  rw [if_pos hsh] at hg
  refine XCall.give hg ?_
  have e : (dsk b).map (Blk.ren (H.length + ·)) = [.map [], .cells (bedC b ++ [.mp H.length])] := by
    show [Blk.ren (H.length + ·) (.map []), Blk.ren (H.length + ·) (.cells (bedC b ++ [.mp 0]))] = _
    rw [dsk_ren b (H.length + ·) H.length (Nat.add_zero _)]; rfl
  rw [e]; exact hk
end GA
end

section
namespace GA
open Go Go.RowKit Go.Proofs
set_option pp.deepTerms true
set_option maxRecDepth 8000
set_option linter.unusedVariables false
set_option linter.unusedSimpArgs false

def arrA (r : List Int) : AV := .agg (ints r)
def putC (rows : List (List Int)) (e i : Nat) (v : Int) : List (List Int) := rows.set e ((rows.getD e default).set i v)
structure RowsOk (rows : List (List Int)) (n w : Nat) : Prop where
  n : rows.length = n
  w : ∀ r ∈ rows, r.length = w
theorem RowsOk.at {rows : List (List Int)} {n w : Nat} (o : RowsOk rows n w) {e : Nat} (he : e < n) : (rows.getD e default).length = w := o.w _ (getD_mem (by rw [o.n]; exact he))
theorem RowsOk.put {rows : List (List Int)} {n w : Nat} (o : RowsOk rows n w) (e i : Nat) (v : Int) (he : e < n) : RowsOk (putC rows e i v) n w := by
  refine ⟨by unfold putC; rw [List.length_set]; exact o.n, fun r hr => ?_⟩
  unfold putC at hr
  rcases List.mem_or_eq_of_mem_set hr with h | rfl
  · exact o.w r h
  · rw [List.length_set]; exact o.at he
def cellAt (rows : List (List Int)) (e i : Nat) : Int := (rows.getD e default).getD i default
theorem cellAt_put {rows : List (List Int)} {n w : Nat} (o : RowsOk rows n w) {e i : Nat} (v : Int) (he : e < n) (hi : i < w) (e' i' : Nat) : cellAt (putC rows e i v) e' i' = if e' = e ∧ i' = i then v else cellAt rows e' i' := by
  unfold cellAt putC
  have hr := o.at he
  by_cases h1 : e' = e
  · subst h1
    rw [List.getD_eq_getElem?_getD (l := rows.set _ _), List.getElem?_set_self (by rw [o.n]; exact he), Option.getD_some]
    by_cases h2 : i' = i
    · subst h2
      rw [if_pos ⟨rfl, rfl⟩, List.getD_eq_getElem?_getD, List.getElem?_set_self (by rw [hr]; exact hi)]; rfl
    · rw [if_neg (fun h => h2 h.2), List.getD_eq_getElem?_getD, List.getElem?_set_ne (fun h => h2 h.symm), ← List.getD_eq_getElem?_getD]
  · rw [if_neg (fun h => h1 h.1), List.getD_eq_getElem?_getD (l := rows.set _ _), List.getElem?_set_ne (fun h => h1 h.symm), ← List.getD_eq_getElem?_getD]
theorem xdrop_ints {xs : List Int} {o : Nat} {k : List AV → Prop} (i : Nat) (ho : o = i) (hi : i < xs.length) (h : k (.int .i64 (xs.getD i default) :: (ints xs).drop (i + 1))) : xdrop o (ints xs) k := by
  subst ho
  refine xdrop_at _ ?_ h
  rw [List.getElem?_map, List.getElem?_eq_getElem hi, List.getD_eq_getElem?_getD, List.getElem?_eq_getElem hi]; rfl
theorem XStorePart {o : Nat} {A : Unit → Prop} {B : Nat → Bool → Prop} (h : B o false) : xStore.match_1 (fun _ _ => Prop) o false A B := by
  cases o <;> exact h
theorem XPutPart.rows {els : List AV} {n e' o w : Nat} {v : Int} {k : List AV → Prop} (rows : List (List Int)) (e i : Nat) (he : e = e') (hE : els = rows.map arrA) (h1 : n = rows.length) (h2 : e < n) (hw : (rows.getD e default).length = w) (ho : o = i) (hi : i < w)
    (h : k ((putC rows e i v).map arrA)) : XPutPart els n e' o w [.int .i64 v] k := by
  subst he; subst hE; subst ho
  have hg : (rows.map arrA).getD e default = arrA (rows.getD e default) := by
    rw [List.getD_eq_getElem?_getD, List.getElem?_map, List.getD_eq_getElem?_getD, List.getElem?_eq_getElem (by omega)]; rfl
  refine ⟨by rw [List.length_map]; exact h1, h2, by simp; omega, by rw [hg]; rfl, ?_⟩
  rw [hg]
  show k ((rows.map arrA).set e (.agg (splice (ints (rows.getD e default)) o [.int .i64 v])))
  have : splice (ints (rows.getD e default)) o [.int .i64 v] = ints ((rows.getD e default).set o v) := by
    rw [ints, ints, List.map_set]
    have hl : o < ((rows.getD e default).map (AV.int .i64)).length := by rw [List.length_map]; omega
    rw [List.set_eq_take_append_cons_drop, if_pos hl]
    simp [splice]
  rw [this]
  unfold putC at h
  rw [List.map_set] at h
  exact h

structure BedOk (b : Bd) : Prop where
  r1 : 1 ≤ b.room
  r2 : b.room ≤ 120
  m1 : 1 ≤ b.months.length
  m2 : b.months.length ≤ 10
  f1 : 0 ≤ b.first
  f2 : b.first ≤ b.room
  u1 : 0 ≤ b.unsure
  u2 : b.unsure ≤ 40
  mo : ∀ m ∈ b.months, 0 ≤ m.g ∧ m.g ≤ 100 ∧ 0 ≤ m.r ∧ m.r ≤ b.room ∧ 0 ≤ m.pl ∧ m.pl ≤ m.ph ∧ m.ph ≤ 60 ∧ 0 ≤ m.tl ∧ m.tl ≤ m.th ∧ m.th ≤ 60
theorem bedE_ok (b : Bd) (hs : b.surveys = []) : bedE b = 0 ↔ BedOk b := by
  unfold bedE
  rw [hs]
  constructor
  · intro h
    split at h; · cases h
    split at h; · cases h
    split at h; · cases h
    rename_i h1 h2 h3
    simp only [Bool.not_eq_false, not_or, inZ_iff, List.all_eq_true, moR, withinB, Bool.and_eq_true] at h1 h2 h3
    exact ⟨h1.1, h1.2, by omega, by omega, h3.1.1, h3.1.2, h3.2.1.1, h3.2.1.2, fun m hm => by have := h3.2.2 m hm; omega⟩
  · intro o
    have h1 := o.r1; have h2 := o.r2; have h3 := o.m1; have h4 := o.m2; have h5 := o.f1; have h6 := o.f2; have h7 := o.u1; have h8 := o.u2
    have hm : b.months.all (moR b) = true := List.all_eq_true.2 fun m hm => by
      have := o.mo m hm
      simp only [moR, withinB, Bool.and_eq_true, inZ_iff]; omega
    rw [if_neg (by rw [inZ_iff.2 ⟨h1, h2⟩]; simp), if_neg (by rw [inZ_iff.2 ⟨by omega, by omega⟩]; simp), if_neg (by rw [inZ_iff.2 ⟨h5, h6⟩, inZ_iff.2 ⟨h7, h8⟩, hm]; simp)]
    rfl
def lieR (b : Bd) (j n : Nat) : Int := grossR b.room (b.months.getD j default).g n (b.months.getD j default).pl (b.months.getD j default).th
theorem lieR_b {b : Bd} (o : BedOk b) {j n : Nat} (hj : j < b.months.length) : 0 ≤ lieR b j n ∧ lieR b j n ≤ b.room := by
  have hm := o.mo _ (getD_mem (d := default) hj)
  have := o.r1
  exact grossR_le (by omega) (by omega)
def stepM (nx : Nat → Int) (lies : Nat) : Nat → Int
  | 0 => -1
  | r + 1 => if nx (lies - r) = -1 then stepM nx lies r else max (stepM nx lies r) (r + nx (lies - r))
def valM (b : Bd) (share : Int) : Nat → Nat → Int
  | 0, q => if share ≤ q then 0 else -1
  | k + 1, q => stepM (valM b share k) (lieR b (b.months.length - (k + 1)) q).toNat ((lieR b (b.months.length - (k + 1)) q).toNat + 1)
theorem stepM_b {nx : Nat → Int} {lies c : Nat} (h : ∀ q, q ≤ lies → -1 ≤ nx q ∧ nx q ≤ c) : ∀ r, r ≤ lies + 1 → -1 ≤ stepM nx lies r ∧ stepM nx lies r ≤ c + lies
  | 0, _ => by simp only [stepM]; omega
  | r + 1, hr => by
    have ih := stepM_b h r (by omega)
    have := h (lies - r) (by omega)
    unfold stepM
    split <;> omega
theorem valM_b {b : Bd} (o : BedOk b) (share : Int) : ∀ k, k ≤ b.months.length → ∀ q, -1 ≤ valM b share k q ∧ valM b share k q ≤ 120 * k
  | 0, _, q => by unfold valM; split <;> omega
  | k + 1, hk, q => by
    have hl := lieR_b o (j := b.months.length - (k + 1)) (n := q) (by have := o.m1; omega)
    have := o.r2
    have := stepM_b (nx := valM b share k) (lies := (lieR b (b.months.length - (k + 1)) q).toNat) (c := 120 * k) (fun q _ => valM_b o share k (by omega) q) _ (Nat.le_refl _)
    unfold valM
    omega
def rakeM (nx : Nat → Int) (lies : Nat) (v : Int) (r : Nat) : Bool := nx (lies - r) != -1 && ((r : Int) + nx (lies - r) == v)
def planM (b : Bd) (share : Int) : Nat → Nat → List Int
  | 0, _ => []
  | k + 1, a => match (List.range ((lieR b (b.months.length - (k + 1)) a).toNat + 1)).find? (rakeM (valM b share k) (lieR b (b.months.length - (k + 1)) a).toNat (valM b share (k + 1) a)) with
    | some r => (r : Int) :: planM b share k ((lieR b (b.months.length - (k + 1)) a).toNat - r)
    | none => planM b share k a
theorem planM_some {b : Bd} {share : Int} {k a lies r : Nat} (hl : lieR b (b.months.length - (k + 1)) a = lies) (hr : r ≤ lies) (h : rakeM (valM b share k) lies (valM b share (k + 1) a) r = true) (h2 : ∀ q, q < r → rakeM (valM b share k) lies (valM b share (k + 1) a) q = false) :
    planM b share (k + 1) a = (r : Int) :: planM b share k (lies - r) := by
  have : (List.range (lies + 1)).find? (rakeM (valM b share k) lies (valM b share (k + 1) a)) = some r := List.find?_range_eq_some.2 ⟨h, List.mem_range.2 (by omega), fun j hj => by rw [h2 j hj]; rfl⟩
  show (match (List.range ((lieR b (b.months.length - (k + 1)) a).toNat + 1)).find? (rakeM (valM b share k) (lieR b (b.months.length - (k + 1)) a).toNat (valM b share (k + 1) a)) with | some r => (r : Int) :: planM b share k ((lieR b (b.months.length - (k + 1)) a).toNat - r) | none => planM b share k a) = _
  rw [hl, Int.toNat_natCast, this]
theorem planM_none {b : Bd} {share : Int} {k a lies : Nat} (hl : lieR b (b.months.length - (k + 1)) a = lies) (h2 : ∀ q, q < lies + 1 → rakeM (valM b share k) lies (valM b share (k + 1) a) q = false) :
    planM b share (k + 1) a = planM b share k a := by
  have : (List.range (lies + 1)).find? (rakeM (valM b share k) lies (valM b share (k + 1) a)) = none := List.find?_range_eq_none.2 fun j hj => by rw [h2 j hj]; rfl
  show (match (List.range ((lieR b (b.months.length - (k + 1)) a).toNat + 1)).find? (rakeM (valM b share k) (lieR b (b.months.length - (k + 1)) a).toNat (valM b share (k + 1) a)) with | some r => (r : Int) :: planM b share k ((lieR b (b.months.length - (k + 1)) a).toNat - r) | none => planM b share k a) = _
  rw [hl, Int.toNat_natCast, this]
def mostA (b : Bd) (share : Int) : AV := if valM b share b.months.length (leastR b).toNat = -1 then .tup [.sl true [], .int .i64 6] else .tup [slA (planM b share b.months.length (leastR b).toNat), .int .i64 0]
theorem planM_b {b : Bd} (o : BedOk b) (share : Int) : ∀ k, k ≤ b.months.length → ∀ a, (∀ x ∈ planM b share k a, 0 ≤ x ∧ x ≤ b.room) ∧ (planM b share k a).length ≤ k
  | 0, _, a => ⟨by simp [planM], Nat.le_refl _⟩
  | k + 1, hk, a => by
    have hl := lieR_b o (j := b.months.length - (k + 1)) (n := a) (by have := o.m1; omega)
    unfold planM
    split
    · rename_i r hr
      have hm := List.mem_range.1 (List.mem_of_find?_eq_some hr)
      have ih := planM_b o share k (by omega) ((lieR b (b.months.length - (k + 1)) a).toNat - r)
      refine ⟨fun x hx => ?_, by simp only [List.length_cons]; omega⟩
      rcases List.mem_cons.1 hx with rfl | hx
      · omega
      · exact ih.1 x hx
    · have ih := planM_b o share k (by omega) a
      exact ⟨ih.1, by omega⟩
end GA
end

section
namespace GA
open Go Go.RowKit
set_option linter.unusedVariables false
section
variable {P : Program} {N : Nat} {ρ : Option Nat} {E : Env} {h h' : Nat → Option Obj} {β : Nat → Value} {H H' : List Blk} {w : World} {σ : St}

theorem gr_frz (s : SR P E h β H w) {i n : Nat} {t : TypeId} {nl : Bool} {els : List AV} (hi : H[i]? = some (.grow t nl els)) (hn : els.length = n) {v : Value} (hr : Rep P h β H (.gr i n) v) (X : Ext h β H h' β H')
    (hfz : ∀ b o, blkOf β H i = some b → w.heap[b]? = some o → h' b = some o) : Rep P h' β H' (.sl nl els) v := by
  cases hr with
  | gr ho hl hv =>
    obtain ⟨_, h2⟩ := hv _ _ _ hi
    have hβ := h2 hn
    subst hβ
    rcases s.blk i _ hi with ⟨rfl, rfl, h3⟩ | ⟨rfl, rfl, b, h3⟩ | ⟨rfl, b, cap, c, h3, h4, h5, h6, h7, h8, h9, h10, h11, us, h12, h13⟩
    · rw [h3]; exact .slnil
    · rw [h3]; exact .slemp
    · rw [h3]
      cases els with
      | nil => exact .slemp
      | cons e0 l0 =>
        have hbo : blkOf β H i = some b := by simp only [blkOf, hi, h3, anchor]; rw [if_neg (by omega)]
        exact .sl us rfl (by simp) (hfz b _ hbo h5) h10 h9 h11 h6 (fun j x e => by rw [Nat.zero_add]; exact h12 j x e) (fun j x e => X.rep (h13 j x e))

theorem Walk.freeze {c : Code} {Q : Post} {D : List Nat} (u i n : Nat) {t : TypeId} {nl : Bool} {els : List AV} (hu : σ u = some (.gr i n)) (hi : lget H i = some (.grow t nl els)) (hn : els.length = n) (x : Walk P N ρ c Q D (updX σ u (.sl nl els)) (H.set i .dead)) : Walk P N ρ c Q D σ H := by
  constructor
  intro E h β a w s
  rw [lget_eq] at hi
  obtain ⟨h', s1, X, hfz⟩ := s.sr.freeze hi
  refine wpIn_mono (x.o E h' _ a w ⟨s1, fun t' r e => ?_, s.size, s.df.ext X⟩) fun _ _ _ => Conc.ext X
  rw [updX_eq] at e; unfold upd at e
  split at e
  · rename_i hh; subst hh; cases e
    obtain ⟨v, h1, h2⟩ := s.fits _ _ hu
    exact ⟨v, h1, gr_frz s.sr hi hn h2 X hfz⟩
  · obtain ⟨v, h1, h2⟩ := s.fits t' r e
    exact ⟨v, h1, X.rep h2⟩
theorem Walk.freezeCell {c : Code} {Q : Post} {D : List Nat} (j o i n : Nat) {cs : List AV} {t : TypeId} {nl : Bool} {els : List AV} (hj : lget H j = some (.cells cs)) (hc : lget cs o = some (.gr i n)) (hi : lget H i = some (.grow t nl els)) (hn : els.length = n)
    (x : Walk P N ρ c Q D σ ((H.set i .dead).set j (.cells (cs.set o (.sl nl els))))) : Walk P N ρ c Q D σ H := by
  constructor
  intro E h β a w s
  rw [lget_eq] at hi hj hc
  have hlo := (List.getElem?_eq_some_iff.1 hc).1
  have hij : i ≠ j := by rintro rfl; rw [hi] at hj; cases hj
  obtain ⟨h', s1, X1, hfz⟩ := s.sr.freeze hi
  have hj1 : (H.set i .dead)[j]? = some (.cells cs) := by rw [List.getElem?_set_ne hij]; exact hj
  obtain ⟨s2, X2⟩ := s1.modify (β' := β) (w' := w) (x' := .cells (cs.set o (.sl nl els))) hj1 (fun _ _ => rfl) (.inr ⟨_, rfl, rfl⟩) s1.env (fun _ _ _ => rfl) (fun b e => .inl (by unfold blkOf; rw [hj1]; exact e)) (fun X => by
    obtain ⟨b, c, t, h1, h2, h3, h4, us, h5, h6⟩ := s.sr.blk j _ hj
    refine ⟨b, c, t, h1, h2, by rw [List.length_set]; exact h3, fun y hy => ?_, us, fun i y e => ?_, fun i y e => ?_⟩
    · rcases List.mem_or_eq_of_mem_set hy with hy | rfl
      · exact h4 y hy
      · rfl
    · by_cases hio : o = i
      · subst hio; exact h5 o _ hc
      · rw [List.getElem?_set_ne hio] at e; exact h5 i y e
    · by_cases hio : o = i
      · subst hio
        rw [List.getElem?_set_self hlo] at e; cases e
        exact gr_frz s.sr hi hn (h6 o _ hc) (X1.trans X) hfz
      · rw [List.getElem?_set_ne hio] at e; exact (X1.trans X).rep (h6 i y e))
  exact wpIn_mono (x.o E h' _ a w ⟨s2, fun u r e => let ⟨v, h1, h2⟩ := s.fits u r e; ⟨v, h1, (X1.trans X2).rep h2⟩, s.size, s.df.ext (X1.trans X2)⟩) fun _ _ _ => Conc.ext (X1.trans X2)

inductive FrzV (i n : Nat) (nl : Bool) (els : List AV) : AV → AV → Prop
  | same {x : AV} : FrzV i n nl els x x
  | gr : FrzV i n nl els (.gr i n) (.sl nl els)
  | agg {cs cs' : List AV} (hl : cs'.length = cs.length) (hone : ∀ x ∈ cs', x.one = true) (ho : ∀ (j : Nat) x', cs'[j]? = some x' → ∃ x, cs[j]? = some x ∧ (x' = x ∨ (x = .gr i n ∧ x' = .sl nl els))) : FrzV i n nl els (.agg cs) (.agg cs')
structure FrzL (i n : Nat) (nl : Bool) (els : List AV) (rs rs' : List AV) : Prop where
  l : rs'.length = rs.length
  o : ∀ (j : Nat) x', rs'[j]? = some x' → ∃ x, rs[j]? = some x ∧ FrzV i n nl els x x'
structure FrzC (i n : Nat) (nl : Bool) (els : List AV) (rs rs' : List AV) : Prop where
  l : rs'.length = rs.length
  o : ∀ (j : Nat) x', rs'[j]? = some x' → ∃ x, rs[j]? = some x ∧ (x' = x ∨ (x = .gr i n ∧ x' = .sl nl els))
section
variable {i n : Nat} {nl : Bool} {els : List AV}
theorem FrzC.nil : FrzC i n nl els [] [] := ⟨rfl, by simp⟩
theorem FrzC.cons {x y : AV} {rs rs' : List AV} (hx : y = x ∨ (x = .gr i n ∧ y = .sl nl els)) (h : FrzC i n nl els rs rs') : FrzC i n nl els (x :: rs) (y :: rs') := by
  refine ⟨by simp [h.l], fun j z e => ?_⟩
  cases j with
  | zero => simp at e; subst e; exact ⟨_, rfl, hx⟩
  | succ j => exact h.o j z (by simpa using e)
theorem FrzC.same {x : AV} {rs rs' : List AV} (h : FrzC i n nl els rs rs') : FrzC i n nl els (x :: rs) (x :: rs') := .cons (.inl rfl) h
theorem FrzC.gr {rs rs' : List AV} (h : FrzC i n nl els rs rs') : FrzC i n nl els (.gr i n :: rs) (.sl nl els :: rs') := .cons (.inr ⟨rfl, rfl⟩) h
theorem FrzL.nil : FrzL i n nl els [] [] := ⟨rfl, by simp⟩
theorem FrzL.cons {x y : AV} {rs rs' : List AV} (hx : FrzV i n nl els x y) (h : FrzL i n nl els rs rs') : FrzL i n nl els (x :: rs) (y :: rs') := by
  refine ⟨by simp [h.l], fun j z e => ?_⟩
  cases j with
  | zero => simp at e; subst e; exact ⟨_, rfl, hx⟩
  | succ j => exact h.o j z (by simpa using e)
theorem FrzL.same {x : AV} {rs rs' : List AV} (h : FrzL i n nl els rs rs') : FrzL i n nl els (x :: rs) (x :: rs') := .cons .same h
theorem FrzL.gr {rs rs' : List AV} (h : FrzL i n nl els rs rs') : FrzL i n nl els (.gr i n :: rs) (.sl nl els :: rs') := .cons .gr h
theorem FrzL.agg {cs cs' rs rs' : List AV} (hone : ∀ x ∈ cs', x.one = true) (hc : FrzC i n nl els cs cs') (h : FrzL i n nl els rs rs') : FrzL i n nl els (.agg cs :: rs) (.agg cs' :: rs') := .cons (.agg hc.l hone hc.o) h
theorem FrzV.rep (s : SR P E h β H w) {t : TypeId} (hi : H[i]? = some (.grow t nl els)) (hn : els.length = n) (X : Ext h β H h' β H') (hfz : ∀ b o, blkOf β H i = some b → w.heap[b]? = some o → h' b = some o) {x y : AV} (hv : FrzV i n nl els x y) {v : Value} (hr : Rep P h β H x v) : Rep P h' β H' y v := by
  cases hv with
  | same => exact X.rep hr
  | gr => exact gr_frz s hi hn hr X hfz
  | agg hl hone ho =>
    cases hr with
    | agg us h1 h2 h3 h4 =>
      refine .agg us (by rw [h1, hl]) hone (fun j x e => ?_) (fun j x e => ?_)
      · obtain ⟨z, e1, _⟩ := ho j x e; exact h3 j z e1
      · obtain ⟨z, e1, e2⟩ := ho j x e
        rcases e2 with rfl | ⟨rfl, rfl⟩
        · exact X.rep (h4 j _ e1)
        · exact gr_frz s hi hn (h4 j _ e1) X hfz
end
theorem XCall.frz {f : FuncId} {rs rs' : List AV} {k : AV → List Blk → Prop} (i n : Nat) {t : TypeId} {nl : Bool} {els : List AV} (hi : lget H i = some (.grow t nl els)) (hn : els.length = n) (hv : FrzL i n nl els rs rs')
    (H' : List Blk) (hH : ∀ E h β w, SR P E h β H w → ∀ h', SR P E h' β (H.set i .dead) w → Ext h β H h' β (H.set i .dead) → (∀ b o, blkOf β H i = some b → w.heap[b]? = some o → h' b = some o) → SR P E h' β H' w ∧ Ext h β H h' β H') (x : XCall P f rs' H' k) : XCall P f rs H k := by
  rw [lget_eq] at hi
  refine ⟨x.o.1, fun E h β w vs s hr => ?_⟩
  obtain ⟨h', s1, X, hfz⟩ := s.freeze hi
  obtain ⟨s2, X2⟩ := hH E h β w s h' s1 X hfz
  have hr' : RepL P h' β H' rs' vs := ⟨by rw [hv.l]; exact hr.1, fun j y e => by
    obtain ⟨z, e1, e2⟩ := hv.o j y e
    obtain ⟨v, e3, e4⟩ := hr.2 j z e1
    exact ⟨v, e3, e2.rep s hi hn X2 hfz e4⟩⟩
  refine (x.o.2 E h' β w vs s2 hr').mono ?_
  rintro e w' ⟨r, H'', h'', β'', v, e1, e2, e3, e4⟩
  exact ⟨r, H'', h'', β'', v, e1, e2, X2.trans e3, e4⟩
theorem XCall.freeze {f : FuncId} {rs rs' : List AV} {k : AV → List Blk → Prop} (i n : Nat) {t : TypeId} {nl : Bool} {els : List AV} (hi : lget H i = some (.grow t nl els)) (hn : els.length = n) (hv : FrzL i n nl els rs rs')
    (x : XCall P f rs' (H.set i .dead) k) : XCall P f rs H k :=
  .frz i n hi hn hv _ (fun _ _ _ _ _ _ s X _ => ⟨s, X⟩) x
theorem XCall.freezeCell {f : FuncId} {rs rs' : List AV} {k : AV → List Blk → Prop} (j o i n : Nat) {cs : List AV} {t : TypeId} {nl : Bool} {els : List AV} (hj : lget H j = some (.cells cs)) (hc : lget cs o = some (.gr i n)) (hi : lget H i = some (.grow t nl els)) (hn : els.length = n)
    (hv : FrzL i n nl els rs rs') (x : XCall P f rs' ((H.set i .dead).set j (.cells (cs.set o (.sl nl els)))) k) : XCall P f rs H k := by
  refine .frz i n hi hn hv _ (fun E h β w s h' s1 X1 hfz => ?_) x
  rw [lget_eq] at hi hj hc
  have hlo := (List.getElem?_eq_some_iff.1 hc).1
  have hij : i ≠ j := by rintro rfl; rw [hi] at hj; cases hj
  have hj1 : (H.set i .dead)[j]? = some (.cells cs) := by rw [List.getElem?_set_ne hij]; exact hj
  obtain ⟨s2, X2⟩ := s1.modify (β' := β) (w' := w) (x' := .cells (cs.set o (.sl nl els))) hj1 (fun _ _ => rfl) (.inr ⟨_, rfl, rfl⟩) s1.env (fun _ _ _ => rfl) (fun b e => .inl (by unfold blkOf; rw [hj1]; exact e)) (fun X => by
    obtain ⟨b, c, t, h1, h2, h3, h4, us, h5, h6⟩ := s.blk j _ hj
    refine ⟨b, c, t, h1, h2, by rw [List.length_set]; exact h3, fun y hy => ?_, us, fun i y e => ?_, fun i y e => ?_⟩
    · rcases List.mem_or_eq_of_mem_set hy with hy | rfl
      · exact h4 y hy
      · rfl
    · by_cases hio : o = i
      · subst hio; exact h5 o _ hc
      · rw [List.getElem?_set_ne hio] at e; exact h5 i y e
    · by_cases hio : o = i
      · subst hio
        rw [List.getElem?_set_self hlo] at e; cases e
        exact gr_frz s hi hn (h6 o _ hc) (X1.trans X) hfz
      · rw [List.getElem?_set_ne hio] at e; exact (X1.trans X).rep (h6 i y e))
  exact ⟨s2, X1.trans X2⟩
end
end GA
end

section
namespace GA
open Go Go.RowKit
set_option linter.unusedVariables false
section
variable {F : Fence} {n : Nat} {P : Program} {Q : Exit → Act → World → Prop} {a : Act} {w : World}
theorem stepR_scope {b : Frame} {k : List Item} {cs : List Frame} {c : Code} : step P (lone (b.atR a (.code (.scope c) :: k)) cs w) = .next (lone (b.atR a (.code c :: .inScope c :: k)) cs w) :=
  step_lone_go (by simp [stepG, stepG.exec, Frame.atR])
theorem stepR_inScope {b : Frame} {k : List Item} {cs : List Frame} {c : Code} : step P (lone (b.atR a (.inScope c :: k)) cs w) = .next (lone (b.atR a k) cs w) :=
  step_lone_go (by simp [stepG, stepG.exec, Frame.atR])
theorem wpIn_scope {c : Code} (h : c.wpIn F n P (Exit.noGoto Q) a w) : (Code.scope c).wpIn F n P Q a w := by
  intro b k cs hro hb hr
  have h0 : (lone (b.atR a (.code (.scope c) :: k)) cs w).fenced P F := fenced_calm hb hr rfl
  obtain ⟨e, a₁, w₁, hq, harr⟩ := h b (.inScope c :: k) cs hro hb hr
  cases e with
  | normal => exact ⟨.normal, a₁, w₁, hq, .head h0 stepR_scope (StepsIn.trans harr (.one (fenced_calm hb hr rfl) stepR_inScope))⟩
  | exit id =>
    have hx : exitTo id (.inScope c :: k) = exitTo id k := by simp [exitTo]
    exact ⟨.exit id, a₁, w₁, hq, fun k' hk => .head h0 stepR_scope (harr.1 k' (by rw [hx]; exact hk)),
      fun hr' hk => let ⟨k₁, h1, h2⟩ := harr.2 hr' (by rw [hx]; exact hk); ⟨k₁, h1, .head h0 stepR_scope h2⟩⟩
  | goto l => exact hq.elim
  | ret => exact ⟨_, a₁, w₁, hq, .of_steps (.one h0 stepR_scope) harr⟩
  | panic ch => exact ⟨_, a₁, w₁, hq, .of_steps (.one h0 stepR_scope) harr⟩
  | outgrown => exact ⟨_, a₁, w₁, hq, .of_steps (.one h0 stepR_scope) harr⟩
end
section
variable {P : Program} {T : Tab} {N : Nat} {ρ : Option Nat} {D : List Nat} {σ : St} {H : List Blk} {Q : Post} {own : List Nat}
def scopeX (Q : Post) : Post
  | .goto _, _, _, _ => False
  | e, D, σ, H => Q e D σ H
theorem Walk.scope {c : Code} (ok : TabOk P T) (own : List Nat) (x : XRun P T N ρ own c (scopeX Q) D σ H) : Walk P N ρ (.scope c) Q D σ H := by
  constructor
  intro E h β a w s
  refine wpIn_scope (wpIn_mono (XRun.sound ok x E h β a w s) ?_)
  rintro e a' w' ⟨D', σ', H', h', β', q, X, s'⟩
  cases e with
  | goto l => exact q.elim
  | _ => exact ⟨D', σ', H', h', β', q, X, s'⟩
theorem Walk.label {l : Nat} (x : Q .normal D σ H) : Walk P N ρ (.label l) Q D σ H :=
  ⟨fun E h β a w s => wpIn_label ⟨D, σ, H, h, β, x, Ext.refl _ _ _, s⟩⟩
end
end GA
end

section
namespace GA
open Go Go.RowKit
set_option linter.unusedVariables false

section
variable {P : Program} {T : Tab} {N : Nat} {ρ : Option Nat} {D : List Nat} {σ : St} {H : List Blk} {Q : Post}

def XKeep (P : Program) (n : Nat) (H : List Blk) (r r' : AV) : Prop := FrozN P n H r r' ∨ (r' = r ∧ r.low n = true)
theorem XKeep.same {n : Nat} {r : AV} (h : r.low n = true) : XKeep P n H r r := .inr ⟨rfl, h⟩
theorem XKeep.gr {n i m : Nat} {t : TypeId} {nl : Bool} {els : List AV} (hi : n ≤ i) (hb : lget H i = some (.grow t nl els)) (hn : els.length = m) (hl : lowL 0 els = true) : XKeep P n H (.gr i m) (.sl nl els) := .inl (.grow hi hb hn hl)
def SubF (P : Program) (n : Nat) (H : List Blk) : List (Nat × AV) → St → Prop
  | [], _ => True
  | (t, r') :: l, σ => (∃ r, σ t = some r ∧ XKeep P n H r r') ∧ SubF P n H l σ
theorem stX_subF {n : Nat} : ∀ {l : List (Nat × AV)} {σ : St}, SubF P n H l σ → ∀ t r, stX l t = some r → ∃ r0, σ t = some r0 ∧ XKeep P n H r0 r
  | [], _, _, _, _, e => by cases e
  | (u, x) :: l, σ, h, t, r, e => by
    simp only [stX, updX_eq, upd] at e
    split at e
    · rename_i h1; subst h1; cases e; exact h.1
    · exact stX_subF h.2 t r e

structure XAgainF {G : Type} (P : Program) (I : G → Prop) (L : G → List (Nat × AV)) (hp : G → List Blk) (μ : G → Nat) (g : G) (D' : List Nat) (σ' : St) (H' : List Blk) : Prop where
  d : D' = []
  o : ∃ g' l, I g' ∧ μ g' < μ g ∧ hp g' ++ l = H' ∧ SubF P (hp g').length H' (L g') σ'
theorem XAgainF.go {G : Type} {I : G → Prop} {L : G → List (Nat × AV)} {hp : G → List Blk} {μ : G → Nat} {g : G} (g' : G) (l : List Blk) (h1 : I g') (h2 : μ g' < μ g) (h3 : hp g' ++ l = H) (h4 : SubF P (hp g').length H (L g') σ) : XAgainF P I L hp μ g [] σ H := ⟨rfl, g', l, h1, h2, h3, h4⟩
theorem Walk.keep {c : Code} (ok : TabOk P T) (own : List Nat) (H1 l : List Blk) (L : List (Nat × AV)) (hH : H1 ++ l = H) (hlow : ∀ x ∈ H1, x.low H1.length = true) (hs : SubF P H1.length H L σ) (hD : D = []) (x : XRun P T N ρ own c Q D (stX L) (H1 ++ l.map fun _ => .dead)) : Walk P N ρ c Q D σ H := by
  subst hH; subst hD
  constructor
  intro E h β a w s
  have hd : ∀ (l : List Blk) (i : Nat) x, (l.map fun _ => Blk.dead)[i]? = some x → x = .dead := fun l i x e => by
    rw [List.getElem?_map] at e
    cases hx : l[i]? with
    | none => rw [hx] at e; cases e
    | some y => rw [hx] at e; cases e; rfl
  have hlen : (l.map fun _ => Blk.dead).length = l.length := List.length_map _
  have X : Ext h β (H1 ++ l) (hallN H1.length h β (H1 ++ l) w) β (H1 ++ l.map fun _ => .dead) := by
    refine ⟨fun b o e => hallN_imm s.sr e, by simp, fun i x x' e e' => ?_⟩
    by_cases hi : i < H1.length
    · rw [List.getElem?_append_left hi] at e e'
      rw [e] at e'; cases e'; exact Blk.to_refl _ _ _
    · rw [List.getElem?_append_right (by omega)] at e'
      have := hd _ _ _ e'
      subst this
      cases x <;> first | rfl | trivial | exact .inl rfl
  have s1 := s.sr.allN hlow
  have X1 : Ext (hallN H1.length h β (H1 ++ l) w) β H1 (hallN H1.length h β (H1 ++ l) w) β (H1 ++ l.map fun _ => .dead) :=
    ⟨fun _ _ e => e, by simp, fun i x x' e e' => by rw [List.getElem?_append_left (List.getElem?_eq_some_iff.1 e).1, e] at e'; cases e'; exact Blk.to_refl _ _ _⟩
  have hbo : ∀ i b, blkOf β (H1 ++ l.map fun _ => .dead) i = some b → blkOf β H1 i = some b := fun i b e => by
    have hlt := (blkOf_some e).1
    by_cases hi : i < H1.length
    · rw [← e]; exact (blkOf_congr rfl (List.getElem?_append_left hi)).symm
    · exfalso
      unfold blkOf at e
      cases hx : (H1 ++ l.map fun _ => Blk.dead)[i]? with
      | none => rw [hx] at e; cases e
      | some x =>
        rw [hx] at e
        rw [List.getElem?_append_right (by omega)] at hx
        have := hd _ _ _ hx
        subst this; cases e
  have s2 : SR P E (hallN H1.length h β (H1 ++ l) w) β (H1 ++ l.map fun _ => .dead) w := by
    refine s1.grown X1 s1.env s1.imm (fun i x e => ?_) (fun i j b e1 e2 => s1.own i j b (hbo _ _ e1) (hbo _ _ e2)) (fun i b e => s1.fresh i b (hbo _ _ e)) s1.frm (fun i b e => s1.fro i b (hbo _ _ e))
    by_cases hi : i < H1.length
    · rw [List.getElem?_append_left hi] at e; exact .inl ⟨e, rfl, fun _ _ => rfl⟩
    · rw [List.getElem?_append_right (by omega)] at e
      have := hd _ _ _ e
      subst this; exact .inr trivial
  refine wpIn_mono (XRun.sound ok x E _ β a w ⟨s2, fun t r e => ?_, s.size, s.df.ext X⟩) fun _ _ _ => Conc.ext X
  obtain ⟨r0, e1, e2⟩ := stX_subF hs t r e
  obtain ⟨v, h1, h2⟩ := s.fits t r0 e1
  rcases e2 with e2 | ⟨rfl, e2⟩
  · exact ⟨v, h1, e2 E h β w s.sr v h2 _⟩
  · refine ⟨v, h1, X1.rep (Rep.cut (l := l) ?_ e2)⟩
    have XA : Ext h β (H1 ++ l) (hallN H1.length h β (H1 ++ l) w) β (H1 ++ l) := ⟨fun b o e => hallN_imm s.sr e, Nat.le_refl _, fun i x x' e e' => by rw [e] at e'; cases e'; exact Blk.to_refl _ _ _⟩
    exact XA.rep h2
end
end GA
end

section
namespace GA
open Go Go.RowKit Go.Proofs
section
variable {P : Program} {E : Env} {h : Nat → Option Obj} {β : Nat → Value} {H : List Blk} {w w' : World} {ρ : Go.Shelf.Ren}

theorem setCells_env (b : Nat) : ∀ (vs : List Value) (o : Nat) (w : World), World.env (w.setCells b o vs) = World.env w
  | [], _, _ => rfl
  | v :: r, o, w => by rw [World.setCells, setCells_env b r]; rfl
theorem setCells_other (b : Nat) : ∀ (vs : List Value) (o : Nat) (w : World) (k : Nat), k ≠ b → (w.setCells b o vs).heap[k]? = w.heap[k]?
  | [], _, _, _, _ => rfl
  | v :: r, o, w, k, hk => by
    rw [World.setCells, setCells_other b r _ _ k hk]
    simp only [World.setCell, Array.getElem?_modify]
    rw [if_neg (fun e => hk e.symm)]
theorem setCells_heap (b : Nat) {t : TypeId} {fz : Nat × Nat} : ∀ (vs : List Value) (o : Nat) (w : World) (c : Array Value), w.heap[b]? = some (.cells c t fz) → o + vs.length ≤ c.size →
    ∃ c', (w.setCells b o vs).heap[b]? = some (.cells c' t fz) ∧ c'.size = c.size ∧ ∀ q, c'[q]? = if o ≤ q ∧ q < o + vs.length then vs[q - o]? else c[q]?
  | [], o, w, c, hb, _ => ⟨c, hb, rfl, fun q => by rw [if_neg (fun e => by have := e.2; simp at this; omega)]⟩
  | v :: r, o, w, c, hb, hl => by
    simp only [List.length_cons] at hl
    have h1 : (w.setCell ⟨b, o, none⟩ v).heap[b]? = some (.cells (c.setIfInBounds o v) t fz) := by
      simp only [World.setCell, Array.getElem?_modify]
      simp [hb]
    obtain ⟨c', a1, a2, a3⟩ := setCells_heap b r (o + 1) _ _ h1 (by simp; omega)
    refine ⟨c', a1, by simpa using a2, fun q => ?_⟩
    rw [a3]
    by_cases h0 : q = o
    · subst h0
      rw [if_neg (by omega), if_pos (by simp), Nat.sub_self, Array.getElem?_setIfInBounds, if_pos rfl, if_pos (by omega)]
      rfl
    · by_cases h2 : o + 1 ≤ q ∧ q < o + 1 + r.length
      · rw [if_pos h2, if_pos (by simp only [List.length_cons]; omega)]
        obtain ⟨d, rfl⟩ : ∃ d, q = o + 1 + d := ⟨q - (o + 1), by omega⟩
        rw [show o + 1 + d - (o + 1) = d by omega, show o + 1 + d - o = d + 1 by omega, List.getElem?_cons_succ]
      · rw [if_neg h2, if_neg (by simp only [List.length_cons]; omega), Array.getElem?_setIfInBounds, if_neg (fun e => h0 e.symm)]

def putAt (ys : List Int) (p : Nat) (x : Int) : List Int := ys.take p ++ x :: ys.drop p
theorem putAt_length {ys : List Int} {p : Nat} {x : Int} (hp : p ≤ ys.length) : (putAt ys p x).length = ys.length + 1 := by
  simp only [putAt, List.length_append, List.length_take, List.length_cons, List.length_drop]; omega
theorem putAt_get {ys : List Int} {p : Nat} {x : Int} (hp : p ≤ ys.length) (j : Nat) : (putAt ys p x)[j]? = if j < p then ys[j]? else if j = p then some x else ys[j - 1]? := by
  unfold putAt
  by_cases h1 : j < p
  · rw [if_pos h1, List.getElem?_append_left (by simp; omega), List.getElem?_take, if_pos h1]
  · rw [if_neg h1, List.getElem?_append_right (by simp; omega), List.length_take, Nat.min_eq_left hp]
    by_cases h2 : j = p
    · subst h2; simp
    · rw [if_neg h2]
      obtain ⟨d, rfl⟩ : ∃ d, j = p + 1 + d := ⟨j - (p + 1), by omega⟩
      rw [show p + 1 + d - p = d + 1 by omega, List.getElem?_cons_succ, List.getElem?_drop]
      congr 1; omega
def vint (z : Int) : Value := .int .i64 z
theorem flatI (ys : List Int) : flat (ys.map (AV.int .i64)) = ys.map (AV.int .i64) := by
  induction ys with
  | nil => rfl
  | cons y r ih => simp only [flat, List.map_cons, List.flatMap_cons] at ih ⊢; rw [ih]; rfl
theorem cells_ints {c : Array Value} {ys : List Int} (k : CellsOk P h β H (ys.map (AV.int .i64)) c) (j : Nat) (z : Int) (e : ys[j]? = some z) : c[j]? = some (.int .i64 z) := by
  obtain ⟨us, h1, h2⟩ := k
  have e' : (ys.map (AV.int .i64))[j]? = some (.int .i64 z) := by rw [List.getElem?_map, e]; rfl
  rw [h1 j _ e', rep_int (h2 j _ e')]
theorem ints_cells {c : Array Value} {ys : List Int} (hc : ∀ (j : Nat) z, ys[j]? = some z → c[j]? = some (.int .i64 z)) : CellsOk P h β H (ys.map (AV.int .i64)) c := by
  refine ⟨fun j => .int .i64 (ys.getD j 0), fun j x e => ?_, fun j x e => ?_⟩
  · rw [List.getElem?_map, Option.map_eq_some_iff] at e
    obtain ⟨z, e1, rfl⟩ := e
    rw [hc j z e1]; simp [List.getD, e1]
  · rw [List.getElem?_map, Option.map_eq_some_iff] at e
    obtain ⟨z, e1, rfl⟩ := e
    have e2 : ys.getD j 0 = z := by simp [List.getD, e1]
    simp only [e2]
    exact .int _ _

theorem insert_sr (s : SR P E h β H w) {i p cap b : Nat} {t : TypeId} {nl : Bool} {ys : List Int} {x : Int} (hi : H[i]? = some (.grow t nl (ys.map (AV.int .i64)))) (hp : p ≤ ys.length) (hsz : sz P t = 1)
    (hcap : ys.length + 1 ≤ cap) (hmax : cap ≤ maxLen) (he : World.env w' = World.env w) (hk : ∀ k, k < w.heap.size → blkOf β H i ≠ some k → w'.heap[k]? = w.heap[k]?)
    (hbo : blkOf β H i = some b ∨ w.heap.size ≤ b) {c' : Array Value} (hb : w'.heap[b]? = some (.cells c' t (0, 0))) (hcs : c'.size = cap) (hc : ∀ (j : Nat) z, (putAt ys p x)[j]? = some z → c'[j]? = some (.int .i64 z))
    {k : AV → List Blk → Prop} (hq : k (.gr i (ys.length + 1)) (H.set i (.grow t false ((putAt ys p x).map (AV.int .i64))))) :
    Ends P E h β H k (.returned (.slice (some ⟨b, 0, none⟩) (ys.length + 1) cap)) w' := by
  have hlt := (List.getElem?_eq_some_iff.1 hi).1
  have hpl := putAt_length (x := x) hp
  obtain ⟨s', X⟩ := s.modify (β' := upb β i (.slice (some ⟨b, 0, none⟩) (ys.length + 1) cap)) (w' := w') (x' := .grow t false ((putAt ys p x).map (AV.int .i64))) hi
    (fun j hj => by simp [upb, hj]) (.inr ⟨_, _, rfl, by simp [hpl], fun e => by simp [hpl] at e⟩) (he.trans s.env) hk
    (fun b0 hb => by simp [upb, anchor] at hb; rw [← hb.2]; exact hbo)
    (fun X => .inr (.inr ⟨rfl, b, cap, c', by simp [upb, hpl], by omega, hb, by simpa [hpl] using hcap, hmax, by rw [hsz, hcs, Nat.mul_one], by omega,
      fun e he => by rw [hsz]; obtain ⟨z, _, rfl⟩ := List.mem_map.1 he; rfl, fun e he => by rw [flatI] at he; obtain ⟨z, _, rfl⟩ := List.mem_map.1 he; rfl, by rw [flatI]; exact ints_cells hc⟩))
  refine ⟨_, _, _, _, _, rfl, hq, X, s', .gr rfl (.set hlt rfl) fun t' nl' els' e => ?_⟩
  simp [hlt] at e; obtain ⟨_, _, rfl⟩ := e; exact ⟨by simp [hpl], fun _ => by simp [upb]⟩

theorem ACall.insert (L : Lays2.n21 P ρ) {i j p : Nat} {nl : Bool} {ys : List Int} {x : Int} (hi : H[i]? = some (.grow (ρ.t 3) nl (ys.map (AV.int .i64)))) (hj : H[j]? = some (.grow (ρ.t 3) false [.int .i64 x])) (hij : i ≠ j)
    (hp : p ≤ ys.length) (hn : ys.length ≤ 1000000) {k : AV → List Blk → Prop} (hk : k (.gr i (ys.length + 1)) (H.set i (.grow (ρ.t 3) false ((putAt ys p x).map (AV.int .i64))))) :
    ACall P (ρ.f 21) [.gr i ys.length, .int .i64 p, .gr j 1] H k := by
  refine ⟨⟨_, L.f21, by kernel_rfl, by kernel_rfl⟩, fun E h β w vs s hr => ?_⟩
  obtain ⟨i0, hi0, hz0, hzs, hzb⟩ := info_parts L.i3
  have hsz : sz P (ρ.t 3) = 1 := by simp [sz, hi0, hzs]
  obtain ⟨hl, hr⟩ := hr
  match vs, hl, hr with
  | [v0, v1, v2], _, hr =>
  obtain ⟨_, e0, r0⟩ := hr 0 _ rfl
  obtain ⟨_, e1, r1⟩ := hr 1 _ rfl
  obtain ⟨_, e2, r2⟩ := hr 2 _ rfl
  cases e0; cases e1; cases e2
  have hv0 : v0 = β i := by cases r0 with | gr ho hii hv => exact (hv _ _ _ hi).2 (by simp)
  have hv2 : v2 = β j := by cases r2 with | gr ho hii hv => exact (hv _ _ _ hj).2 rfl
  have hv1 := rep_int r1
  subst hv0 hv1 hv2
  refine callsIn_wide.2 ?_
  rcases s.blk j _ hj with ⟨_, h7, _⟩ | ⟨_, h7, _⟩ | ⟨_, vb, vc, cv, j8, j9, j10, j11, j12, j13, j14, j15, j16, j17⟩
  · cases h7
  · cases h7
  have hvx : cv[0]? = some (.int .i64 x) := cells_ints (ys := [x]) (by simpa [flat, AV.cells] using j17) 0 x rfl
  have hjo : blkOf β H j = some vb := by simp [blkOf, hj, j8, anchor]; omega
  have hvs : ∀ (q : Nat) v, [vint x][q]? = some v → w.cell? ⟨vb, 0 + q, none⟩ = some v := fun q v e => by
    have hq : q = 0 := by have := (List.getElem?_eq_some_iff.1 e).1; simp at this; exact this
    subst hq; cases e
    rw [cell?_of j10]; exact hvx
  have hcsl : (ys.map vint).length = ys.length := by simp
  have h1c : ∀ v ∈ ys.map vint, v.oneCell' = true := fun v hv => by obtain ⟨z, _, rfl⟩ := List.mem_map.1 hv; rfl
  have h1v : ∀ v ∈ [vint x], v.oneCell' = true := fun v hv => by rw [List.mem_singleton.1 hv]; rfl
  have hzc : ∀ q, (Builtin.zeroCells (Value.int IntKind.i64 0).cells q).size = q := fun q => by rw [size_zeroCells]; exact Nat.mul_one q
  have hge := fun cap => grownCap_ge w (ys.length + 1) cap (ρ.t 3)
  have hle := fun cap => grownCap_le_maxLen w (ys.length + 1) cap (ρ.t 3) (by simp only [maxLen]; omega)
  -- the new row at the end
  have fresh_end : ∀ (base : Option Addr) (c : Nat), β i = .slice base ys.length c → ys.length ≤ c → c < ys.length + 1 → p = ys.length → (base = none → ys.length = 0) →
      (∀ a, base = some a → ∀ (q : Nat) v, (ys.map vint)[q]? = some v → w.cell? (a.add q) = some v) →
      Calls P (ρ.f 21) [β i, .int .i64 p, β j].toArray w (Ends P E h β H k) := by
    intro base c hb hnc hroom hpn hnil hcs
    rw [hb, j8, hpn]
    refine (Any2.slices_Insert_int_end_grow L base ys.length c vb 0 1 vc (ys.map vint) [vint x] w (by omega) hnc hroom (by omega) hcsl rfl hnil hcs hvs h1v).mono ?_
    rintro e w' ⟨rfl, rfl⟩
    refine insert_sr (w' := w.drew.alloc _) s hi (by omega : p ≤ ys.length) hsz (hge c) (hle c) rfl (fun k hk _ => Below.heap_alloc w.drew _ _ hk) (.inr (Nat.le_refl _)) (heap_alloc_new w.drew _) ?_ ?_ hk
    · simp only [Array.size_append, List.size_toArray, List.length_append, List.length_map, List.length_singleton, hzc]; have := hge c; omega
    · intro q z e
      rw [putAt_get hp] at e
      have hlq : q < ys.length + 1 := by
        split at e
        · omega
        · split at e
          · omega
          · have := (List.getElem?_eq_some_iff.1 e).1; omega
      rw [Array.getElem?_append_left (by simpa using hlq), List.getElem?_toArray]
      by_cases h1 : q < p
      · rw [if_pos h1] at e
        rw [List.getElem?_append_left (by simp; omega), List.getElem?_map, e]; rfl
      · rw [if_neg h1] at e
        have h2 : q = p := by omega
        rw [if_pos h2] at e; cases e
        rw [List.getElem?_append_right (by simp; omega), h2, hpn]; simp [vint]
  rcases s.blk i _ hi with ⟨h6, h7, h8⟩ | ⟨h6, h7, a0, h8⟩ | ⟨h6, b, cap, c, h8, h9, h10, h11, h12, h13, h14, h15, h16, h17⟩
  · have h7' : ys = [] := by simpa using h7
    subst h7'
    exact fresh_end none 0 h8 (by simp) (by simp) (by simpa using hp) (fun _ => rfl) (fun a e => by cases e)
  · have h7' : ys = [] := by simpa using h7
    subst h7'
    exact fresh_end (some a0) 0 h8 (by simp) (by simp) (by simpa using hp) (fun e => by cases e) (fun a e q v e' => by simp at e')
  · rw [flatI] at h17
    rw [hsz, Nat.mul_one] at h13
    simp only [List.length_map] at h8 h11
    have hcell := cells_ints h17
    have hcs : ∀ (q : Nat) v, (ys.map vint)[q]? = some v → w.cell? ⟨b, 0 + q, none⟩ = some v := fun q v e => by
      rw [List.getElem?_map, Option.map_eq_some_iff] at e
      obtain ⟨z, e1, rfl⟩ := e
      rw [cell?_of h10, Nat.zero_add]; exact hcell q z e1
    have hbo : blkOf β H i = some b := by simp [blkOf, hi, h8, anchor]; omega
    have hvb : vb ≠ b := fun e => hij (s.own i j b hbo (by rw [hjo, e]))
    by_cases hroom : ys.length + 1 ≤ cap
    · have hsp : ∀ q, q < ys.length + 1 → (w.cell? ⟨b, 0 + q, none⟩).isSome = true := fun q hq => by
        rw [cell?_of h10, Nat.zero_add, Array.getElem?_eq_getElem (by omega)]; rfl
      have hfz : ∀ (q : Nat), w.frozen? ⟨b, q, none⟩ = false := fun q => by simp [World.frozen?, h10]
      by_cases hpn : p = ys.length
      · rw [h8, j8, hpn]
        refine (Any2.slices_Insert_int_end_room L b 0 ys.length cap vb 0 1 vc [vint x] w (by omega) hroom (by simp only [maxLen] at h12; omega) rfl
          (fun q hq => by rw [Nat.zero_add, cell?_of h10, Array.getElem?_eq_getElem (by omega)]; rfl) (fun q hq => hfz _) hvs h1v).mono ?_
        rintro e w' ⟨rfl, rfl⟩
        obtain ⟨c', g1, g2, g3⟩ := setCells_heap b [vint x] (0 + ys.length) w c h10 (by simp; omega)
        refine insert_sr s hi hp hsz hroom h12 (setCells_env _ _ _ _) (fun k _ hne => setCells_other _ _ _ _ _ (fun e => hne (by rw [hbo, e]))) (.inl hbo) g1 (by omega) ?_ hk
        intro q z e
        rw [putAt_get hp] at e
        rw [g3]
        by_cases h1 : q < p
        · rw [if_pos h1] at e
          rw [if_neg (by omega)]; exact hcell q z e
        · rw [if_neg h1] at e
          by_cases h2 : q = p
          · rw [if_pos h2] at e; cases e
            rw [if_pos (by simp; omega)]; rw [h2, hpn]; simp [vint]
          · rw [if_neg h2] at e; have := (List.getElem?_eq_some_iff.1 e).1; omega
      · rw [h8, j8]
        refine (Any2.slices_Insert_int_shift L b 0 ys.length cap p vb 0 1 vc (ys.map vint) [vint x] w (by omega) (by omega) hroom (by simp only [maxLen] at h12; omega) hvb hcsl rfl hcs hsp (fun q _ => hfz _) hvs h1c h1v
          (ρ.t 3) (ρ.t 3) cv.size c.size (by simp [World.shape?, j10]) (by simp [World.shape?, h10]) (by omega) (by simp [World.frozen?, j10]) (by simp [World.frozen?, j10])).mono ?_
        rintro e w' ⟨rfl, rfl⟩
        obtain ⟨c1, f1, f2, f3⟩ := setCells_heap b ((ys.map vint).drop p) (0 + (p + 1)) w.drew c h10 (by simp; omega)
        obtain ⟨c', g1, g2, g3⟩ := setCells_heap b [vint x] (0 + p) _ c1 f1 (by simp; omega)
        refine insert_sr (w' := (w.drew.setCells b (0 + (p + 1)) ((ys.map vint).drop p)).setCells b (0 + p) [vint x]) s hi hp hsz hroom h12 ((setCells_env _ _ _ _).trans ((setCells_env _ _ _ _).trans rfl)) (fun k _ hne => (setCells_other _ _ _ _ _ (fun e => hne (by rw [hbo, e]))).trans (setCells_other _ _ _ _ _ (fun e => hne (by rw [hbo, e])))) (.inl hbo) g1 (by omega) ?_ hk
        intro q z e
        rw [putAt_get hp] at e
        rw [g3]
        by_cases h1 : q < p
        · rw [if_pos h1] at e
          rw [if_neg (by omega), f3, if_neg (by omega)]; exact hcell q z e
        · rw [if_neg h1] at e
          by_cases h2 : q = p
          · rw [if_pos h2] at e; cases e
            rw [if_pos (by simp; omega)]; rw [h2]; simp [vint]
          · rw [if_neg h2] at e
            have h3 := (List.getElem?_eq_some_iff.1 e).1
            rw [if_neg (by simp; omega), f3, if_pos (by simp; omega), List.getElem?_drop, List.getElem?_map, show p + (q - (0 + (p + 1))) = q - 1 by omega, e]; rfl
    · by_cases hpn : p = ys.length
      · exact fresh_end (some ⟨b, 0, none⟩) cap h8 h11 (by omega) hpn (fun e => by cases e) (fun a e q v e' => by cases e; have := hcs q v e'; rw [addr_add]; exact this)
      · rw [h8, j8]
        refine (Any2.slices_Insert_int_grow L b 0 ys.length cap p vb 0 1 vc (ys.map vint) [vint x] w (by omega) (by omega) h11 (by omega) (by omega) hcsl rfl hcs hvs h1c h1v).mono ?_
        rintro e w' ⟨rfl, rfl⟩
        obtain ⟨R, hR⟩ : ∃ R : Array Value, R = (((ys.map vint).take p).toArray ++ Builtin.zeroCells (Value.int .i64 0).cells (ys.length + 1 - p) ++ Builtin.zeroCells (Value.int .i64 0).cells (grownCap w (ys.length + 1) cap (ρ.t 3) - (ys.length + 1))) := ⟨_, rfl⟩
        have hRs : R.size = grownCap w (ys.length + 1) cap (ρ.t 3) := by
          rw [hR]; simp only [Array.size_append, List.size_toArray, List.length_take, List.length_map, hzc]; have := hge cap; omega
        rw [← hR]
        have hgc := hge cap
        have f0 : (w.alloc (.cells R (ρ.t 3))).drew.heap[w.heap.size]? = some (.cells R (ρ.t 3) (0, 0)) := heap_alloc_new w _
        obtain ⟨c1, f1, f2, f3⟩ := setCells_heap w.heap.size [vint x] p _ R f0 (by simp; omega)
        have f1' : ((w.alloc (.cells R (ρ.t 3))).drew.setCells w.heap.size p [vint x]).drew.heap[w.heap.size]? = some (.cells c1 (ρ.t 3) (0, 0)) := f1
        obtain ⟨c', g1, g2, g3⟩ := setCells_heap w.heap.size ((ys.map vint).drop p) (p + 1) _ c1 f1' (by simp; omega)
        refine insert_sr (w' := ((w.alloc (.cells R (ρ.t 3))).drew.setCells w.heap.size p [vint x]).drew.setCells w.heap.size (p + 1) ((ys.map vint).drop p)) s hi hp hsz (hge cap) (hle cap) ((setCells_env _ _ _ _).trans ((setCells_env _ _ _ _).trans rfl)) (fun k hk _ => (setCells_other _ _ _ _ _ (by omega)).trans ((setCells_other _ _ _ _ _ (by omega)).trans (Below.heap_alloc w _ _ hk))) (.inr (Nat.le_refl _)) g1 (by omega) ?_ hk
        intro q z e
        rw [putAt_get hp] at e
        rw [g3]
        by_cases h1 : q < p
        · rw [if_pos h1] at e
          rw [if_neg (by omega), f3, if_neg (by omega), hR, Array.getElem?_append_left (by simp [hzc]; omega), Array.getElem?_append_left (by simp; omega), List.getElem?_toArray, List.getElem?_take, if_pos h1, List.getElem?_map, e]; rfl
        · rw [if_neg h1] at e
          by_cases h2 : q = p
          · rw [if_pos h2] at e; cases e
            rw [if_neg (by omega), f3, if_pos (by simp; omega)]; rw [h2]; simp [vint]
          · rw [if_neg h2] at e
            have h3 := (List.getElem?_eq_some_iff.1 e).1
            rw [if_pos (by simp; omega), List.getElem?_drop, List.getElem?_map, show p + (q - (p + 1)) = q - 1 by omega, e]; rfl

structure Late (G : Prop) : Prop where
  g : G
theorem Walk.know {N : Nat} {r : Option Nat} {c : Code} {Q : Post} {D : List Nat} {σ : St} (L : List (Nat × AV)) (hs : SubX L σ) (x : Walk P N r c Q D (stX L) H) : Walk P N r c Q D σ H := ⟨AWp.weaken (stX_sub hs) x.o⟩
end
end GA
end

section
namespace GA
open Go Go.RowKit Go.Proofs
set_option pp.deepTerms true
set_option maxRecDepth 8000
set_option linter.unusedVariables false
set_option linter.unusedSimpArgs false

set_option maxHeartbeats 1000000 in
theorem most_c (b : Bd) (share : Int) (hE : bedE b = 0) (hs : b.surveys = []) (hsh : 0 ≤ share ∧ share ≤ b.room) : Comp Try.prog 67 [bedA b, .int .i64 share] (mostA b share) := by
  have ok := (bedE_ok b hs).1 hE
  have m1 := ok.m1
  have m2 := ok.m2
  have r1 := ok.r1
  have r2 := ok.r2
  have hi : inZ share 0 b.room = true := inZ_iff.2 hsh
  have e1 : ((b.months.map moA).length : Int) = b.months.length := by rw [List.length_map]
  refine Comp.body (T := tab) (res := [.tmp 4, .tmp 5]) tab_ok [] Try.func67 rfl (by kernel_rfl) Try.ntmps67 rfl (by simp only [List.length_cons, List.length_nil]; decide) (by simp only [lowL, bedL, AV.low]; rfl) ?_; conv => whnf
  refine XCall.shared hE (by omega) hs hi ?_
  conv => whnf
  repeat' first | ((with_reducible apply XBr.bne) <;> (intro h; first | (exfalso; omega) | (conv => whnf))) | ((with_reducible refine XInt.i64 (by omega) (by omega) ?_); conv => whnf) | ((with_reducible refine XHold.mk ?_ ?_); (first | omega | rfl | decide | exact ⟨rfl, by decide, rfl⟩ | exact wideI _ | exact widePr _ | exact wideSk _ | (unfold Room; constructor <;> ((try simp) <;> omega)) | exact ⟨rfl, by simp only [List.length_map], by unfold Room; constructor <;> ((try simp) <;> omega)⟩ | exact ⟨by omega, by omega, by unfold Room; constructor <;> ((try simp) <;> omega)⟩); conv => whnf) | fail
  refine Walk.loop tab_ok [] (fun g : Nat × List (List Int) => g.1 ≤ 121 ∧ RowsOk g.2 (b.months.length + 1) 121 ∧ ∀ q, q < g.1 → cellAt g.2 b.months.length q = valM b share 0 q)
    (fun g => [(1, .int .i64 share), (2, .pim (bedC b)), (4, .sl true []), (5, .int .i64 0), (6, .ptr 1 0), (8, .gr 2 (b.months.length + 1)), (35, natA g.1)]) (fun g => [.map [], .cells (bedC b ++ [.mp 0]), .grow 182 false (g.2.map arrA)]) (fun g => 121 - g.1) (0, List.replicate (b.months.length + 1) (List.replicate 121 0)) ⟨Nat.zero_le _, ⟨by simp, fun r hr => by rw [List.eq_of_mem_replicate hr]; simp⟩, fun q hq => by omega⟩ ?_ ⟨rfl, rfl, rfl, rfl, rfl, ?_, rfl, trivial⟩ ?_
  · show _ = [Blk.map [], Blk.cells (bedC b ++ [.mp 0]), Blk.grow 182 false (List.replicate (((b.months.map moA).length : Int) + 1).toNat (AV.agg (List.replicate 121 (AV.int .i64 0))))]
    rw [show (((b.months.map moA).length : Int) + 1).toNat = b.months.length + 1 by omega, List.map_replicate]
    rfl
  · exact congrArg (fun n => some (AV.gr 2 n)) (by omega)
  rintro ⟨n, rows⟩ ⟨hn, ro, hv⟩
  dsimp only at hn ro hv ⊢
  have ro1 := ro.put b.months.length n (-1) (by omega)
  have c1 := fun (h : n < 121) => cellAt_put ro (-1) (show b.months.length < b.months.length + 1 by omega) h
  have c2 := fun (h : n < 121) => cellAt_put ro1 0 (show b.months.length < b.months.length + 1 by omega) h
  conv => whnf
  repeat' first | ((with_reducible apply XBr.dec) <;> (intro h; first | (exfalso; omega) | ((try simp only [List.length_map] at h); first | (exfalso; omega) | (conv => whnf)))) | ((first | (with_reducible refine XInt.i64 (by omega) (by omega) ?_) | (refine XHold.mk ⟨by rw [List.length_map]; first | exact ro.n | exact ro1.n, rfl, by omega, by omega⟩ ?_) | (refine XArr.mk (by omega) (by omega) ?_) | (refine XStorePart ?_) | (refine XPutPart.rows (w := 121) rows b.months.length n (by omega) rfl ro.n.symm (by omega) (ro.at (by omega)) (by omega) (by omega) ?_) | (refine XPutPart.rows (w := 121) _ b.months.length n (by omega) rfl ro1.n.symm (by omega) (ro1.at (by omega)) (by omega) (by omega) ?_)); conv => whnf) | fail
  · refine XAgain.go (n + 1, putC (putC rows b.months.length n (-1)) b.months.length n 0) ⟨by dsimp only; omega, ro1.put _ _ _ (by omega), fun q hq => ?_⟩ (by dsimp only; omega) rfl ⟨rfl, rfl, rfl, rfl, rfl, rfl, rfl, trivial⟩
    dsimp only at hq ⊢
    rw [c2 (by omega)]
    by_cases hqn : q = n
    · rw [if_pos ⟨rfl, hqn⟩, hqn]; unfold valM; rw [if_pos h]
    · rw [if_neg (fun h => hqn h.2), c1 (by omega), if_neg (fun h => hqn h.2), hv q (by omega)]
  · refine XAgain.go (n + 1, putC rows b.months.length n (-1)) ⟨by dsimp only; omega, ro1, fun q hq => ?_⟩ (by dsimp only; omega) rfl ⟨rfl, rfl, rfl, rfl, rfl, rfl, rfl, trivial⟩
    dsimp only at hq ⊢
    rw [c1 (by omega)]
    by_cases hqn : q = n
    · rw [if_pos ⟨rfl, hqn⟩, hqn]; unfold valM; rw [if_neg h]
    · rw [if_neg (fun h => hqn h.2), hv q (by omega)]
  clear ro1 c1 c2
  obtain rfl : n = 121 := by omega
  refine Walk.loop tab_ok [] (fun g : Nat × List (List Int) => g.1 ≤ b.months.length ∧ RowsOk g.2 (b.months.length + 1) 121 ∧ ∀ i, i ≤ g.1 → ∀ q : Nat, (q : Int) ≤ b.room → cellAt g.2 (b.months.length - i) q = valM b share i q)
    (fun g => [(2, .pim (bedC b)), (4, .sl true []), (5, .int .i64 0), (6, .ptr 1 0), (8, .gr 2 (b.months.length + 1)), (10, .int .i64 (((b.months.map moA).length : Int) - 1 - g.1))]) (fun g => [.map [], .cells (bedC b ++ [.mp 0]), .grow 182 false (g.2.map arrA)]) (fun g => b.months.length - g.1) (0, rows)
    ⟨Nat.zero_le _, ro, fun i hi q hq => by obtain rfl : i = 0 := by { dsimp only at hi; omega }; exact hv q (by omega)⟩ rfl ⟨rfl, rfl, rfl, rfl, rfl, congrArg (fun z => some (AV.int .i64 z)) (by dsimp only; omega), trivial⟩ ?_
  clear hv ro
  rintro ⟨k, rows⟩ ⟨hk, ro, hv⟩
  dsimp only at hk ro hv ⊢
  conv => whnf
  repeat' first | ((with_reducible apply XBr.dec) <;> (intro h; first | (exfalso; omega) | ((try simp only [List.length_map] at h); first | (exfalso; omega) | (conv => whnf)))) | ((with_reducible refine XInt.i64 (by omega) (by omega) ?_); conv => whnf) | fail
  · obtain ⟨j, hj⟩ : ∃ j, j = b.months.length - (k + 1) := ⟨_, rfl⟩
    have hj1 : j + 1 = b.months.length - k := by omega
    have hjm := ok.mo _ (getD_mem (d := default) (show j < b.months.length by omega))
    refine Walk.loop tab_ok [] (fun g : Nat × List (List Int) => (g.1 : Int) ≤ b.room + 1 ∧ RowsOk g.2 (b.months.length + 1) 121 ∧ (∀ i, i ≤ k → ∀ q : Nat, (q : Int) ≤ b.room → cellAt g.2 (b.months.length - i) q = valM b share i q) ∧ ∀ q, q < g.1 → cellAt g.2 j q = valM b share (k + 1) q)
      (fun g => [(2, .pim (bedC b)), (4, .sl true []), (5, .int .i64 0), (6, .ptr 1 0), (8, .gr 2 (b.months.length + 1)), (10, natA j), (66, .int .i64 (b.room + 1)), (67, natA g.1)]) (fun g => [.map [], .cells (bedC b ++ [.mp 0]), .grow 182 false (g.2.map arrA)]) (fun g => b.room.toNat + 1 - g.1) (0, rows)
      ⟨by dsimp only; omega, ro, hv, fun q hq => by dsimp only at hq; omega⟩ rfl ⟨rfl, rfl, rfl, rfl, rfl, congrArg (fun z => some (AV.int .i64 z)) (by omega), rfl, rfl, trivial⟩ ?_
    clear hv ro
    rintro ⟨n, rows⟩ ⟨hn, ro, hv, hw⟩
    dsimp only at hn ro hv hw ⊢
    have ro1 := ro.put j n (-1) (by omega)
    have c1 := fun (h : n < 121) => cellAt_put ro (-1) (show j < b.months.length + 1 by omega) h
    have hgr := fun (h : n < 121) => gross_c b j n (b.months.getD j default).pl (b.months.getD j default).th (by omega) (by omega) (by omega) (by omega) (by omega) (by omega) (by omega) (by omega) (by omega) (by omega) (by omega)
    have hlb := lieR_b ok (j := j) (n := n) (by omega)
    conv => whnf
    repeat' first | ((with_reducible apply XBr.dec) <;> (intro h; first | (exfalso; omega) | ((try simp only [List.length_map] at h); first | (exfalso; omega) | (conv => whnf)))) | ((first | (with_reducible refine XInt.i64 (by omega) (by omega) ?_) | (refine XHold.mk ⟨by rw [List.length_map]; first | exact ro.n | exact ro1.n, rfl, by omega, by omega⟩ ?_) | (refine XArr.mk (by omega) (by omega) ?_) | (refine XStorePart ?_) | (refine XPutPart.rows (w := 121) rows j n (by omega) rfl ro.n.symm (by omega) (ro.at (by omega)) (by omega) (by omega) ?_)); conv => whnf) | fail
    · have hgc := hgr (by omega)
      change Comp Try.prog _ _ (.int .i64 (lieR b j n)) at hgc
      apply Walk.drawX tab_ok mixed_ok [] [] (hsK _) [_, _, _, _, _, _, _, _, _, _, _, _, _, _] (by kernel_rfl) rfl
      · skip
        repeat' first | (((with_reducible refine XIx.nat ?_ ?_ ?_); omega; (intro _; rfl)); conv => whnf) | (with_reducible apply XAnd.mk) | ((first | (with_reducible apply Chk.go) | (with_reducible apply ChkA.go)); conv => whnf) | (exact XSame.mk rfl rfl) | (with_reducible exact trivial) | ((first | (refine XCall.ret (worst_c (b.months.getD j default)) ?_) | (refine XCall.ret hgc ?_)); conv => whnf) | fail
      · skip
        repeat' first | (with_reducible apply XAnd.mk) | ((first | (with_reducible apply ChkF.go) | (with_reducible apply ChkB.go)); conv => whnf) | (with_reducible exact trivial) | fail
      conv => whnf
      repeat' first | ((with_reducible refine XInt.i64 (by omega) (by omega) ?_); conv => whnf) | fail
      obtain ⟨li, hli⟩ : ∃ li : Nat, lieR b j n = li := ⟨(lieR b j n).toNat, by omega⟩
      have hstep : valM b share (k + 1) n = stepM (valM b share k) li (li + 1) := by
        show stepM _ (lieR b (b.months.length - (k + 1)) n).toNat ((lieR b (b.months.length - (k + 1)) n).toNat + 1) = _
        rw [← hj, hli]; rfl
      rw [hli] at hlb ⊢
      have c1' := c1 (by omega)
      refine Walk.loop tab_ok [] (fun g : Nat × List (List Int) => g.1 ≤ li + 1 ∧ RowsOk g.2 (b.months.length + 1) 121 ∧ (∀ i, i ≤ k → ∀ q : Nat, (q : Int) ≤ b.room → cellAt g.2 (b.months.length - i) q = valM b share i q) ∧ (∀ q, q < n → cellAt g.2 j q = valM b share (k + 1) q) ∧ cellAt g.2 j n = stepM (valM b share k) li g.1)
        (fun g => [(2, .pim (bedC b)), (4, .sl true []), (5, .int .i64 0), (6, .ptr 1 0), (8, .gr 2 (b.months.length + 1)), (10, natA j), (11, natA n), (12, natA li), (66, .int .i64 (b.room + 1)), (67, natA n), (89, .int .i64 ((li : Int) + 1)), (90, natA g.1)]) (fun g => [.map [], .cells (bedC b ++ [.mp 0]), .grow 182 false (g.2.map arrA)]) (fun g => li + 1 - g.1) (0, putC rows j n (-1))
        ⟨Nat.zero_le _, ro1, fun i hi q hq => by dsimp only; rw [c1', if_neg (by omega), hv i hi q hq], fun q hq => by dsimp only; rw [c1', if_neg (by omega), hw q hq], by dsimp only; rw [c1', if_pos ⟨rfl, rfl⟩]; rfl⟩ rfl ⟨rfl, rfl, rfl, rfl, rfl, rfl, rfl, rfl, rfl, rfl, rfl, rfl, trivial⟩ ?_
      clear hv ro hw c1 c1' ro1 hgr
      rintro ⟨r, rows⟩ ⟨hr, ro, hv, hw, hc⟩
      dsimp only at hr ro hv hw hc ⊢
      have hnx := fun (h : r ≤ li) => hv k (Nat.le_refl k) (li - r) (by omega)
      have hnb := valM_b ok share k (by omega) (li - r)
      have hsb := stepM_b (nx := valM b share k) (lies := li) (c := 120 * k) (fun q _ => valM_b ok share k (by omega) q) r (by omega)
      have hst : stepM (valM b share k) li (r + 1) = if valM b share k (li - r) = -1 then stepM (valM b share k) li r else max (stepM (valM b share k) li r) (r + valM b share k (li - r)) := rfl
      have hvx := fun (h : r ≤ li) => (show (rows.getD ((j : Int) + 1).toNat default).getD (li - r) default = valM b share k (li - r) by rw [show ((j : Int) + 1).toNat = b.months.length - k by omega]; exact hnx h)
      have cp := fun v => cellAt_put ro v (show j < b.months.length + 1 by omega) (show n < 121 by omega)
      conv => whnf
      repeat' first | ((with_reducible apply XBr.dec) <;> (intro h; first | (exfalso; omega) | ((try simp only [List.length_map] at h); first | (exfalso; omega) | (conv => whnf)))) | ((with_reducible apply XBr.bne) <;> (intro h; first | (exfalso; omega) | (conv => whnf))) | ((first | (with_reducible refine XInt.i64 (by omega) (by omega) ?_) | (refine XHold.mk ⟨by rw [List.length_map]; exact ro.n, rfl, by omega, by omega⟩ ?_) | (refine XArr.mk (by omega) (by omega) ?_) | (refine XGet.map ro.n.symm (by omega) ?_) | (refine xdrop_ints (li - r) (by omega) (by rw [ro.at (by omega)]; omega) ?_)); conv => whnf) | fail
      · have hv1 := hvx (by omega)
        have hv2 : -1 ≤ (rows.getD ((j : Int) + 1).toNat default).getD (li - r) default ∧ (rows.getD ((j : Int) + 1).toNat default).getD (li - r) default ≤ 120 * k := by rw [hv1]; exact hnb
        apply Walk.drawX tab_ok mixed_ok [] [16] (hsV _ [id, fun H => H.set 2 (.grow 182 false ((putC rows j n (max ((rows.getD j default).getD n default) ((r : Int) + (rows.getD ((j : Int) + 1).toNat default).getD (li - r) default))).map arrA))]) [_, _, _, _, _, _, _, _, _, _, _, _, _, _, _, _, _] (by kernel_rfl) rfl
        · skip
          repeat' first | ((with_reducible refine XInt.i64 (by omega) (by omega) ?_); conv => whnf) | ((with_reducible refine XHold.mk ?_ ?_); (first | omega | rfl | decide | exact ⟨rfl, by decide, rfl⟩ | exact wideI _ | exact widePr _ | exact wideSk _ | (unfold Room; constructor <;> ((try simp) <;> omega)) | exact ⟨rfl, by simp only [List.length_map], by unfold Room; constructor <;> ((try simp) <;> omega)⟩ | exact ⟨by omega, by omega, by unfold Room; constructor <;> ((try simp) <;> omega)⟩); conv => whnf) | (with_reducible apply XAnd.mk) | ((first | (with_reducible apply Chk.go) | (with_reducible apply ChkA.go)); conv => whnf) | (exact XSame.mk rfl rfl) | (with_reducible exact trivial) | ((first | (refine XHold.mk ⟨by rw [List.length_map]; first | exact ro.n | exact (ro.put j n _ (by omega)).n, rfl, by omega, by omega⟩ ?_) | (refine XArr.mk (by omega) (by omega) ?_) | (refine XGet.map ro.n.symm (by omega) ?_) | (refine xdrop_ints n (by omega) (by rw [ro.at (by omega)]; omega) ?_) | (refine XCall.ret (bedGreatest_c _ false [_] (by simp)) ?_) | (refine XStorePart ?_) | (refine XPutPart.rows (w := 121) rows j n (by omega) rfl ro.n.symm (by omega) (ro.at (by omega)) (by omega) (by omega) ?_)); conv => whnf) | fail
        · skip
          repeat' first | (with_reducible apply XAnd.mk) | ((first | (with_reducible apply Chk.go) | (with_reducible apply ChkF.go) | (with_reducible apply ChkB.go)); conv => whnf) | (exact XSame.mk rfl rfl) | (with_reducible exact trivial) | ((refine XHold.mk ⟨by rw [List.length_map]; first | exact ro.n | exact (ro.put j n _ (by omega)).n, rfl, by omega, by omega⟩ ?_); conv => whnf) | fail
        conv => whnf
        repeat' first | ((with_reducible refine XInt.i64 (by omega) (by omega) ?_); conv => whnf) | fail
        have hcv : max ((rows.getD j default).getD n default) ((r : Int) + (rows.getD ((j : Int) + 1).toNat default).getD (li - r) default) = stepM (valM b share k) li (r + 1) := by
          rw [hst, if_neg (by rw [← hv1]; exact h), hv1, ← hc]; rfl
        refine XAgain.go (r + 1, putC rows j n (max ((rows.getD j default).getD n default) ((r : Int) + (rows.getD ((j : Int) + 1).toNat default).getD (li - r) default))) ⟨by dsimp only; omega, ro.put _ _ _ (by omega), fun i hi q hq => ?_, fun q hq => ?_, ?_⟩ (by dsimp only; omega) rfl ⟨rfl, rfl, rfl, rfl, rfl, rfl, rfl, rfl, rfl, rfl, rfl, rfl, trivial⟩
        · dsimp only; rw [cp, if_neg (by omega), hv i hi q hq]
        · dsimp only; rw [cp, if_neg (by omega), hw q hq]
        · dsimp only; rw [cp, if_pos ⟨rfl, rfl⟩, hcv]
      · refine XAgain.go (r + 1, rows) ⟨by dsimp only; omega, ro, hv, hw, ?_⟩ (by dsimp only; omega) rfl ⟨rfl, rfl, rfl, rfl, rfl, rfl, rfl, rfl, rfl, rfl, rfl, rfl, trivial⟩
        dsimp only
        rw [hc, hst, if_pos (by rw [← hvx (by omega)]; exact h)]
      · obtain rfl : r = li + 1 := by omega
        refine XAgain.go (n + 1, rows) ⟨by dsimp only; omega, ro, hv, fun q hq => ?_⟩ (by dsimp only; omega) rfl ⟨rfl, rfl, rfl, rfl, rfl, rfl, rfl, rfl, trivial⟩
        dsimp only at hq ⊢
        by_cases hqn : q = n
        · rw [hqn, hc, hstep]
        · exact hw q (by omega)
    · have hn1 : (n : Int) = b.room + 1 := by omega
      refine XAgain.go (k + 1, rows) ⟨by dsimp only; omega, ro, fun i hi q hq => ?_⟩ (by dsimp only; omega) rfl ⟨rfl, rfl, rfl, rfl, rfl, congrArg (fun z => some (AV.int .i64 z)) (by dsimp only; omega), trivial⟩
      dsimp only at hi ⊢
      by_cases hik : i = k + 1
      · rw [hik, ← hj]; exact hw q (by omega)
      · exact hv i (by omega) q hq
  · obtain rfl : k = b.months.length := by omega
    have hle := least_c b ok.f1 (by have := ok.f2; omega) ok.u1 (by have := ok.u2; omega)
    obtain ⟨a0, ha0⟩ : ∃ a0 : Nat, leastR b = a0 := ⟨(leastR b).toNat, by unfold leastR; omega⟩
    have ha1 : (a0 : Int) ≤ b.room := by rw [← ha0]; unfold leastR; have := ok.f2; have := ok.u1; omega
    have hv0 : (rows.getD 0 default).getD a0 default = valM b share b.months.length a0 := by
      have := hv b.months.length (Nat.le_refl _) a0 ha1
      rw [Nat.sub_self] at this; exact this
    unfold mostA
    rw [ha0, Int.toNat_natCast]
    rw [ha0] at hle
    repeat' first | ((with_reducible apply XBr.beq) <;> (intro h; first | (exfalso; omega) | (conv => whnf))) | ((first | (refine XCall.ret hle ?_) | (refine XHold.mk ⟨by rw [List.length_map]; exact ro.n, rfl, by omega, by omega⟩ ?_) | (refine XArr.mk (by omega) (by omega) ?_) | (refine XGet.map ro.n.symm (by omega) ?_) | (refine xdrop_ints a0 (by omega) (by rw [ro.at (by omega)]; omega) ?_)); conv => whnf) | fail
    · rw [if_pos (by rw [← hv0]; exact h)]; exact ⟨.low rfl⟩
    rw [if_neg (by rw [← hv0]; exact h)]
    refine Walk.nilgr 16 3 rfl ?_
    refine Walk.loop tab_ok [] (fun g : Nat × Nat × List Int => g.1 ≤ b.months.length ∧ (g.2.1 : Int) ≤ b.room ∧ g.2.2 ++ planM b share (b.months.length - g.1) g.2.1 = planM b share b.months.length a0 ∧ g.2.2.length ≤ g.1)
      (fun g => [(2, .pim (bedC b)), (4, .sl true []), (5, .int .i64 0), (6, .ptr 1 0), (8, .gr 2 (b.months.length + 1)), (15, natA g.2.1), (16, .gr 3 g.2.2.length), (132, .int .i64 (b.months.map moA).length), (133, natA g.1)])
      (fun g => [.map [], .cells (bedC b ++ [.mp 0]), .grow 182 false (rows.map arrA), .grow 3 g.2.2.isEmpty (ints g.2.2)]) (fun g => b.months.length - g.1) (0, a0, []) ⟨Nat.zero_le _, ha1, rfl, Nat.le_refl _⟩ rfl ⟨rfl, rfl, rfl, rfl, rfl, rfl, rfl, rfl, rfl, trivial⟩ ?_
    clear hv0 h
    rintro ⟨m, a, out⟩ ⟨hm, ham, hpl, hol⟩
    dsimp only at hm ham hpl hol ⊢
    conv => whnf
    repeat' first | ((with_reducible apply XBr.dec) <;> (intro h; first | (exfalso; omega) | ((try simp only [List.length_map] at h); first | (exfalso; omega) | (conv => whnf)))) | fail
    · have hjm := ok.mo _ (getD_mem (d := default) (show m < b.months.length by omega))
      obtain ⟨k, hkm⟩ : ∃ k, b.months.length - m = k + 1 := ⟨b.months.length - m - 1, by omega⟩
      have hmk : b.months.length - (k + 1) = m := by omega
      have hgc := gross_c b m a (b.months.getD m default).pl (b.months.getD m default).th (by omega) (by omega) (by omega) (by omega) (by omega) (by omega) (by omega) (by omega) (by omega) (by omega) (by omega)
      change Comp Try.prog _ _ (.int .i64 (lieR b m a)) at hgc
      have hlb := lieR_b ok (j := m) (n := a) (by omega)
      apply Walk.drawX tab_ok mixed_ok [] [] (hsK _) [_, _, _, _, _, _, _, _, _, _, _, _, _, _] (by kernel_rfl) rfl
      · skip
        repeat' first | (((with_reducible refine XIx.nat ?_ ?_ ?_); omega; (intro _; rfl)); conv => whnf) | (with_reducible apply XAnd.mk) | ((first | (with_reducible apply Chk.go) | (with_reducible apply ChkA.go)); conv => whnf) | (exact XSame.mk rfl rfl) | (with_reducible exact trivial) | ((first | (refine XCall.ret (worst_c (b.months.getD m default)) ?_) | (refine XCall.ret hgc ?_)); conv => whnf) | fail
      · skip
        repeat' first | (with_reducible apply XAnd.mk) | ((first | (with_reducible apply ChkF.go) | (with_reducible apply ChkB.go)); conv => whnf) | (with_reducible exact trivial) | fail
      conv => whnf
      repeat' first | ((with_reducible refine XInt.i64 (by omega) (by omega) ?_); conv => whnf) | fail
      obtain ⟨li, hli⟩ : ∃ li : Nat, lieR b m a = li := ⟨(lieR b m a).toNat, by omega⟩
      have hps := fun r => planM_some (b := b) (share := share) (k := k) (a := a) (lies := li) (r := r) (by rw [hmk]; exact hli)
      have hpn := planM_none (b := b) (share := share) (k := k) (a := a) (lies := li) (by rw [hmk]; exact hli)
      rw [hkm] at hpl
      rw [hli] at hlb ⊢
      refine Walk.loop tab_ok [] (fun r : Nat => r ≤ li + 1 ∧ ∀ q, q < r → rakeM (valM b share k) li (valM b share (k + 1) a) q = false)
        (fun r => [(2, .pim (bedC b)), (4, .sl true []), (5, .int .i64 0), (6, .ptr 1 0), (8, .gr 2 (b.months.length + 1)), (15, natA a), (16, .gr 3 out.length), (17, natA m), (18, natA li), (132, .int .i64 (b.months.map moA).length), (133, natA m), (150, .int .i64 ((li : Int) + 1)), (151, natA r)])
        (fun _ => [.map [], .cells (bedC b ++ [.mp 0]), .grow 182 false (rows.map arrA), .grow 3 out.isEmpty (ints out)]) (fun r => li + 1 - r) 0 ⟨Nat.zero_le _, fun q hq => by omega⟩ rfl ⟨rfl, rfl, rfl, rfl, rfl, rfl, rfl, rfl, rfl, rfl, rfl, rfl, rfl, trivial⟩ ?_
      rintro r ⟨hr, hno⟩
      have hnx := fun (h : r ≤ li) => (show (rows.getD ((m : Int) + 1).toNat default).getD (li - r) default = valM b share k (li - r) by rw [show ((m : Int) + 1).toNat = b.months.length - k by omega]; exact hv k (by omega) (li - r) (by omega))
      have hnb := valM_b ok share k (by omega) (li - r)
      have hva : (rows.getD m default).getD a default = valM b share (k + 1) a := by
        have := hv (k + 1) (by omega) a ham
        rw [hmk] at this; exact this
      have hrk : rakeM (valM b share k) li (valM b share (k + 1) a) r = (valM b share k (li - r) != -1 && ((r : Int) + valM b share k (li - r) == valM b share (k + 1) a)) := rfl
      have hvb : r ≤ li → -1 ≤ (rows.getD ((m : Int) + 1).toNat default).getD (li - r) default ∧ (rows.getD ((m : Int) + 1).toNat default).getD (li - r) default ≤ 120 * k := fun h => by rw [hnx h]; exact hnb
      conv => whnf
      repeat' first | ((first | (with_reducible apply XBr.tt) | (with_reducible apply XBr.ff)); conv => whnf) | ((with_reducible apply XBr.dec) <;> (intro h; first | (exfalso; omega) | ((try simp only [List.length_map] at h); first | (exfalso; omega) | (conv => whnf)))) | ((with_reducible apply XBr.beq) <;> (intro h; first | (exfalso; omega) | (conv => whnf))) | ((with_reducible apply XBr.bne) <;> (intro h; first | (exfalso; omega) | (conv => whnf))) | ((with_reducible refine XInt.i64 (by omega) (by omega) ?_); conv => whnf) | ((with_reducible refine XHold.mk ?_ ?_); (first | omega | rfl | decide | exact ⟨rfl, by decide, rfl⟩ | exact wideI _ | exact widePr _ | exact wideSk _ | (unfold Room; constructor <;> ((try simp) <;> omega)) | exact ⟨rfl, by simp only [List.length_map], by unfold Room; constructor <;> ((try simp) <;> omega)⟩ | exact ⟨by omega, by omega, by unfold Room; constructor <;> ((try simp) <;> omega)⟩); conv => whnf) | ((first | (refine XHold.mk ⟨by rw [List.length_map]; exact ro.n, rfl, by omega, by omega⟩ ?_) | (refine XArr.mk (by omega) (by omega) ?_) | (refine XGet.map ro.n.symm (by omega) ?_) | (refine xdrop_ints (li - r) (by omega) (by rw [ro.at (by omega)]; omega) ?_) | (refine xdrop_ints a (by omega) (by rw [ro.at (by omega)]; omega) ?_)); conv => whnf) | fail
      · rename_i h1 h2
        have h3 : (r : Int) + (rows.getD ((m : Int) + 1).toNat default).getD (li - r) default = (rows.getD m default).getD a default := h
        rw [hnx (by omega)] at h2 h3
        have hr1 : rakeM (valM b share k) li (valM b share (k + 1) a) r = true := by rw [hrk, ← hva, h3]; simp [h2]
        refine XAgain.go (m + 1, li - r, out ++ [(r : Int)]) ⟨by dsimp only; omega, by dsimp only; omega, ?_, by dsimp only; rw [List.length_append]; simp; omega⟩ (by dsimp only; omega) ?_ ⟨rfl, rfl, rfl, rfl, rfl, congrArg (fun z => some (AV.int .i64 z)) (by dsimp only; omega), ?_, rfl, rfl, trivial⟩
        · dsimp only
          rw [← hpl, hps r (by omega) hr1 hno, show b.months.length - (m + 1) = k by omega, List.append_assoc]; rfl
        · show [Blk.map [], Blk.cells (bedC b ++ [.mp 0]), Blk.grow 182 false (rows.map arrA), Blk.grow 3 (out ++ [(r : Int)]).isEmpty (List.map (AV.int .i64) (out ++ [(r : Int)]))] = _
          rw [isEmpty_app, List.map_append]
          rfl
        · show some (AV.gr 3 (out.length + 1)) = some (AV.gr 3 (out ++ [(r : Int)]).length)
          rw [List.length_append]; rfl
      · rename_i h1 h2
        have h3 : (r : Int) + (rows.getD ((m : Int) + 1).toNat default).getD (li - r) default ≠ (rows.getD m default).getD a default := h
        rw [hnx (by omega)] at h2 h3
        have hr1 : rakeM (valM b share k) li (valM b share (k + 1) a) r = false := by rw [hrk, ← hva, beq_eq_false_iff_ne.2 h3, Bool.and_false]
        refine XAgain.go (r + 1) ⟨by omega, fun q hq => ?_⟩ (by omega) rfl ⟨rfl, rfl, rfl, rfl, rfl, rfl, rfl, rfl, rfl, rfl, rfl, rfl, rfl, trivial⟩
        by_cases hqr : q = r
        · rw [hqr]; exact hr1
        · exact hno q (by omega)
      · rw [hnx (by omega)] at h
        have hr1 : rakeM (valM b share k) li (valM b share (k + 1) a) r = false := by rw [hrk, h]; rfl
        refine XAgain.go (r + 1) ⟨by omega, fun q hq => ?_⟩ (by omega) rfl ⟨rfl, rfl, rfl, rfl, rfl, rfl, rfl, rfl, rfl, rfl, rfl, rfl, rfl, trivial⟩
        by_cases hqr : q = r
        · rw [hqr]; exact hr1
        · exact hno q (by omega)
      · refine XAgain.go (m + 1, a, out) ⟨by dsimp only; omega, ham, ?_, by dsimp only; omega⟩ (by dsimp only; omega) rfl ⟨rfl, rfl, rfl, rfl, rfl, rfl, rfl, rfl, rfl, trivial⟩
        dsimp only
        rw [← hpl, hpn fun q hq => hno q (by omega), show b.months.length - (m + 1) = k by omega]
    · obtain rfl : m = b.months.length := by omega
      rw [Nat.sub_self] at hpl
      have : planM b share b.months.length a0 = out := by rw [← hpl]; exact List.append_nil out
      rw [this]
      exact ⟨Froz.tup (.cons (Froz.grow (i := 3) rfl (List.length_map _) (lowI _)) (.cons (Froz.low rfl) .nil))⟩
end GA
end
