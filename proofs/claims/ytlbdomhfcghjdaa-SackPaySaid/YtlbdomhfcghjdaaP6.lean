/- Part 6 of a proof: S19, S20, S21, S23, S24, S25, S26, S28, S53, S36, S37, S38, S30b, Abs32, S39, S44. -/
import Derived.Test.YtlbdomhfcghjdaaP5
import Derived.Test.YtlbdomhfcghjdaaRows
section
namespace GA
open Go Go.RowKit Go.Proofs
set_option pp.deepTerms true
set_option maxRecDepth 8000
set_option linter.unusedVariables false
set_option linter.unusedSimpArgs false

def quoA (parts out : List Int) (i : Nat) : Int × Int := (parts.getD i 0, 2 * out.getD i 0 + 1)
def pq (parts out : List Int) (st : Nat × (Int × Int)) (i : Nat) : Nat × (Int × Int) :=
  if (st.2 = (0, 1) ∧ 0 < parts.getD i 0) ∨ aboveB (quoA parts out i) st.2 = true then (i, quoA parts out i) else st
def pqI (parts out : List Int) (i : Nat) : Nat × (Int × Int) := (List.range i).foldl (pq parts out) (0, (0, 1))
def whoR (parts out : List Int) : Nat := (pqI parts out 6).1
def shareStep (parts out : List Int) : List Int := out.set (whoR parts out) (out.getD (whoR parts out) 0 + 1)
def shareI (parts : List Int) : Nat → List Int
  | 0 => List.replicate 6 0
  | n + 1 => shareStep parts (shareI parts n)
theorem pqI_succ (parts out : List Int) (i : Nat) : pqI parts out (i + 1) = pq parts out (pqI parts out i) i := by
  unfold pqI; rw [List.range_succ, List.foldl_append]; rfl
def OutOk (n : Nat) (out : List Int) : Prop := out.length = 6 ∧ ∀ i, 0 ≤ out.getD i 0 ∧ out.getD i 0 ≤ n
theorem pqI_ok {parts out : List Int} {k : Nat} (hp : PartsOk 9 parts) (ho : OutOk k out) : ∀ i, i ≤ 6 → (pqI parts out i).1 < 6 ∧ (0 ≤ (pqI parts out i).2.1 ∧ (pqI parts out i).2.1 ≤ 900) ∧ (1 ≤ (pqI parts out i).2.2 ∧ (pqI parts out i).2.2 ≤ 2 * k + 1)
  | 0, _ => by simp [pqI]; omega
  | i + 1, h => by
    have ih := pqI_ok hp ho i (by omega)
    have a := hp.2 i
    have b := ho.2 i
    rw [pqI_succ]; unfold pq
    split
    · simp only [quoA]; omega
    · exact ih
theorem shareI_ok {parts : List Int} (hp : PartsOk 9 parts) : ∀ n, OutOk n (shareI parts n)
  | 0 => ⟨rfl, fun i => by
      show 0 ≤ (List.replicate 6 (0 : Int)).getD i 0 ∧ (List.replicate 6 (0 : Int)).getD i 0 ≤ _
      rw [List.getD_eq_getElem?_getD, List.getElem?_replicate]; split <;> simp⟩
  | n + 1 => by
    have ih := shareI_ok hp n
    refine ⟨by simp [shareI, shareStep, ih.1], fun i => ?_⟩
    have a := ih.2 i
    have b := ih.2 (whoR parts (shareI parts n))
    show 0 ≤ ((shareI parts n).set (whoR parts (shareI parts n)) ((shareI parts n).getD (whoR parts (shareI parts n)) 0 + 1)).getD i 0 ∧ ((shareI parts n).set (whoR parts (shareI parts n)) ((shareI parts n).getD (whoR parts (shareI parts n)) 0 + 1)).getD i 0 ≤ _
    rw [getD_set]
    split <;> omega
def shareE (l : Ld) (pay : Int) : Int := if checkR l ≠ 0 then checkR l else if inB pay 0 500 = false then 3 else if 0 < pay ∧ greatestR (partsR l) = 0 then 6 else 0
def shareG (l : Ld) (pay : Int) : AV × List Blk := if shareE l pay = 0 then (.tup [.gr 0 6, .int .i64 0], [.grow 3 false (ints (shareI (partsR l) pay.toNat))]) else (.tup [.sl true [], .int .i64 (shareE l pay)], [])
theorem shareG_low (l : Ld) (pay : Int) : (shareG l pay).1.low (shareG l pay).2.length = true ∧ ∀ x ∈ (shareG l pay).2, x.low (shareG l pay).2.length = true := by
  unfold shareG; split
  · exact ⟨rfl, fun x hx => by simp only [List.mem_cons, List.not_mem_nil, or_false] at hx; subst hx; exact lowI _⟩
  · exact ⟨rfl, fun x hx => by simp at hx⟩
theorem XGive.err {H : List Blk} {r : AV} (hr : r.low 0 = true) : XGive H r r [] := .mk' [] rfl (by simp) trivial (AV.ren_low0 hr).symm
theorem ren_grow (f : Nat → Nat) (t : TypeId) (nl : Bool) (xs : List Int) : (Blk.grow t nl (ints xs)).ren f = .grow t nl (ints xs) := Blk.ren_low (n := 0) (fun i hi => by omega) (lowI xs)
def shareR (l : Ld) (pay : Int) : AV := if shareE l pay = 0 then .tup [.sl false (ints (shareI (partsR l) pay.toNat)), .int .i64 0] else .tup [.sl true [], .int .i64 (shareE l pay)]
theorem share_g (l : Ld) (pay : Int) (o : LdW l) : Gives Try.prog 33 [ldA l, .int .i64 pay] (shareG l pay).1 (shareG l pay).2 := by
  refine Gives.body (T := tab) (res := [.tmp 4, .tmp 5]) tab_ok [] Try.func33 rfl (by kernel_rfl) Try.ntmps33 rfl (by simp only [List.length_cons, List.length_nil]; decide) (by simp only [lowL, AV.low, ldL]; rfl) (shareG_low l pay).1 (shareG_low l pay).2 ?_; conv => whnf
  refine XCall.ret (check_c l o.w o.h1 o.h2 o.h3) ?_
  conv => whnf
  repeat' first | ((with_reducible first | apply XBr.tt | apply XBr.ff | apply Chk.go | apply ChkA.go | apply ChkF.go | apply ChkB.go | apply XArr.pim0 | apply XArr.pim1); conv => whnf) | (with_reducible apply XBr.not) | ((with_reducible apply XBr.dec) <;> (intro h; first | (exfalso; omega) | ((try simp only [List.length_map] at h); first | (exfalso; omega) | (conv => whnf)))) | ((with_reducible first | apply XBr.beq | apply XBr.bne) <;> (intro h; first | (exfalso; omega) | (conv => whnf))) | ((with_reducible refine XInt.i64 (by omega) (by omega) ?_); conv => whnf) | ((with_reducible refine XHold.mk ?_ ?_); (first | omega | rfl | decide | exact ⟨rfl, by decide, rfl⟩ | exact wideI _ | exact widePr _ | exact wideSk _ | (unfold Room; constructor <;> ((try simp) <;> omega)) | exact ⟨rfl, by simp only [List.length_map], by unfold Room; constructor <;> ((try simp) <;> omega)⟩ | exact ⟨by omega, by omega, by unfold Room; constructor <;> ((try simp) <;> omega)⟩); conv => whnf) | ((first | ((with_reducible refine XIx.nat ?_ ?_ ?_); omega; (intro _; rfl)) | ((with_reducible refine XIx.map ?_ ?_ ?_ ?_); omega; omega; (intro _; rfl))); conv => whnf) | (with_reducible apply XAnd.mk) | (exact XSame.mk rfl rfl) | (exact XSame.mk (by first | rfl | (simp only [List.map_append, List.length_append, List.length_map]; done) | (simp only [List.map_append, List.length_append, List.length_map]; rfl)) (by first | rfl | (simp only [List.map_append]; done) | (simp only [List.map_append]; rfl))) | (with_reducible exact trivial) | ((first | (with_reducible refine xdrop_app (by rw [List.length_map]; omega) ?_) | (with_reducible refine XDrop.desk (by assumption) ?_) | (with_reducible first | refine XArr.ints (by omega) (by omega) (by omega) ?_ | refine XArr.intsA (by omega) (by omega) (by omega) ?_) | ((with_reducible first | refine XArr.nats ?_ ?_ ?_ | refine XArr.natsA ?_ ?_ ?_ | refine XArr.ptr ?_ ?_ ?_); omega; omega)); conv => whnf) | (refine XCall.ret (in_c _ _ _) ?_; conv => whnf) | ((with_reducible apply XBr.mk') <;> (intro h; conv => whnf))
  · have he : shareE l pay = checkR l := by unfold shareE; rw [if_pos (by assumption)]
    unfold shareG; rw [if_neg (by rw [he]; assumption), he]; exact XGive.err rfl
  · rename_i h0
    have ok := (checkR_ok l).1 (by omega)
    have pk := parts_ok ok
    have hpart := parts_c l ok
    have hbd := h
    rw [inB_iff] at hbd
    have hres : shareG l pay = if 0 < pay ∧ greatestR (partsR l) = 0 then (.tup [.sl true [], .int .i64 6], []) else (.tup [.gr 0 6, .int .i64 0], [.grow 3 false (ints (shareI (partsR l) pay.toNat))]) := by
      have he : shareE l pay = if 0 < pay ∧ greatestR (partsR l) = 0 then 6 else 0 := by
        unfold shareE
        rw [if_neg (show ¬ checkR l ≠ 0 by omega), if_neg (by rw [h]; simp)]
      unfold shareG; rw [he]
      by_cases hc : 0 < pay ∧ greatestR (partsR l) = 0
      · rw [if_pos hc, if_pos hc]; rfl
      · rw [if_neg hc, if_neg hc]; rfl
    rw [hres]
    clear hres
    generalize partsR l = parts at pk hpart
    apply Walk.drawX tab_ok mixed_ok [] [2] (hsV _ [id, fun H => H ++ [.grow 3 false (ints (List.replicate 6 0))]]) [_, _, _, _, _] (by kernel_rfl) rfl
    · skip
      repeat' first | ((with_reducible first | apply XBr.tt | apply XBr.ff | apply Chk.go | apply ChkA.go | apply ChkF.go | apply ChkB.go | apply XArr.pim0 | apply XArr.pim1); conv => whnf) | (with_reducible apply XBr.not) | ((with_reducible apply XBr.dec) <;> (intro h; first | (exfalso; omega) | ((try simp only [List.length_map] at h); first | (exfalso; omega) | (conv => whnf)))) | ((with_reducible first | apply XBr.beq | apply XBr.bne) <;> (intro h; first | (exfalso; omega) | (conv => whnf))) | ((with_reducible refine XInt.i64 (by omega) (by omega) ?_); conv => whnf) | ((with_reducible refine XHold.mk ?_ ?_); (first | omega | rfl | decide | exact ⟨rfl, by decide, rfl⟩ | exact wideI _ | exact widePr _ | exact wideSk _ | (unfold Room; constructor <;> ((try simp) <;> omega)) | exact ⟨rfl, by simp only [List.length_map], by unfold Room; constructor <;> ((try simp) <;> omega)⟩ | exact ⟨by omega, by omega, by unfold Room; constructor <;> ((try simp) <;> omega)⟩); conv => whnf) | ((first | ((with_reducible refine XIx.nat ?_ ?_ ?_); omega; (intro _; rfl)) | ((with_reducible refine XIx.map ?_ ?_ ?_ ?_); omega; omega; (intro _; rfl))); conv => whnf) | (with_reducible apply XAnd.mk) | (exact XSame.mk rfl rfl) | (exact XSame.mk (by first | rfl | (simp only [List.map_append, List.length_append, List.length_map]; done) | (simp only [List.map_append, List.length_append, List.length_map]; rfl)) (by first | rfl | (simp only [List.map_append]; done) | (simp only [List.map_append]; rfl))) | (with_reducible exact trivial) | ((first | (with_reducible refine xdrop_app (by rw [List.length_map]; omega) ?_) | (with_reducible refine XDrop.desk (by assumption) ?_) | (with_reducible first | refine XArr.ints (by omega) (by omega) (by omega) ?_ | refine XArr.intsA (by omega) (by omega) (by omega) ?_) | ((with_reducible first | refine XArr.nats ?_ ?_ ?_ | refine XArr.natsA ?_ ?_ ?_ | refine XArr.ptr ?_ ?_ ?_); omega; omega)); conv => whnf) | (refine XCall.ret hpart ?_; conv => whnf) | ((with_reducible apply XBr.mk') <;> (intro h; conv => whnf))
    · skip
      repeat' first | ((with_reducible first | apply XBr.tt | apply XBr.ff | apply Chk.go | apply ChkA.go | apply ChkF.go | apply ChkB.go | apply XArr.pim0 | apply XArr.pim1); conv => whnf) | (with_reducible apply XBr.not) | ((with_reducible apply XBr.dec) <;> (intro h; first | (exfalso; omega) | ((try simp only [List.length_map] at h); first | (exfalso; omega) | (conv => whnf)))) | ((with_reducible first | apply XBr.beq | apply XBr.bne) <;> (intro h; first | (exfalso; omega) | (conv => whnf))) | ((with_reducible refine XInt.i64 (by omega) (by omega) ?_); conv => whnf) | ((with_reducible refine XHold.mk ?_ ?_); (first | omega | rfl | decide | exact ⟨rfl, by decide, rfl⟩ | exact wideI _ | exact widePr _ | exact wideSk _ | (unfold Room; constructor <;> ((try simp) <;> omega)) | exact ⟨rfl, by simp only [List.length_map], by unfold Room; constructor <;> ((try simp) <;> omega)⟩ | exact ⟨by omega, by omega, by unfold Room; constructor <;> ((try simp) <;> omega)⟩); conv => whnf) | ((first | ((with_reducible refine XIx.nat ?_ ?_ ?_); omega; (intro _; rfl)) | ((with_reducible refine XIx.map ?_ ?_ ?_ ?_); omega; omega; (intro _; rfl))); conv => whnf) | (with_reducible apply XAnd.mk) | (exact XSame.mk rfl rfl) | (exact XSame.mk (by first | rfl | (simp only [List.map_append, List.length_append, List.length_map]; done) | (simp only [List.map_append, List.length_append, List.length_map]; rfl)) (by first | rfl | (simp only [List.map_append]; done) | (simp only [List.map_append]; rfl))) | (with_reducible exact trivial) | ((first | (with_reducible refine xdrop_app (by rw [List.length_map]; omega) ?_) | (with_reducible refine XDrop.desk (by assumption) ?_) | (with_reducible first | refine XArr.ints (by omega) (by omega) (by omega) ?_ | refine XArr.intsA (by omega) (by omega) (by omega) ?_) | ((with_reducible first | refine XArr.nats ?_ ?_ ?_ | refine XArr.natsA ?_ ?_ ?_ | refine XArr.ptr ?_ ?_ ?_); omega; omega)); conv => whnf) | (refine XCall.ret hpart ?_; conv => whnf) | ((with_reducible apply XBr.mk') <;> (intro h; conv => whnf))
    · conv => whnf
      repeat' first | ((with_reducible first | apply XBr.tt | apply XBr.ff | apply Chk.go | apply ChkA.go | apply ChkF.go | apply ChkB.go | apply XArr.pim0 | apply XArr.pim1); conv => whnf) | (with_reducible apply XBr.not) | ((with_reducible apply XBr.dec) <;> (intro h; first | (exfalso; omega) | ((try simp only [List.length_map] at h); first | (exfalso; omega) | (conv => whnf)))) | ((with_reducible first | apply XBr.beq | apply XBr.bne) <;> (intro h; first | (exfalso; omega) | (conv => whnf))) | ((with_reducible refine XInt.i64 (by omega) (by omega) ?_); conv => whnf) | ((with_reducible refine XHold.mk ?_ ?_); (first | omega | rfl | decide | exact ⟨rfl, by decide, rfl⟩ | exact wideI _ | exact widePr _ | exact wideSk _ | (unfold Room; constructor <;> ((try simp) <;> omega)) | exact ⟨rfl, by simp only [List.length_map], by unfold Room; constructor <;> ((try simp) <;> omega)⟩ | exact ⟨by omega, by omega, by unfold Room; constructor <;> ((try simp) <;> omega)⟩); conv => whnf) | ((first | ((with_reducible refine XIx.nat ?_ ?_ ?_); omega; (intro _; rfl)) | ((with_reducible refine XIx.map ?_ ?_ ?_ ?_); omega; omega; (intro _; rfl))); conv => whnf) | (with_reducible apply XAnd.mk) | (exact XSame.mk rfl rfl) | (exact XSame.mk (by first | rfl | (simp only [List.map_append, List.length_append, List.length_map]; done) | (simp only [List.map_append, List.length_append, List.length_map]; rfl)) (by first | rfl | (simp only [List.map_append]; done) | (simp only [List.map_append]; rfl))) | (with_reducible exact trivial) | ((first | (with_reducible refine xdrop_app (by rw [List.length_map]; omega) ?_) | (with_reducible refine XDrop.desk (by assumption) ?_) | (with_reducible first | refine XArr.ints (by omega) (by omega) (by omega) ?_ | refine XArr.intsA (by omega) (by omega) (by omega) ?_) | ((with_reducible first | refine XArr.nats ?_ ?_ ?_ | refine XArr.natsA ?_ ?_ ?_ | refine XArr.ptr ?_ ?_ ?_); omega; omega)); conv => whnf) | (refine XCall.ret (greatest_c _ parts (by have := pk.1; omega)) ?_; conv => whnf) | ((with_reducible apply XBr.mk') <;> (intro h; conv => whnf))
      · rename_i hg
        rw [if_pos ⟨by assumption, h⟩]; exact XGive.err rfl
      · rw [if_neg (fun hh => h hh.2)]
        have pkl := pk.1
        obtain ⟨pn, rfl⟩ := Int.eq_ofNat_of_zero_le hbd.1
        rw [Int.toNat_natCast]
        refine Walk.loopG tab_ok [] (fun k : Nat => k ≤ pn) (fun k => [(7, .sl false (ints parts)), (8, .gr 0 6), (33, natA pn), (34, natA k)])
          (fun k => [.grow 3 false (ints (shareI parts k))]) (fun k => pn - k) 0 (by omega) rfl ⟨rfl, rfl, rfl, rfl, trivial⟩ ?_ ?_ ?_
        · intro k _
          constructor
          · intro x hx; simp at hx; subst hx; exact lowI _
          · intro p hp; simp at hp; rcases hp with rfl | rfl | rfl | rfl <;> first | exact lowI _ | rfl
        · intro k _; simp
        intro k hk
        have ok := shareI_ok pk k
        have hnx : shareI parts (k + 1) = shareStep parts (shareI parts k) := rfl
        have hfin : k = pn → shareI parts pn = shareI parts k := fun h => by rw [h]
        generalize shareI parts k = out at ok hnx hfin
        have okl := ok.1
        conv => whnf
        repeat' first | ((with_reducible first | apply XBr.tt | apply XBr.ff | apply Chk.go | apply ChkA.go | apply ChkF.go | apply ChkB.go | apply XArr.pim0 | apply XArr.pim1); conv => whnf) | (with_reducible apply XBr.not) | ((with_reducible apply XBr.dec) <;> (intro h; first | (exfalso; omega) | ((try simp only [List.length_map] at h); first | (exfalso; omega) | (conv => whnf)))) | ((with_reducible first | apply XBr.beq | apply XBr.bne) <;> (intro h; first | (exfalso; omega) | (conv => whnf))) | ((with_reducible refine XInt.i64 (by omega) (by omega) ?_); conv => whnf) | ((with_reducible refine XHold.mk ?_ ?_); (first | omega | rfl | decide | exact ⟨rfl, by decide, rfl⟩ | exact wideI _ | exact widePr _ | exact wideSk _ | (unfold Room; constructor <;> ((try simp) <;> omega)) | exact ⟨rfl, by simp only [List.length_map], by unfold Room; constructor <;> ((try simp) <;> omega)⟩ | exact ⟨by omega, by omega, by unfold Room; constructor <;> ((try simp) <;> omega)⟩); conv => whnf) | ((first | ((with_reducible refine XIx.nat ?_ ?_ ?_); omega; (intro _; rfl)) | ((with_reducible refine XIx.map ?_ ?_ ?_ ?_); omega; omega; (intro _; rfl))); conv => whnf) | (with_reducible apply XAnd.mk) | (exact XSame.mk rfl rfl) | (exact XSame.mk (by first | rfl | (simp only [List.map_append, List.length_append, List.length_map]; done) | (simp only [List.map_append, List.length_append, List.length_map]; rfl)) (by first | rfl | (simp only [List.map_append]; done) | (simp only [List.map_append]; rfl))) | (with_reducible exact trivial) | ((first | (with_reducible refine xdrop_app (by rw [List.length_map]; omega) ?_) | (with_reducible refine XDrop.desk (by assumption) ?_) | (with_reducible first | refine XArr.ints (by omega) (by omega) (by omega) ?_ | refine XArr.intsA (by omega) (by omega) (by omega) ?_) | ((with_reducible first | refine XArr.nats ?_ ?_ ?_ | refine XArr.natsA ?_ ?_ ?_ | refine XArr.ptr ?_ ?_ ?_); omega; omega)); conv => whnf) | ((with_reducible apply XBr.mk') <;> (intro h; conv => whnf))
        · skip
          refine Walk.loopG tab_ok [] (fun i : Nat => i ≤ 6) (fun i => [(7, .sl false (ints parts)), (8, .gr 0 6), (10, .ptr 1 0), (11, .ptr 2 0), (33, natA pn), (34, natA k), (38, .sl false (ints parts)), (39, .int .i64 6), (9, natA (pqI parts out i).1), (40, natA i)])
            (fun i => [.grow 3 false (ints out), .cells [.int .i64 0, .int .i64 1], .cells [.int .i64 (pqI parts out i).2.1, .int .i64 (pqI parts out i).2.2]]) (fun i => 6 - i) 0 (by omega) rfl
            ⟨rfl, rfl, rfl, rfl, rfl, rfl, rfl, congrArg (fun n : Nat => some (AV.int .i64 n)) (by rw [List.length_map, pkl]), rfl, rfl, trivial⟩ ?_ ?_ ?_
          · intro i _
            constructor
            · intro x hx; simp at hx; rcases hx with rfl | rfl | rfl <;> first | exact lowI _ | rfl
            · intro p hp; simp at hp; rcases hp with rfl | rfl | rfl | rfl | rfl | rfl | rfl | rfl | rfl | rfl <;> first | exact lowI _ | rfl
          · intro i _; simp
          intro i hi
          have sk := pqI_ok pk ok i hi
          have hpn := pqI_succ parts out i
          have hwho : i = 6 → whoR parts out = (pqI parts out i).1 := fun h => by rw [h]; rfl
          generalize pqI parts out i = st at sk hpn hwho
          obtain ⟨who, b1, b2⟩ := st
          dsimp only at sk hwho ⊢
          have hb : ([b1, b2] == [0, 1]) = true ↔ (b1, b2) = ((0 : Int), (1 : Int)) := by simp
          have pv := pk.2 i
          have ov := ok.2 i
          have pv2 : 0 ≤ parts.getD i default ∧ parts.getD i default ≤ 100 * 9 := pv
          have ov2 : 0 ≤ out.getD (i : Int).toNat default ∧ out.getD (i : Int).toNat default ≤ k := ov
          have ow2 : 0 ≤ out.getD (who : Int).toNat default ∧ out.getD (who : Int).toNat default ≤ k := ok.2 who
          have hyes : ((b1, b2) = ((0 : Int), (1 : Int)) ∧ 0 < parts.getD i default) ∨ aboveB (parts.getD i default, 2 * out.getD (i : Int).toNat default + 1) (b1, b2) = true → pqI parts out (i + 1) = (i, parts.getD i default, 2 * out.getD (i : Int).toNat default + 1) := fun h => by rw [hpn]; unfold pq; exact if_pos h
          have hno : ¬ (((b1, b2) = ((0 : Int), (1 : Int)) ∧ 0 < parts.getD i default) ∨ aboveB (parts.getD i default, 2 * out.getD (i : Int).toNat default + 1) (b1, b2) = true) → pqI parts out (i + 1) = (who, b1, b2) := fun h => by rw [hpn]; unfold pq; exact if_neg h
          conv => whnf
          repeat' first | ((with_reducible first | apply XBr.tt | apply XBr.ff | apply Chk.go | apply ChkA.go | apply ChkF.go | apply ChkB.go | apply XArr.pim0 | apply XArr.pim1); conv => whnf) | (with_reducible apply XBr.not) | ((with_reducible apply XBr.dec) <;> (intro h; first | (exfalso; omega) | ((try simp only [List.length_map] at h); first | (exfalso; omega) | (conv => whnf)))) | ((with_reducible first | apply XBr.beq | apply XBr.bne) <;> (intro h; first | (exfalso; omega) | (conv => whnf))) | ((with_reducible refine XInt.i64 (by omega) (by omega) ?_); conv => whnf) | ((with_reducible refine XHold.mk ?_ ?_); (first | omega | rfl | decide | exact ⟨rfl, by decide, rfl⟩ | exact wideI _ | exact widePr _ | exact wideSk _ | (unfold Room; constructor <;> ((try simp) <;> omega)) | exact ⟨rfl, by simp only [List.length_map], by unfold Room; constructor <;> ((try simp) <;> omega)⟩ | exact ⟨by omega, by omega, by unfold Room; constructor <;> ((try simp) <;> omega)⟩); conv => whnf) | ((first | ((with_reducible refine XIx.nat ?_ ?_ ?_); omega; (intro _; rfl)) | ((with_reducible refine XIx.map ?_ ?_ ?_ ?_); omega; omega; (intro _; rfl))); conv => whnf) | (with_reducible apply XAnd.mk) | (exact XSame.mk rfl rfl) | (exact XSame.mk (by first | rfl | (simp only [List.map_append, List.length_append, List.length_map]; done) | (simp only [List.map_append, List.length_append, List.length_map]; rfl)) (by first | rfl | (simp only [List.map_append]; done) | (simp only [List.map_append]; rfl))) | (with_reducible exact trivial) | ((first | (with_reducible refine xdrop_app (by rw [List.length_map]; omega) ?_) | (with_reducible refine XDrop.desk (by assumption) ?_) | (with_reducible first | refine XArr.ints (by omega) (by omega) (by omega) ?_ | refine XArr.intsA (by omega) (by omega) (by omega) ?_) | ((with_reducible first | refine XArr.nats ?_ ?_ ?_ | refine XArr.natsA ?_ ?_ ?_ | refine XArr.ptr ?_ ?_ ?_); omega; omega) | (refine XHold.mk ⟨by rw [List.length_map]; exact okl, rfl, by omega, by omega⟩ ?_) | (refine XGet.map (by rw [okl]) (by omega) ?_) | (refine XEqA.mk ⟨[b1, b2], [0, 1], rfl, rfl, rfl, rfl, ?_⟩) | (refine XCall.ret (above_c (parts.getD i default, 2 * out.getD (i : Int).toNat default + 1) (b1, b2) (by dsimp only; omega) (by dsimp only; omega) (by dsimp only; omega) (by dsimp only; omega)) ?_)); conv => whnf) | ((with_reducible apply XBr.mk') <;> (intro h; conv => whnf))
          · have hy := hyes (.inl ⟨hb.1 (by assumption), h⟩)
            apply Walk.drawX tab_ok mixed_ok [] [3] (hsV _ [id, fun H => H.set 2 (.cells [.int .i64 (parts.getD i default), .int .i64 (2 * out.getD (i : Int).toNat default + 1)])]) [_, _, _, _] (by kernel_rfl) rfl
            · skip
              repeat' first | ((with_reducible first | apply XBr.tt | apply XBr.ff | apply Chk.go | apply ChkA.go | apply ChkF.go | apply ChkB.go | apply XArr.pim0 | apply XArr.pim1); conv => whnf) | (with_reducible apply XBr.not) | ((with_reducible apply XBr.dec) <;> (intro h; first | (exfalso; omega) | ((try simp only [List.length_map] at h); first | (exfalso; omega) | (conv => whnf)))) | ((with_reducible first | apply XBr.beq | apply XBr.bne) <;> (intro h; first | (exfalso; omega) | (conv => whnf))) | ((with_reducible refine XInt.i64 (by omega) (by omega) ?_); conv => whnf) | ((with_reducible refine XHold.mk ?_ ?_); (first | omega | rfl | decide | exact ⟨rfl, by decide, rfl⟩ | exact wideI _ | exact widePr _ | exact wideSk _ | (unfold Room; constructor <;> ((try simp) <;> omega)) | exact ⟨rfl, by simp only [List.length_map], by unfold Room; constructor <;> ((try simp) <;> omega)⟩ | exact ⟨by omega, by omega, by unfold Room; constructor <;> ((try simp) <;> omega)⟩); conv => whnf) | ((first | ((with_reducible refine XIx.nat ?_ ?_ ?_); omega; (intro _; rfl)) | ((with_reducible refine XIx.map ?_ ?_ ?_ ?_); omega; omega; (intro _; rfl))); conv => whnf) | (with_reducible apply XAnd.mk) | (exact XSame.mk rfl rfl) | (exact XSame.mk (by first | rfl | (simp only [List.map_append, List.length_append, List.length_map]; done) | (simp only [List.map_append, List.length_append, List.length_map]; rfl)) (by first | rfl | (simp only [List.map_append]; done) | (simp only [List.map_append]; rfl))) | (with_reducible exact trivial) | ((first | (with_reducible refine xdrop_app (by rw [List.length_map]; omega) ?_) | (with_reducible refine XDrop.desk (by assumption) ?_) | (with_reducible first | refine XArr.ints (by omega) (by omega) (by omega) ?_ | refine XArr.intsA (by omega) (by omega) (by omega) ?_) | ((with_reducible first | refine XArr.nats ?_ ?_ ?_ | refine XArr.natsA ?_ ?_ ?_ | refine XArr.ptr ?_ ?_ ?_); omega; omega)); conv => whnf) | ((with_reducible apply XBr.mk') <;> (intro h; conv => whnf))
            · skip
              repeat' first | ((with_reducible first | apply XBr.tt | apply XBr.ff | apply Chk.go | apply ChkA.go | apply ChkF.go | apply ChkB.go | apply XArr.pim0 | apply XArr.pim1); conv => whnf) | (with_reducible apply XBr.not) | ((with_reducible apply XBr.dec) <;> (intro h; first | (exfalso; omega) | ((try simp only [List.length_map] at h); first | (exfalso; omega) | (conv => whnf)))) | ((with_reducible first | apply XBr.beq | apply XBr.bne) <;> (intro h; first | (exfalso; omega) | (conv => whnf))) | ((with_reducible refine XInt.i64 (by omega) (by omega) ?_); conv => whnf) | ((with_reducible refine XHold.mk ?_ ?_); (first | omega | rfl | decide | exact ⟨rfl, by decide, rfl⟩ | exact wideI _ | exact widePr _ | exact wideSk _ | (unfold Room; constructor <;> ((try simp) <;> omega)) | exact ⟨rfl, by simp only [List.length_map], by unfold Room; constructor <;> ((try simp) <;> omega)⟩ | exact ⟨by omega, by omega, by unfold Room; constructor <;> ((try simp) <;> omega)⟩); conv => whnf) | ((first | ((with_reducible refine XIx.nat ?_ ?_ ?_); omega; (intro _; rfl)) | ((with_reducible refine XIx.map ?_ ?_ ?_ ?_); omega; omega; (intro _; rfl))); conv => whnf) | (with_reducible apply XAnd.mk) | (exact XSame.mk rfl rfl) | (exact XSame.mk (by first | rfl | (simp only [List.map_append, List.length_append, List.length_map]; done) | (simp only [List.map_append, List.length_append, List.length_map]; rfl)) (by first | rfl | (simp only [List.map_append]; done) | (simp only [List.map_append]; rfl))) | (with_reducible exact trivial) | ((first | (with_reducible refine xdrop_app (by rw [List.length_map]; omega) ?_) | (with_reducible refine XDrop.desk (by assumption) ?_) | (with_reducible first | refine XArr.ints (by omega) (by omega) (by omega) ?_ | refine XArr.intsA (by omega) (by omega) (by omega) ?_) | ((with_reducible first | refine XArr.nats ?_ ?_ ?_ | refine XArr.natsA ?_ ?_ ?_ | refine XArr.ptr ?_ ?_ ?_); omega; omega)); conv => whnf) | ((with_reducible apply XBr.mk') <;> (intro h; conv => whnf))
            · conv => whnf
              repeat' first | ((with_reducible first | apply XBr.tt | apply XBr.ff | apply Chk.go | apply ChkA.go | apply ChkF.go | apply ChkB.go | apply XArr.pim0 | apply XArr.pim1); conv => whnf) | (with_reducible apply XBr.not) | ((with_reducible apply XBr.dec) <;> (intro h; first | (exfalso; omega) | ((try simp only [List.length_map] at h); first | (exfalso; omega) | (conv => whnf)))) | ((with_reducible first | apply XBr.beq | apply XBr.bne) <;> (intro h; first | (exfalso; omega) | (conv => whnf))) | ((with_reducible refine XInt.i64 (by omega) (by omega) ?_); conv => whnf) | ((with_reducible refine XHold.mk ?_ ?_); (first | omega | rfl | decide | exact ⟨rfl, by decide, rfl⟩ | exact wideI _ | exact widePr _ | exact wideSk _ | (unfold Room; constructor <;> ((try simp) <;> omega)) | exact ⟨rfl, by simp only [List.length_map], by unfold Room; constructor <;> ((try simp) <;> omega)⟩ | exact ⟨by omega, by omega, by unfold Room; constructor <;> ((try simp) <;> omega)⟩); conv => whnf) | ((first | ((with_reducible refine XIx.nat ?_ ?_ ?_); omega; (intro _; rfl)) | ((with_reducible refine XIx.map ?_ ?_ ?_ ?_); omega; omega; (intro _; rfl))); conv => whnf) | (with_reducible apply XAnd.mk) | (exact XSame.mk rfl rfl) | (exact XSame.mk (by first | rfl | (simp only [List.map_append, List.length_append, List.length_map]; done) | (simp only [List.map_append, List.length_append, List.length_map]; rfl)) (by first | rfl | (simp only [List.map_append]; done) | (simp only [List.map_append]; rfl))) | (with_reducible exact trivial) | ((first | (with_reducible refine xdrop_app (by rw [List.length_map]; omega) ?_) | (with_reducible refine XDrop.desk (by assumption) ?_) | (with_reducible first | refine XArr.ints (by omega) (by omega) (by omega) ?_ | refine XArr.intsA (by omega) (by omega) (by omega) ?_) | ((with_reducible first | refine XArr.nats ?_ ?_ ?_ | refine XArr.natsA ?_ ?_ ?_ | refine XArr.ptr ?_ ?_ ?_); omega; omega)); conv => whnf) | ((with_reducible apply XBr.mk') <;> (intro h; conv => whnf))
              refine XAgainG.go (i + 1) [.cells [.int .i64 (parts.getD i default), .int .i64 (2 * out.getD (i : Int).toNat default + 1)]] (by omega) (by omega) ?_ ?_
              · rw [hy]; rfl
              · rw [hy]; exact ⟨rfl, rfl, rfl, rfl, rfl, rfl, rfl, rfl, rfl, rfl, trivial⟩
          · have hy := hyes (.inr h)
            apply Walk.drawX tab_ok mixed_ok [] [3] (hsV _ [id, fun H => H.set 2 (.cells [.int .i64 (parts.getD i default), .int .i64 (2 * out.getD (i : Int).toNat default + 1)])]) [_, _, _, _] (by kernel_rfl) rfl
            · skip
              repeat' first | ((with_reducible first | apply XBr.tt | apply XBr.ff | apply Chk.go | apply ChkA.go | apply ChkF.go | apply ChkB.go | apply XArr.pim0 | apply XArr.pim1); conv => whnf) | (with_reducible apply XBr.not) | ((with_reducible apply XBr.dec) <;> (intro h; first | (exfalso; omega) | ((try simp only [List.length_map] at h); first | (exfalso; omega) | (conv => whnf)))) | ((with_reducible first | apply XBr.beq | apply XBr.bne) <;> (intro h; first | (exfalso; omega) | (conv => whnf))) | ((with_reducible refine XInt.i64 (by omega) (by omega) ?_); conv => whnf) | ((with_reducible refine XHold.mk ?_ ?_); (first | omega | rfl | decide | exact ⟨rfl, by decide, rfl⟩ | exact wideI _ | exact widePr _ | exact wideSk _ | (unfold Room; constructor <;> ((try simp) <;> omega)) | exact ⟨rfl, by simp only [List.length_map], by unfold Room; constructor <;> ((try simp) <;> omega)⟩ | exact ⟨by omega, by omega, by unfold Room; constructor <;> ((try simp) <;> omega)⟩); conv => whnf) | ((first | ((with_reducible refine XIx.nat ?_ ?_ ?_); omega; (intro _; rfl)) | ((with_reducible refine XIx.map ?_ ?_ ?_ ?_); omega; omega; (intro _; rfl))); conv => whnf) | (with_reducible apply XAnd.mk) | (exact XSame.mk rfl rfl) | (exact XSame.mk (by first | rfl | (simp only [List.map_append, List.length_append, List.length_map]; done) | (simp only [List.map_append, List.length_append, List.length_map]; rfl)) (by first | rfl | (simp only [List.map_append]; done) | (simp only [List.map_append]; rfl))) | (with_reducible exact trivial) | ((first | (with_reducible refine xdrop_app (by rw [List.length_map]; omega) ?_) | (with_reducible refine XDrop.desk (by assumption) ?_) | (with_reducible first | refine XArr.ints (by omega) (by omega) (by omega) ?_ | refine XArr.intsA (by omega) (by omega) (by omega) ?_) | ((with_reducible first | refine XArr.nats ?_ ?_ ?_ | refine XArr.natsA ?_ ?_ ?_ | refine XArr.ptr ?_ ?_ ?_); omega; omega)); conv => whnf) | ((with_reducible apply XBr.mk') <;> (intro h; conv => whnf))
            · skip
              repeat' first | ((with_reducible first | apply XBr.tt | apply XBr.ff | apply Chk.go | apply ChkA.go | apply ChkF.go | apply ChkB.go | apply XArr.pim0 | apply XArr.pim1); conv => whnf) | (with_reducible apply XBr.not) | ((with_reducible apply XBr.dec) <;> (intro h; first | (exfalso; omega) | ((try simp only [List.length_map] at h); first | (exfalso; omega) | (conv => whnf)))) | ((with_reducible first | apply XBr.beq | apply XBr.bne) <;> (intro h; first | (exfalso; omega) | (conv => whnf))) | ((with_reducible refine XInt.i64 (by omega) (by omega) ?_); conv => whnf) | ((with_reducible refine XHold.mk ?_ ?_); (first | omega | rfl | decide | exact ⟨rfl, by decide, rfl⟩ | exact wideI _ | exact widePr _ | exact wideSk _ | (unfold Room; constructor <;> ((try simp) <;> omega)) | exact ⟨rfl, by simp only [List.length_map], by unfold Room; constructor <;> ((try simp) <;> omega)⟩ | exact ⟨by omega, by omega, by unfold Room; constructor <;> ((try simp) <;> omega)⟩); conv => whnf) | ((first | ((with_reducible refine XIx.nat ?_ ?_ ?_); omega; (intro _; rfl)) | ((with_reducible refine XIx.map ?_ ?_ ?_ ?_); omega; omega; (intro _; rfl))); conv => whnf) | (with_reducible apply XAnd.mk) | (exact XSame.mk rfl rfl) | (exact XSame.mk (by first | rfl | (simp only [List.map_append, List.length_append, List.length_map]; done) | (simp only [List.map_append, List.length_append, List.length_map]; rfl)) (by first | rfl | (simp only [List.map_append]; done) | (simp only [List.map_append]; rfl))) | (with_reducible exact trivial) | ((first | (with_reducible refine xdrop_app (by rw [List.length_map]; omega) ?_) | (with_reducible refine XDrop.desk (by assumption) ?_) | (with_reducible first | refine XArr.ints (by omega) (by omega) (by omega) ?_ | refine XArr.intsA (by omega) (by omega) (by omega) ?_) | ((with_reducible first | refine XArr.nats ?_ ?_ ?_ | refine XArr.natsA ?_ ?_ ?_ | refine XArr.ptr ?_ ?_ ?_); omega; omega)); conv => whnf) | ((with_reducible apply XBr.mk') <;> (intro h; conv => whnf))
            · conv => whnf
              repeat' first | ((with_reducible first | apply XBr.tt | apply XBr.ff | apply Chk.go | apply ChkA.go | apply ChkF.go | apply ChkB.go | apply XArr.pim0 | apply XArr.pim1); conv => whnf) | (with_reducible apply XBr.not) | ((with_reducible apply XBr.dec) <;> (intro h; first | (exfalso; omega) | ((try simp only [List.length_map] at h); first | (exfalso; omega) | (conv => whnf)))) | ((with_reducible first | apply XBr.beq | apply XBr.bne) <;> (intro h; first | (exfalso; omega) | (conv => whnf))) | ((with_reducible refine XInt.i64 (by omega) (by omega) ?_); conv => whnf) | ((with_reducible refine XHold.mk ?_ ?_); (first | omega | rfl | decide | exact ⟨rfl, by decide, rfl⟩ | exact wideI _ | exact widePr _ | exact wideSk _ | (unfold Room; constructor <;> ((try simp) <;> omega)) | exact ⟨rfl, by simp only [List.length_map], by unfold Room; constructor <;> ((try simp) <;> omega)⟩ | exact ⟨by omega, by omega, by unfold Room; constructor <;> ((try simp) <;> omega)⟩); conv => whnf) | ((first | ((with_reducible refine XIx.nat ?_ ?_ ?_); omega; (intro _; rfl)) | ((with_reducible refine XIx.map ?_ ?_ ?_ ?_); omega; omega; (intro _; rfl))); conv => whnf) | (with_reducible apply XAnd.mk) | (exact XSame.mk rfl rfl) | (exact XSame.mk (by first | rfl | (simp only [List.map_append, List.length_append, List.length_map]; done) | (simp only [List.map_append, List.length_append, List.length_map]; rfl)) (by first | rfl | (simp only [List.map_append]; done) | (simp only [List.map_append]; rfl))) | (with_reducible exact trivial) | ((first | (with_reducible refine xdrop_app (by rw [List.length_map]; omega) ?_) | (with_reducible refine XDrop.desk (by assumption) ?_) | (with_reducible first | refine XArr.ints (by omega) (by omega) (by omega) ?_ | refine XArr.intsA (by omega) (by omega) (by omega) ?_) | ((with_reducible first | refine XArr.nats ?_ ?_ ?_ | refine XArr.natsA ?_ ?_ ?_ | refine XArr.ptr ?_ ?_ ?_); omega; omega)); conv => whnf) | ((with_reducible apply XBr.mk') <;> (intro h; conv => whnf))
              refine XAgainG.go (i + 1) [.cells [.int .i64 (parts.getD i default), .int .i64 (2 * out.getD (i : Int).toNat default + 1)]] (by omega) (by omega) ?_ ?_
              · rw [hy]; rfl
              · rw [hy]; exact ⟨rfl, rfl, rfl, rfl, rfl, rfl, rfl, rfl, rfl, rfl, trivial⟩
          · have hn := hno (fun hh => by
              rcases hh with ⟨_, e⟩ | e
              · exact (by assumption : ¬ 0 < parts.getD i default) e
              · rw [h] at e; cases e)
            refine XAgainG.go (i + 1) [.cells [.int .i64 (parts.getD i default), .int .i64 (2 * out.getD (i : Int).toNat default + 1)]] (by omega) (by omega) ?_ ?_
            · rw [hn]; rfl
            · rw [hn]; exact ⟨rfl, rfl, rfl, rfl, rfl, rfl, rfl, rfl, rfl, rfl, trivial⟩
          · have hy := hyes (.inr h)
            apply Walk.drawX tab_ok mixed_ok [] [3] (hsV _ [id, fun H => H.set 2 (.cells [.int .i64 (parts.getD i default), .int .i64 (2 * out.getD (i : Int).toNat default + 1)])]) [_, _, _, _] (by kernel_rfl) rfl
            · skip
              repeat' first | ((with_reducible first | apply XBr.tt | apply XBr.ff | apply Chk.go | apply ChkA.go | apply ChkF.go | apply ChkB.go | apply XArr.pim0 | apply XArr.pim1); conv => whnf) | (with_reducible apply XBr.not) | ((with_reducible apply XBr.dec) <;> (intro h; first | (exfalso; omega) | ((try simp only [List.length_map] at h); first | (exfalso; omega) | (conv => whnf)))) | ((with_reducible first | apply XBr.beq | apply XBr.bne) <;> (intro h; first | (exfalso; omega) | (conv => whnf))) | ((with_reducible refine XInt.i64 (by omega) (by omega) ?_); conv => whnf) | ((with_reducible refine XHold.mk ?_ ?_); (first | omega | rfl | decide | exact ⟨rfl, by decide, rfl⟩ | exact wideI _ | exact widePr _ | exact wideSk _ | (unfold Room; constructor <;> ((try simp) <;> omega)) | exact ⟨rfl, by simp only [List.length_map], by unfold Room; constructor <;> ((try simp) <;> omega)⟩ | exact ⟨by omega, by omega, by unfold Room; constructor <;> ((try simp) <;> omega)⟩); conv => whnf) | ((first | ((with_reducible refine XIx.nat ?_ ?_ ?_); omega; (intro _; rfl)) | ((with_reducible refine XIx.map ?_ ?_ ?_ ?_); omega; omega; (intro _; rfl))); conv => whnf) | (with_reducible apply XAnd.mk) | (exact XSame.mk rfl rfl) | (exact XSame.mk (by first | rfl | (simp only [List.map_append, List.length_append, List.length_map]; done) | (simp only [List.map_append, List.length_append, List.length_map]; rfl)) (by first | rfl | (simp only [List.map_append]; done) | (simp only [List.map_append]; rfl))) | (with_reducible exact trivial) | ((first | (with_reducible refine xdrop_app (by rw [List.length_map]; omega) ?_) | (with_reducible refine XDrop.desk (by assumption) ?_) | (with_reducible first | refine XArr.ints (by omega) (by omega) (by omega) ?_ | refine XArr.intsA (by omega) (by omega) (by omega) ?_) | ((with_reducible first | refine XArr.nats ?_ ?_ ?_ | refine XArr.natsA ?_ ?_ ?_ | refine XArr.ptr ?_ ?_ ?_); omega; omega)); conv => whnf) | ((with_reducible apply XBr.mk') <;> (intro h; conv => whnf))
            · skip
              repeat' first | ((with_reducible first | apply XBr.tt | apply XBr.ff | apply Chk.go | apply ChkA.go | apply ChkF.go | apply ChkB.go | apply XArr.pim0 | apply XArr.pim1); conv => whnf) | (with_reducible apply XBr.not) | ((with_reducible apply XBr.dec) <;> (intro h; first | (exfalso; omega) | ((try simp only [List.length_map] at h); first | (exfalso; omega) | (conv => whnf)))) | ((with_reducible first | apply XBr.beq | apply XBr.bne) <;> (intro h; first | (exfalso; omega) | (conv => whnf))) | ((with_reducible refine XInt.i64 (by omega) (by omega) ?_); conv => whnf) | ((with_reducible refine XHold.mk ?_ ?_); (first | omega | rfl | decide | exact ⟨rfl, by decide, rfl⟩ | exact wideI _ | exact widePr _ | exact wideSk _ | (unfold Room; constructor <;> ((try simp) <;> omega)) | exact ⟨rfl, by simp only [List.length_map], by unfold Room; constructor <;> ((try simp) <;> omega)⟩ | exact ⟨by omega, by omega, by unfold Room; constructor <;> ((try simp) <;> omega)⟩); conv => whnf) | ((first | ((with_reducible refine XIx.nat ?_ ?_ ?_); omega; (intro _; rfl)) | ((with_reducible refine XIx.map ?_ ?_ ?_ ?_); omega; omega; (intro _; rfl))); conv => whnf) | (with_reducible apply XAnd.mk) | (exact XSame.mk rfl rfl) | (exact XSame.mk (by first | rfl | (simp only [List.map_append, List.length_append, List.length_map]; done) | (simp only [List.map_append, List.length_append, List.length_map]; rfl)) (by first | rfl | (simp only [List.map_append]; done) | (simp only [List.map_append]; rfl))) | (with_reducible exact trivial) | ((first | (with_reducible refine xdrop_app (by rw [List.length_map]; omega) ?_) | (with_reducible refine XDrop.desk (by assumption) ?_) | (with_reducible first | refine XArr.ints (by omega) (by omega) (by omega) ?_ | refine XArr.intsA (by omega) (by omega) (by omega) ?_) | ((with_reducible first | refine XArr.nats ?_ ?_ ?_ | refine XArr.natsA ?_ ?_ ?_ | refine XArr.ptr ?_ ?_ ?_); omega; omega)); conv => whnf) | ((with_reducible apply XBr.mk') <;> (intro h; conv => whnf))
            · conv => whnf
              repeat' first | ((with_reducible first | apply XBr.tt | apply XBr.ff | apply Chk.go | apply ChkA.go | apply ChkF.go | apply ChkB.go | apply XArr.pim0 | apply XArr.pim1); conv => whnf) | (with_reducible apply XBr.not) | ((with_reducible apply XBr.dec) <;> (intro h; first | (exfalso; omega) | ((try simp only [List.length_map] at h); first | (exfalso; omega) | (conv => whnf)))) | ((with_reducible first | apply XBr.beq | apply XBr.bne) <;> (intro h; first | (exfalso; omega) | (conv => whnf))) | ((with_reducible refine XInt.i64 (by omega) (by omega) ?_); conv => whnf) | ((with_reducible refine XHold.mk ?_ ?_); (first | omega | rfl | decide | exact ⟨rfl, by decide, rfl⟩ | exact wideI _ | exact widePr _ | exact wideSk _ | (unfold Room; constructor <;> ((try simp) <;> omega)) | exact ⟨rfl, by simp only [List.length_map], by unfold Room; constructor <;> ((try simp) <;> omega)⟩ | exact ⟨by omega, by omega, by unfold Room; constructor <;> ((try simp) <;> omega)⟩); conv => whnf) | ((first | ((with_reducible refine XIx.nat ?_ ?_ ?_); omega; (intro _; rfl)) | ((with_reducible refine XIx.map ?_ ?_ ?_ ?_); omega; omega; (intro _; rfl))); conv => whnf) | (with_reducible apply XAnd.mk) | (exact XSame.mk rfl rfl) | (exact XSame.mk (by first | rfl | (simp only [List.map_append, List.length_append, List.length_map]; done) | (simp only [List.map_append, List.length_append, List.length_map]; rfl)) (by first | rfl | (simp only [List.map_append]; done) | (simp only [List.map_append]; rfl))) | (with_reducible exact trivial) | ((first | (with_reducible refine xdrop_app (by rw [List.length_map]; omega) ?_) | (with_reducible refine XDrop.desk (by assumption) ?_) | (with_reducible first | refine XArr.ints (by omega) (by omega) (by omega) ?_ | refine XArr.intsA (by omega) (by omega) (by omega) ?_) | ((with_reducible first | refine XArr.nats ?_ ?_ ?_ | refine XArr.natsA ?_ ?_ ?_ | refine XArr.ptr ?_ ?_ ?_); omega; omega)); conv => whnf) | ((with_reducible apply XBr.mk') <;> (intro h; conv => whnf))
              refine XAgainG.go (i + 1) [.cells [.int .i64 (parts.getD i default), .int .i64 (2 * out.getD (i : Int).toNat default + 1)]] (by omega) (by omega) ?_ ?_
              · rw [hy]; rfl
              · rw [hy]; exact ⟨rfl, rfl, rfl, rfl, rfl, rfl, rfl, rfl, rfl, rfl, trivial⟩
          · have hn := hno (fun hh => by
              rcases hh with ⟨e, _⟩ | e
              · have := hb.2 e; simp_all
              · rw [h] at e; cases e)
            refine XAgainG.go (i + 1) [.cells [.int .i64 (parts.getD i default), .int .i64 (2 * out.getD (i : Int).toNat default + 1)]] (by omega) (by omega) ?_ ?_
            · rw [hn]; rfl
            · rw [hn]; exact ⟨rfl, rfl, rfl, rfl, rfl, rfl, rfl, rfl, rfl, rfl, trivial⟩
          · have hie : i = 6 := by omega
            refine XPut.map (out.getD (who : Int).toNat default + 1) rfl (by rw [okl]) (by omega) ?_
            conv => whnf
            repeat' first | ((with_reducible first | apply XBr.tt | apply XBr.ff | apply Chk.go | apply ChkA.go | apply ChkF.go | apply ChkB.go | apply XArr.pim0 | apply XArr.pim1); conv => whnf) | (with_reducible apply XBr.not) | ((with_reducible apply XBr.dec) <;> (intro h; first | (exfalso; omega) | ((try simp only [List.length_map] at h); first | (exfalso; omega) | (conv => whnf)))) | ((with_reducible first | apply XBr.beq | apply XBr.bne) <;> (intro h; first | (exfalso; omega) | (conv => whnf))) | ((with_reducible refine XInt.i64 (by omega) (by omega) ?_); conv => whnf) | ((with_reducible refine XHold.mk ?_ ?_); (first | omega | rfl | decide | exact ⟨rfl, by decide, rfl⟩ | exact wideI _ | exact widePr _ | exact wideSk _ | (unfold Room; constructor <;> ((try simp) <;> omega)) | exact ⟨rfl, by simp only [List.length_map], by unfold Room; constructor <;> ((try simp) <;> omega)⟩ | exact ⟨by omega, by omega, by unfold Room; constructor <;> ((try simp) <;> omega)⟩); conv => whnf) | ((first | ((with_reducible refine XIx.nat ?_ ?_ ?_); omega; (intro _; rfl)) | ((with_reducible refine XIx.map ?_ ?_ ?_ ?_); omega; omega; (intro _; rfl))); conv => whnf) | (with_reducible apply XAnd.mk) | (exact XSame.mk rfl rfl) | (exact XSame.mk (by first | rfl | (simp only [List.map_append, List.length_append, List.length_map]; done) | (simp only [List.map_append, List.length_append, List.length_map]; rfl)) (by first | rfl | (simp only [List.map_append]; done) | (simp only [List.map_append]; rfl))) | (with_reducible exact trivial) | ((first | (with_reducible refine xdrop_app (by rw [List.length_map]; omega) ?_) | (with_reducible refine XDrop.desk (by assumption) ?_) | (with_reducible first | refine XArr.ints (by omega) (by omega) (by omega) ?_ | refine XArr.intsA (by omega) (by omega) (by omega) ?_) | ((with_reducible first | refine XArr.nats ?_ ?_ ?_ | refine XArr.natsA ?_ ?_ ?_ | refine XArr.ptr ?_ ?_ ?_); omega; omega)); conv => whnf) | ((with_reducible apply XBr.mk') <;> (intro h; conv => whnf))
            refine XAgainG.go (k + 1) [.cells [.int .i64 0, .int .i64 1], .cells [.int .i64 b1, .int .i64 b2]] (by omega) (by omega) ?_ ⟨rfl, rfl, rfl, rfl, trivial⟩
            rw [hnx]; unfold shareStep; rw [hwho hie]; rfl
        · skip
          rw [hfin (by omega)]
          exact XGive.mk' [0] rfl (by decide) ⟨congrArg some (ren_grow _ _ _ _).symm, trivial⟩ rfl
      · rw [if_neg (fun hh => h hh.1)]
        have pkl := pk.1
        obtain ⟨pn, rfl⟩ := Int.eq_ofNat_of_zero_le hbd.1
        rw [Int.toNat_natCast]
        refine Walk.loopG tab_ok [] (fun k : Nat => k ≤ pn) (fun k => [(7, .sl false (ints parts)), (8, .gr 0 6), (33, natA pn), (34, natA k)])
          (fun k => [.grow 3 false (ints (shareI parts k))]) (fun k => pn - k) 0 (by omega) rfl ⟨rfl, rfl, rfl, rfl, trivial⟩ ?_ ?_ ?_
        · intro k _
          constructor
          · intro x hx; simp at hx; subst hx; exact lowI _
          · intro p hp; simp at hp; rcases hp with rfl | rfl | rfl | rfl <;> first | exact lowI _ | rfl
        · intro k _; simp
        intro k hk
        have ok := shareI_ok pk k
        have hnx : shareI parts (k + 1) = shareStep parts (shareI parts k) := rfl
        have hfin : k = pn → shareI parts pn = shareI parts k := fun h => by rw [h]
        generalize shareI parts k = out at ok hnx hfin
        have okl := ok.1
        conv => whnf
        repeat' first | ((with_reducible first | apply XBr.tt | apply XBr.ff | apply Chk.go | apply ChkA.go | apply ChkF.go | apply ChkB.go | apply XArr.pim0 | apply XArr.pim1); conv => whnf) | (with_reducible apply XBr.not) | ((with_reducible apply XBr.dec) <;> (intro h; first | (exfalso; omega) | ((try simp only [List.length_map] at h); first | (exfalso; omega) | (conv => whnf)))) | ((with_reducible first | apply XBr.beq | apply XBr.bne) <;> (intro h; first | (exfalso; omega) | (conv => whnf))) | ((with_reducible refine XInt.i64 (by omega) (by omega) ?_); conv => whnf) | ((with_reducible refine XHold.mk ?_ ?_); (first | omega | rfl | decide | exact ⟨rfl, by decide, rfl⟩ | exact wideI _ | exact widePr _ | exact wideSk _ | (unfold Room; constructor <;> ((try simp) <;> omega)) | exact ⟨rfl, by simp only [List.length_map], by unfold Room; constructor <;> ((try simp) <;> omega)⟩ | exact ⟨by omega, by omega, by unfold Room; constructor <;> ((try simp) <;> omega)⟩); conv => whnf) | ((first | ((with_reducible refine XIx.nat ?_ ?_ ?_); omega; (intro _; rfl)) | ((with_reducible refine XIx.map ?_ ?_ ?_ ?_); omega; omega; (intro _; rfl))); conv => whnf) | (with_reducible apply XAnd.mk) | (exact XSame.mk rfl rfl) | (exact XSame.mk (by first | rfl | (simp only [List.map_append, List.length_append, List.length_map]; done) | (simp only [List.map_append, List.length_append, List.length_map]; rfl)) (by first | rfl | (simp only [List.map_append]; done) | (simp only [List.map_append]; rfl))) | (with_reducible exact trivial) | ((first | (with_reducible refine xdrop_app (by rw [List.length_map]; omega) ?_) | (with_reducible refine XDrop.desk (by assumption) ?_) | (with_reducible first | refine XArr.ints (by omega) (by omega) (by omega) ?_ | refine XArr.intsA (by omega) (by omega) (by omega) ?_) | ((with_reducible first | refine XArr.nats ?_ ?_ ?_ | refine XArr.natsA ?_ ?_ ?_ | refine XArr.ptr ?_ ?_ ?_); omega; omega)); conv => whnf) | ((with_reducible apply XBr.mk') <;> (intro h; conv => whnf))
        rw [hfin (by omega)]
        exact XGive.mk' [0] rfl (by decide) ⟨congrArg some (ren_grow _ _ _ _).symm, trivial⟩ rfl
  · have he : shareE l pay = 3 := by unfold shareE; rw [if_neg (by omega), if_pos h]
    unfold shareG; rw [if_neg (by omega), he]; exact XGive.err rfl
theorem share_c (l : Ld) (pay : Int) (o : LdW l) : Comp Try.prog 33 [ldA l, .int .i64 pay] (shareR l pay) := by
  have x := share_g l pay o
  unfold shareG at x; unfold shareR
  split at x
  · rename_i h
    have pk := (shareI_ok (parts_ok ((checkR_ok l).1 (by unfold shareE at h; split at h <;> omega))) pay.toNat).1
    rw [if_pos h]
    exact x.comp (Froz.tup (.cons (Froz.grow rfl (by rw [List.length_map]; exact pk) (lowI _)) (.cons (Froz.low rfl) .nil)))
  · rename_i h
    rw [if_neg h]
    exact x.comp (Froz.low rfl)
end GA
end

section
namespace GA
open Go Go.RowKit Go.Proofs
set_option pp.deepTerms true
set_option maxRecDepth 8000
set_option linter.unusedVariables false
set_option linter.unusedSimpArgs false

def five : Ld := ⟨50, 10, false, [⟨30, 0⟩, ⟨20, 1⟩, ⟨25, 0⟩, ⟨20, 2⟩, ⟨10, 1⟩], true, [], true, []⟩
def fiveP : Ld := { five with nla := false, apart := [(0, 2)], nlw := false, wth := [(1, 3)] }
def fivePr : Pr := ⟨50, false, [27, 18, 23, 18, 9]⟩
theorem five_ok : checkR five = 0 ∧ checkR fiveP = 0 := by decide +kernel
theorem five_many : manyD (openD five) = 2 := by decide +kernel
theorem five_out : (loadI (openD five) 2 2).out = [0, 0, 1, 1, 1] := by decide +kernel
theorem fiveP_many : manyD (openD fiveP) = 3 := by decide +kernel
theorem fiveP_out : (loadI (openD fiveP) 3 3).out = [0, 1, 2, 1, 0] := by decide +kernel
theorem five_pr : priceE five fivePr = 0 ∧ fairB (openD five) fivePr = true ∧ (fivePr.ps.sum + fivePr.unit - 1) / fivePr.unit = 2 := by decide +kernel
theorem five_share : shareE five 10 = 0 ∧ shareI (partsR five) 10 = [5, 3, 2, 0, 0, 0] := by decide +kernel
theorem five_riddle : riddledR [12, 20, 19, 25] 20 = 0 ∧ keptL [12, 20, 19, 25] 20 = [20, 25] := by decide +kernel
theorem five_w : LdW five := ⟨fun _ => rfl, by decide, by decide, by decide⟩
theorem fiveP_w : LdW fiveP := ⟨(fun h => by cases h), by decide, by decide, by decide⟩
theorem five_c : Comp Try.prog 82 [] (ldA five) := by
  refine Comp.body' (T := tab) (res := [.cell 0 26]) tab_ok [] Try.func82 rfl (by kernel_rfl) Try.ntmps82 rfl (by simp only [List.length_cons, List.length_nil]; decide) (by rfl) ?_; conv => whnf
  repeat' first | ((with_reducible first | apply XBr.tt | apply XBr.ff | apply Chk.go | apply ChkA.go | apply ChkF.go | apply ChkB.go | apply XArr.pim0 | apply XArr.pim1); conv => whnf) | (with_reducible apply XBr.not) | ((with_reducible apply XBr.dec) <;> (intro h; first | (exfalso; omega) | ((try simp only [List.length_map] at h); first | (exfalso; omega) | (conv => whnf)))) | ((with_reducible first | apply XBr.beq | apply XBr.bne) <;> (intro h; first | (exfalso; omega) | (conv => whnf))) | ((with_reducible refine XInt.i64 (by omega) (by omega) ?_); conv => whnf) | ((with_reducible refine XHold.mk ?_ ?_); (first | omega | rfl | decide | exact ⟨rfl, by decide, rfl⟩ | exact wideI _ | exact widePr _ | exact wideSk _ | (unfold Room; constructor <;> ((try simp) <;> omega)) | exact ⟨rfl, by simp only [List.length_map], by unfold Room; constructor <;> ((try simp) <;> omega)⟩ | exact ⟨by omega, by omega, by unfold Room; constructor <;> ((try simp) <;> omega)⟩); conv => whnf) | ((first | ((with_reducible refine XIx.nat ?_ ?_ ?_); omega; (intro _; rfl)) | ((with_reducible refine XIx.map ?_ ?_ ?_ ?_); omega; omega; (intro _; rfl))); conv => whnf) | (with_reducible apply XAnd.mk) | (exact XSame.mk rfl rfl) | (exact XSame.mk (by first | rfl | (simp only [List.map_append, List.length_append, List.length_map]; done) | (simp only [List.map_append, List.length_append, List.length_map]; rfl)) (by first | rfl | (simp only [List.map_append]; done) | (simp only [List.map_append]; rfl))) | (with_reducible exact trivial) | ((first | (with_reducible refine xdrop_app (by rw [List.length_map]; omega) ?_) | (with_reducible refine XDrop.desk (by assumption) ?_) | (with_reducible first | refine XArr.ints (by omega) (by omega) (by omega) ?_ | refine XArr.intsA (by omega) (by omega) (by omega) ?_) | ((with_reducible first | refine XArr.nats ?_ ?_ ?_ | refine XArr.natsA ?_ ?_ ?_ | refine XArr.ptr ?_ ?_ ?_); omega; omega)); conv => whnf) | ((with_reducible apply XBr.mk') <;> (intro h; conv => whnf))
  exact ⟨Froz.low rfl⟩
theorem five_fewest : fewestR five = .tup [.sl false (ints [0, 0, 1, 1, 1]), .int .i64 2, .int .i64 0] := by
  unfold fewestR; rw [if_pos five_ok.1]; unfold fewestD; rw [five_many, if_neg (by decide), five_out]; rfl
theorem fiveP_fewest : fewestR fiveP = .tup [.sl false (ints [0, 1, 2, 1, 0]), .int .i64 3, .int .i64 0] := by
  unfold fewestR; rw [if_pos five_ok.2]; unfold fewestD; rw [fiveP_many, if_neg (by decide), fiveP_out]; rfl
theorem five_proves : provesR five fivePr = .tup [.int .i64 2, .int .i64 0] := by
  unfold provesR; rw [if_pos five_ok.1, if_pos five_pr.1, if_pos five_pr.2.1, five_pr.2.2]
theorem five_shareR : shareR five 10 = .tup [.sl false (ints [5, 3, 2, 0, 0, 0]), .int .i64 0] := by
  unfold shareR; rw [if_pos five_share.1, show (10 : Int).toNat = 10 from rfl, five_share.2]
theorem five_riddleR : riddleR [12, 20, 19, 25] 20 = .tup [.sl false (ints [20, 25]), slA (thruL [12, 20, 19, 25] 20), .int .i64 0] := by
  unfold riddleR; rw [if_pos five_riddle.1]; unfold riddleA; rw [five_riddle.2]; rfl
theorem cFive : Comp Try.prog 18 [ldA five] (.tup [.sl false (ints [0, 0, 1, 1, 1]), .int .i64 2, .int .i64 0]) := five_fewest ▸ fewest_c five five_w.w five_w.h1 five_w.h2 five_w.h3
theorem cFiveP : Comp Try.prog 18 [ldA fiveP] (.tup [.sl false (ints [0, 1, 2, 1, 0]), .int .i64 3, .int .i64 0]) := fiveP_fewest ▸ fewest_c fiveP fiveP_w.w fiveP_w.h1 fiveP_w.h2 fiveP_w.h3
theorem cRid : Comp Try.prog 27 [.sl false (ints [12, 20, 19, 25]), .int .i64 20] (.tup [.sl false (ints [20, 25]), slA (thruL [12, 20, 19, 25] 20), .int .i64 0]) := five_riddleR ▸ riddle_c false [12, 20, 19, 25] 20 (by decide)
theorem cShare : Comp Try.prog 33 [ldA five, .int .i64 10] (.tup [.sl false (ints [5, 3, 2, 0, 0, 0]), .int .i64 0]) := five_shareR ▸ share_c five 10 five_w
theorem cProves : Comp Try.prog 25 [ldA five, pcA fivePr] (.tup [.int .i64 2, .int .i64 0]) := five_proves ▸ proves_c five fivePr five_w (by decide)
theorem cEq (xs : List Int) (h : xs.length ≤ 100000) : Comp Try.prog 30 [.sl false (ints xs), .sl false (ints xs)] (.bool true) := by
  have := eq_int false false xs xs h
  rwa [show (xs == xs) = true from beq_self_eq_true xs] at this
theorem cEq1 : Comp Try.prog 30 [.sl false (ints [0, 0, 1, 1, 1]), .sl false [.int .i64 0, .int .i64 0, .int .i64 1, .int .i64 1, .int .i64 1]] (.bool true) := cEq [0, 0, 1, 1, 1] (by decide)
theorem cEq2 : Comp Try.prog 30 [.sl false (ints [20, 25]), .sl false [.int .i64 20, .int .i64 25]] (.bool true) := cEq [20, 25] (by decide)
theorem cEq3 : Comp Try.prog 30 [.sl false (ints [5, 3, 2, 0, 0, 0]), .sl false [.int .i64 5, .int .i64 3, .int .i64 2, .int .i64 0, .int .i64 0, .int .i64 0]] (.bool true) := cEq [5, 3, 2, 0, 0, 0] (by decide)
theorem cEq4 : Comp Try.prog 30 [.sl false (ints [0, 1, 2, 1, 0]), .sl false [.int .i64 0, .int .i64 1, .int .i64 2, .int .i64 1, .int .i64 0]] (.bool true) := cEq [0, 1, 2, 1, 0] (by decide)
theorem awake_c : Comp Try.prog 19 [] (.bool true) := by
  refine Comp.body' (T := tab) (res := [.tmp 0]) tab_ok [] Try.func19 rfl (by kernel_rfl) Try.ntmps19 rfl (by simp only [List.length_cons, List.length_nil]; decide) (by rfl) ?_; conv => whnf
  refine XCall.ret five_c ?_
  conv => whnf
  refine XCall.ret cFive ?_
  conv => whnf
  repeat' first | ((with_reducible first | apply XBr.tt | apply XBr.ff | apply Chk.go | apply ChkA.go | apply ChkF.go | apply ChkB.go | apply XArr.pim0 | apply XArr.pim1); conv => whnf) | (with_reducible apply XBr.not) | ((with_reducible apply XBr.dec) <;> (intro h; first | (exfalso; omega) | ((try simp only [List.length_map] at h); first | (exfalso; omega) | (conv => whnf)))) | ((with_reducible first | apply XBr.beq | apply XBr.bne) <;> (intro h; first | (exfalso; omega) | (conv => whnf))) | ((with_reducible refine XInt.i64 (by omega) (by omega) ?_); conv => whnf) | ((with_reducible refine XHold.mk ?_ ?_); (first | omega | rfl | decide | exact ⟨rfl, by decide, rfl⟩ | exact wideI _ | exact widePr _ | exact wideSk _ | (unfold Room; constructor <;> ((try simp) <;> omega)) | exact ⟨rfl, by simp only [List.length_map], by unfold Room; constructor <;> ((try simp) <;> omega)⟩ | exact ⟨by omega, by omega, by unfold Room; constructor <;> ((try simp) <;> omega)⟩); conv => whnf) | ((first | ((with_reducible refine XIx.nat ?_ ?_ ?_); omega; (intro _; rfl)) | ((with_reducible refine XIx.map ?_ ?_ ?_ ?_); omega; omega; (intro _; rfl))); conv => whnf) | (with_reducible apply XAnd.mk) | (exact XSame.mk rfl rfl) | (exact XSame.mk (by first | rfl | (simp only [List.map_append, List.length_append, List.length_map]; done) | (simp only [List.map_append, List.length_append, List.length_map]; rfl)) (by first | rfl | (simp only [List.map_append]; done) | (simp only [List.map_append]; rfl))) | (with_reducible exact trivial) | ((first | (with_reducible refine xdrop_app (by rw [List.length_map]; omega) ?_) | (with_reducible refine XDrop.desk (by assumption) ?_) | (with_reducible first | refine XArr.ints (by omega) (by omega) (by omega) ?_ | refine XArr.intsA (by omega) (by omega) (by omega) ?_) | ((with_reducible first | refine XArr.nats ?_ ?_ ?_ | refine XArr.natsA ?_ ?_ ?_ | refine XArr.ptr ?_ ?_ ?_); omega; omega)); conv => whnf) | ((with_reducible apply XBr.mk') <;> (intro h; conv => whnf))
  refine XCall.ret cRid ?_
  conv => whnf
  refine XCall.ret five_c ?_
  conv => whnf
  refine XCall.ret cShare ?_
  conv => whnf
  refine XCall.ret five_c ?_
  conv => whnf
  repeat' first | ((with_reducible first | apply XBr.tt | apply XBr.ff | apply Chk.go | apply ChkA.go | apply ChkF.go | apply ChkB.go | apply XArr.pim0 | apply XArr.pim1); conv => whnf) | (with_reducible apply XBr.not) | ((with_reducible apply XBr.dec) <;> (intro h; first | (exfalso; omega) | ((try simp only [List.length_map] at h); first | (exfalso; omega) | (conv => whnf)))) | ((with_reducible first | apply XBr.beq | apply XBr.bne) <;> (intro h; first | (exfalso; omega) | (conv => whnf))) | ((with_reducible refine XInt.i64 (by omega) (by omega) ?_); conv => whnf) | ((with_reducible refine XHold.mk ?_ ?_); (first | omega | rfl | decide | exact ⟨rfl, by decide, rfl⟩ | exact wideI _ | exact widePr _ | exact wideSk _ | (unfold Room; constructor <;> ((try simp) <;> omega)) | exact ⟨rfl, by simp only [List.length_map], by unfold Room; constructor <;> ((try simp) <;> omega)⟩ | exact ⟨by omega, by omega, by unfold Room; constructor <;> ((try simp) <;> omega)⟩); conv => whnf) | ((first | ((with_reducible refine XIx.nat ?_ ?_ ?_); omega; (intro _; rfl)) | ((with_reducible refine XIx.map ?_ ?_ ?_ ?_); omega; omega; (intro _; rfl))); conv => whnf) | (with_reducible apply XAnd.mk) | (exact XSame.mk rfl rfl) | (exact XSame.mk (by first | rfl | (simp only [List.map_append, List.length_append, List.length_map]; done) | (simp only [List.map_append, List.length_append, List.length_map]; rfl)) (by first | rfl | (simp only [List.map_append]; done) | (simp only [List.map_append]; rfl))) | (with_reducible exact trivial) | ((first | (with_reducible refine xdrop_app (by rw [List.length_map]; omega) ?_) | (with_reducible refine XDrop.desk (by assumption) ?_) | (with_reducible first | refine XArr.ints (by omega) (by omega) (by omega) ?_ | refine XArr.intsA (by omega) (by omega) (by omega) ?_) | ((with_reducible first | refine XArr.nats ?_ ?_ ?_ | refine XArr.natsA ?_ ?_ ?_ | refine XArr.ptr ?_ ?_ ?_); omega; omega)); conv => whnf) | ((with_reducible apply XBr.mk') <;> (intro h; conv => whnf))
  refine XCall.ret cFiveP ?_
  conv => whnf
  refine XCall.ret five_c ?_
  conv => whnf
  repeat' first | ((with_reducible first | apply XBr.tt | apply XBr.ff | apply Chk.go | apply ChkA.go | apply ChkF.go | apply ChkB.go | apply XArr.pim0 | apply XArr.pim1); conv => whnf) | (with_reducible apply XBr.not) | ((with_reducible apply XBr.dec) <;> (intro h; first | (exfalso; omega) | ((try simp only [List.length_map] at h); first | (exfalso; omega) | (conv => whnf)))) | ((with_reducible first | apply XBr.beq | apply XBr.bne) <;> (intro h; first | (exfalso; omega) | (conv => whnf))) | ((with_reducible refine XInt.i64 (by omega) (by omega) ?_); conv => whnf) | ((with_reducible refine XHold.mk ?_ ?_); (first | omega | rfl | decide | exact ⟨rfl, by decide, rfl⟩ | exact wideI _ | exact widePr _ | exact wideSk _ | (unfold Room; constructor <;> ((try simp) <;> omega)) | exact ⟨rfl, by simp only [List.length_map], by unfold Room; constructor <;> ((try simp) <;> omega)⟩ | exact ⟨by omega, by omega, by unfold Room; constructor <;> ((try simp) <;> omega)⟩); conv => whnf) | ((first | ((with_reducible refine XIx.nat ?_ ?_ ?_); omega; (intro _; rfl)) | ((with_reducible refine XIx.map ?_ ?_ ?_ ?_); omega; omega; (intro _; rfl))); conv => whnf) | (with_reducible apply XAnd.mk) | (exact XSame.mk rfl rfl) | (exact XSame.mk (by first | rfl | (simp only [List.map_append, List.length_append, List.length_map]; done) | (simp only [List.map_append, List.length_append, List.length_map]; rfl)) (by first | rfl | (simp only [List.map_append]; done) | (simp only [List.map_append]; rfl))) | (with_reducible exact trivial) | ((first | (with_reducible refine xdrop_app (by rw [List.length_map]; omega) ?_) | (with_reducible refine XDrop.desk (by assumption) ?_) | (with_reducible first | refine XArr.ints (by omega) (by omega) (by omega) ?_ | refine XArr.intsA (by omega) (by omega) (by omega) ?_) | ((with_reducible first | refine XArr.nats ?_ ?_ ?_ | refine XArr.natsA ?_ ?_ ?_ | refine XArr.ptr ?_ ?_ ?_); omega; omega)); conv => whnf) | ((with_reducible apply XBr.mk') <;> (intro h; conv => whnf))
  refine XCall.ret cProves ?_
  conv => whnf
  refine Walk.norm tab_ok [] [(3, .int .i64 0), (6, .int .i64 0), (8, .int .i64 0), (12, .int .i64 0), (14, .int .i64 0), (1, .sl false (ints [0, 0, 1, 1, 1])), (2, .int .i64 2), (4, .sl false (ints [20, 25])), (7, .sl false (ints [5, 3, 2, 0, 0, 0])), (10, .sl false (ints [0, 1, 2, 1, 0])), (11, .int .i64 3), (13, .int .i64 2)] ⟨rfl, rfl, rfl, rfl, rfl, rfl, rfl, rfl, rfl, rfl, rfl, rfl, trivial⟩ ?_
  conv => whnf
  repeat' first | ((with_reducible first | apply XBr.tt | apply XBr.ff | apply Chk.go | apply ChkA.go | apply ChkF.go | apply ChkB.go | apply XArr.pim0 | apply XArr.pim1); conv => whnf) | (with_reducible apply XBr.not) | ((with_reducible apply XBr.dec) <;> (intro h; first | (exfalso; omega) | ((try simp only [List.length_map] at h); first | (exfalso; omega) | (conv => whnf)))) | ((with_reducible first | apply XBr.beq | apply XBr.bne) <;> (intro h; first | (exfalso; omega) | (conv => whnf))) | ((with_reducible refine XInt.i64 (by omega) (by omega) ?_); conv => whnf) | ((with_reducible refine XHold.mk ?_ ?_); (first | omega | rfl | decide | exact ⟨rfl, by decide, rfl⟩ | exact wideI _ | exact widePr _ | exact wideSk _ | (unfold Room; constructor <;> ((try simp) <;> omega)) | exact ⟨rfl, by simp only [List.length_map], by unfold Room; constructor <;> ((try simp) <;> omega)⟩ | exact ⟨by omega, by omega, by unfold Room; constructor <;> ((try simp) <;> omega)⟩); conv => whnf) | ((first | ((with_reducible refine XIx.nat ?_ ?_ ?_); omega; (intro _; rfl)) | ((with_reducible refine XIx.map ?_ ?_ ?_ ?_); omega; omega; (intro _; rfl))); conv => whnf) | (with_reducible apply XAnd.mk) | (exact XSame.mk rfl rfl) | (exact XSame.mk (by first | rfl | (simp only [List.map_append, List.length_append, List.length_map]; done) | (simp only [List.map_append, List.length_append, List.length_map]; rfl)) (by first | rfl | (simp only [List.map_append]; done) | (simp only [List.map_append]; rfl))) | (with_reducible exact trivial) | ((first | (with_reducible refine xdrop_app (by rw [List.length_map]; omega) ?_) | (with_reducible refine XDrop.desk (by assumption) ?_) | (with_reducible first | refine XArr.ints (by omega) (by omega) (by omega) ?_ | refine XArr.intsA (by omega) (by omega) (by omega) ?_) | ((with_reducible first | refine XArr.nats ?_ ?_ ?_ | refine XArr.natsA ?_ ?_ ?_ | refine XArr.ptr ?_ ?_ ?_); omega; omega)); conv => whnf) | ((with_reducible apply XBr.mk') <;> (intro h; conv => whnf))
  refine XCall.ret cEq1 ?_
  conv => whnf
  repeat' first | ((with_reducible first | apply XBr.tt | apply XBr.ff | apply Chk.go | apply ChkA.go | apply ChkF.go | apply ChkB.go | apply XArr.pim0 | apply XArr.pim1); conv => whnf) | (with_reducible apply XBr.not) | ((with_reducible apply XBr.dec) <;> (intro h; first | (exfalso; omega) | ((try simp only [List.length_map] at h); first | (exfalso; omega) | (conv => whnf)))) | ((with_reducible first | apply XBr.beq | apply XBr.bne) <;> (intro h; first | (exfalso; omega) | (conv => whnf))) | ((with_reducible refine XInt.i64 (by omega) (by omega) ?_); conv => whnf) | ((with_reducible refine XHold.mk ?_ ?_); (first | omega | rfl | decide | exact ⟨rfl, by decide, rfl⟩ | exact wideI _ | exact widePr _ | exact wideSk _ | (unfold Room; constructor <;> ((try simp) <;> omega)) | exact ⟨rfl, by simp only [List.length_map], by unfold Room; constructor <;> ((try simp) <;> omega)⟩ | exact ⟨by omega, by omega, by unfold Room; constructor <;> ((try simp) <;> omega)⟩); conv => whnf) | ((first | ((with_reducible refine XIx.nat ?_ ?_ ?_); omega; (intro _; rfl)) | ((with_reducible refine XIx.map ?_ ?_ ?_ ?_); omega; omega; (intro _; rfl))); conv => whnf) | (with_reducible apply XAnd.mk) | (exact XSame.mk rfl rfl) | (exact XSame.mk (by first | rfl | (simp only [List.map_append, List.length_append, List.length_map]; done) | (simp only [List.map_append, List.length_append, List.length_map]; rfl)) (by first | rfl | (simp only [List.map_append]; done) | (simp only [List.map_append]; rfl))) | (with_reducible exact trivial) | ((first | (with_reducible refine xdrop_app (by rw [List.length_map]; omega) ?_) | (with_reducible refine XDrop.desk (by assumption) ?_) | (with_reducible first | refine XArr.ints (by omega) (by omega) (by omega) ?_ | refine XArr.intsA (by omega) (by omega) (by omega) ?_) | ((with_reducible first | refine XArr.nats ?_ ?_ ?_ | refine XArr.natsA ?_ ?_ ?_ | refine XArr.ptr ?_ ?_ ?_); omega; omega)); conv => whnf) | ((with_reducible apply XBr.mk') <;> (intro h; conv => whnf))
  refine XCall.ret cEq2 ?_
  conv => whnf
  repeat' first | ((with_reducible first | apply XBr.tt | apply XBr.ff | apply Chk.go | apply ChkA.go | apply ChkF.go | apply ChkB.go | apply XArr.pim0 | apply XArr.pim1); conv => whnf) | (with_reducible apply XBr.not) | ((with_reducible apply XBr.dec) <;> (intro h; first | (exfalso; omega) | ((try simp only [List.length_map] at h); first | (exfalso; omega) | (conv => whnf)))) | ((with_reducible first | apply XBr.beq | apply XBr.bne) <;> (intro h; first | (exfalso; omega) | (conv => whnf))) | ((with_reducible refine XInt.i64 (by omega) (by omega) ?_); conv => whnf) | ((with_reducible refine XHold.mk ?_ ?_); (first | omega | rfl | decide | exact ⟨rfl, by decide, rfl⟩ | exact wideI _ | exact widePr _ | exact wideSk _ | (unfold Room; constructor <;> ((try simp) <;> omega)) | exact ⟨rfl, by simp only [List.length_map], by unfold Room; constructor <;> ((try simp) <;> omega)⟩ | exact ⟨by omega, by omega, by unfold Room; constructor <;> ((try simp) <;> omega)⟩); conv => whnf) | ((first | ((with_reducible refine XIx.nat ?_ ?_ ?_); omega; (intro _; rfl)) | ((with_reducible refine XIx.map ?_ ?_ ?_ ?_); omega; omega; (intro _; rfl))); conv => whnf) | (with_reducible apply XAnd.mk) | (exact XSame.mk rfl rfl) | (exact XSame.mk (by first | rfl | (simp only [List.map_append, List.length_append, List.length_map]; done) | (simp only [List.map_append, List.length_append, List.length_map]; rfl)) (by first | rfl | (simp only [List.map_append]; done) | (simp only [List.map_append]; rfl))) | (with_reducible exact trivial) | ((first | (with_reducible refine xdrop_app (by rw [List.length_map]; omega) ?_) | (with_reducible refine XDrop.desk (by assumption) ?_) | (with_reducible first | refine XArr.ints (by omega) (by omega) (by omega) ?_ | refine XArr.intsA (by omega) (by omega) (by omega) ?_) | ((with_reducible first | refine XArr.nats ?_ ?_ ?_ | refine XArr.natsA ?_ ?_ ?_ | refine XArr.ptr ?_ ?_ ?_); omega; omega)); conv => whnf) | ((with_reducible apply XBr.mk') <;> (intro h; conv => whnf))
  refine XCall.ret cEq3 ?_
  conv => whnf
  repeat' first | ((with_reducible first | apply XBr.tt | apply XBr.ff | apply Chk.go | apply ChkA.go | apply ChkF.go | apply ChkB.go | apply XArr.pim0 | apply XArr.pim1); conv => whnf) | (with_reducible apply XBr.not) | ((with_reducible apply XBr.dec) <;> (intro h; first | (exfalso; omega) | ((try simp only [List.length_map] at h); first | (exfalso; omega) | (conv => whnf)))) | ((with_reducible first | apply XBr.beq | apply XBr.bne) <;> (intro h; first | (exfalso; omega) | (conv => whnf))) | ((with_reducible refine XInt.i64 (by omega) (by omega) ?_); conv => whnf) | ((with_reducible refine XHold.mk ?_ ?_); (first | omega | rfl | decide | exact ⟨rfl, by decide, rfl⟩ | exact wideI _ | exact widePr _ | exact wideSk _ | (unfold Room; constructor <;> ((try simp) <;> omega)) | exact ⟨rfl, by simp only [List.length_map], by unfold Room; constructor <;> ((try simp) <;> omega)⟩ | exact ⟨by omega, by omega, by unfold Room; constructor <;> ((try simp) <;> omega)⟩); conv => whnf) | ((first | ((with_reducible refine XIx.nat ?_ ?_ ?_); omega; (intro _; rfl)) | ((with_reducible refine XIx.map ?_ ?_ ?_ ?_); omega; omega; (intro _; rfl))); conv => whnf) | (with_reducible apply XAnd.mk) | (exact XSame.mk rfl rfl) | (exact XSame.mk (by first | rfl | (simp only [List.map_append, List.length_append, List.length_map]; done) | (simp only [List.map_append, List.length_append, List.length_map]; rfl)) (by first | rfl | (simp only [List.map_append]; done) | (simp only [List.map_append]; rfl))) | (with_reducible exact trivial) | ((first | (with_reducible refine xdrop_app (by rw [List.length_map]; omega) ?_) | (with_reducible refine XDrop.desk (by assumption) ?_) | (with_reducible first | refine XArr.ints (by omega) (by omega) (by omega) ?_ | refine XArr.intsA (by omega) (by omega) (by omega) ?_) | ((with_reducible first | refine XArr.nats ?_ ?_ ?_ | refine XArr.natsA ?_ ?_ ?_ | refine XArr.ptr ?_ ?_ ?_); omega; omega)); conv => whnf) | ((with_reducible apply XBr.mk') <;> (intro h; conv => whnf))
  refine XCall.ret cEq4 ?_
  conv => whnf
  repeat' first | ((with_reducible first | apply XBr.tt | apply XBr.ff | apply Chk.go | apply ChkA.go | apply ChkF.go | apply ChkB.go | apply XArr.pim0 | apply XArr.pim1); conv => whnf) | (with_reducible apply XBr.not) | ((with_reducible apply XBr.dec) <;> (intro h; first | (exfalso; omega) | ((try simp only [List.length_map] at h); first | (exfalso; omega) | (conv => whnf)))) | ((with_reducible first | apply XBr.beq | apply XBr.bne) <;> (intro h; first | (exfalso; omega) | (conv => whnf))) | ((with_reducible refine XInt.i64 (by omega) (by omega) ?_); conv => whnf) | ((with_reducible refine XHold.mk ?_ ?_); (first | omega | rfl | decide | exact ⟨rfl, by decide, rfl⟩ | exact wideI _ | exact widePr _ | exact wideSk _ | (unfold Room; constructor <;> ((try simp) <;> omega)) | exact ⟨rfl, by simp only [List.length_map], by unfold Room; constructor <;> ((try simp) <;> omega)⟩ | exact ⟨by omega, by omega, by unfold Room; constructor <;> ((try simp) <;> omega)⟩); conv => whnf) | ((first | ((with_reducible refine XIx.nat ?_ ?_ ?_); omega; (intro _; rfl)) | ((with_reducible refine XIx.map ?_ ?_ ?_ ?_); omega; omega; (intro _; rfl))); conv => whnf) | (with_reducible apply XAnd.mk) | (exact XSame.mk rfl rfl) | (exact XSame.mk (by first | rfl | (simp only [List.map_append, List.length_append, List.length_map]; done) | (simp only [List.map_append, List.length_append, List.length_map]; rfl)) (by first | rfl | (simp only [List.map_append]; done) | (simp only [List.map_append]; rfl))) | (with_reducible exact trivial) | ((first | (with_reducible refine xdrop_app (by rw [List.length_map]; omega) ?_) | (with_reducible refine XDrop.desk (by assumption) ?_) | (with_reducible first | refine XArr.ints (by omega) (by omega) (by omega) ?_ | refine XArr.intsA (by omega) (by omega) (by omega) ?_) | ((with_reducible first | refine XArr.nats ?_ ?_ ?_ | refine XArr.natsA ?_ ?_ ?_ | refine XArr.ptr ?_ ?_ ?_); omega; omega)); conv => whnf) | ((with_reducible apply XBr.mk') <;> (intro h; conv => whnf))
  exact ⟨Froz.low rfl⟩
end GA
end

section
namespace GA
open Go Go.RowKit Go.Proofs
set_option pp.deepTerms true
set_option maxRecDepth 8000
set_option linter.unusedVariables false
set_option linter.unusedSimpArgs false

theorem off_in (n lo hi : Int) : offB n lo hi = !inB n lo hi := by
  unfold offB inB; rw [Bool.eq_iff_iff]; simp <;> omega
end GA
end

section
namespace GA
open Go Go.RowKit Go.Proofs
set_option pp.deepTerms true
set_option maxRecDepth 8000
set_option linter.unusedVariables false

abbrev bytes (xs : List Int) : List AV := xs.map (.int .u8)
theorem lowBy {n : Nat} (xs : List Int) : lowL n (bytes xs) = true := lowL_map (fun _ => rfl) xs
structure Hp where
  nl : Bool
  bs : List Int
  nx : Nat
  rd : Int
  deriving Inhabited
def hpC (h : Hp) : Blk := .cells [.sl h.nl (bytes h.bs), .int .i64 h.nx, .int .u32 h.rd]
structure Hp.Ok (h : Hp) : Prop where
  l : h.bs.length < 9223372036854775808
  n : h.nx < h.bs.length ∨ h.nx = 0
theorem hpC_low {n : Nat} (h : Hp) : (hpC h).low n = true := by simp only [hpC, Blk.low, lowL, AV.low, lowBy]; rfl
theorem hpC_ren (f : Nat → Nat) (h : Hp) : (hpC h).ren f = hpC h := Blk.ren_low (n := 0) (fun i hi => by omega) (hpC_low h)

theorem XInt.w {q : IntKind} {x : Int} {k : AV → Prop} (h : k (.int q (q.wrap x))) : XInt q x k := ⟨h⟩

def HpOk (f : FuncId) (qs : List AV) (h : Hp) (r : AV) (h' : Hp) : Prop :=
  lowL 0 qs = true ∧ ACall Try.prog f (.ptr 0 0 :: qs) [hpC h] fun r' H' => r' = r ∧ H' = [hpC h']
theorem XCall.hp {f : FuncId} {qs : List AV} {h h' : Hp} {r : AV} (x : HpOk f qs h r h') (hr : r.low 0 = true) {H : List Blk} {k : AV → List Blk → Prop} {j : Nat} (h0 : lget H j = some (hpC h))
    (hk : k r (H.set j (hpC h'))) : XCall Try.prog f (.ptr j 0 :: qs) H k := by
  constructor
  have e := ACall.frame (ρ := fun i => j + i) (H := H) (k := k) x.2 (fun a b _ _ h => by have : j + a = j + b := h; omega) ?_ (fun y hy => by simp at hy; subst hy; exact hpC_low h) ?_ ?_
  · have hd : renL (fun i => j + i) qs = qs := renL_low0 x.1
    rw [List.map_cons, ← renL_eq, hd] at e
    exact e
  · intro i x1 hi
    rw [lget_eq] at h0
    rcases i with _ | i
    · simp only [List.getElem?_cons_zero, Option.some.injEq] at hi; subst hi
      rw [hpC_ren]; exact h0
    · simp at hi
  · simp only [lowL, AV.low, lowL_mono (Nat.zero_le _) x.1]; rfl
  · rintro r1 H1' ⟨rfl, rfl⟩
    rw [lget_eq] at h0
    have hj := (List.getElem?_eq_some_iff.1 h0).1
    refine ⟨rfl, H.set j (hpC h'), by simp, fun i x1 hi => ?_, fun q hq => ?_, ?_⟩
    · rcases i with _ | i
      · simp only [List.getElem?_cons_zero, Option.some.injEq] at hi; subst hi
        rw [hpC_ren]; simp [hj]
      · simp at hi
    · exact List.getElem?_set_ne (by have := hq 0 (by simp); simpa using this)
    · rw [AV.ren_low (n := 0) (fun i hi => by omega) hr]; exact hk

end GA
end

section
namespace GA
open Go Go.RowKit Go.Proofs
set_option pp.deepTerms true
set_option maxRecDepth 8000
set_option linter.unusedVariables false
set_option linter.unusedSimpArgs false

def sharedE (l : Ld) (xs : List Int) : Int := if checkR l ≠ 0 then checkR l else if xs.length ≠ 6 then 2 else if (xs.all fun n => inB n 0 500) = false then 3 else 0
theorem shared1_c (x : Int) : Comp Try.prog 137 [.int .i64 x] (.bool (inB x 0 500)) := by
  refine Comp.body (T := tab) (res := [.tmp 2]) tab_ok [] Try.func137 rfl (by kernel_rfl) Try.ntmps137 rfl (by simp only [List.length_cons, List.length_nil]; decide) (by rfl) ?_; conv => whnf
  refine XCall.ret (in_c _ _ _) ?_
  conv => whnf
  exact XOut.bool rfl
theorem shared_c (l : Ld) (nl : Bool) (xs : List Int) (o : LdW l) (hx : xs.length ≤ 100000) : Comp Try.prog 96 [ldA l, .sl nl (ints xs)] (.int .i64 (sharedE l xs)) := by
  refine Comp.body (T := tab) (res := [.tmp 4]) tab_ok [] Try.func96 rfl (by kernel_rfl) Try.ntmps96 rfl (by simp only [List.length_cons, List.length_nil]; decide) (by simp only [lowL, AV.low, ldL, lowI]; rfl) ?_; conv => whnf
  refine XCall.ret (check_c l o.w o.h1 o.h2 o.h3) ?_
  conv => whnf
  repeat' first | ((with_reducible first | apply XBr.tt | apply XBr.ff | apply Chk.go | apply ChkA.go | apply ChkF.go | apply ChkB.go | apply XArr.pim0 | apply XArr.pim1); conv => whnf) | (with_reducible apply XBr.not) | ((with_reducible apply XBr.dec) <;> (intro h; first | (exfalso; omega) | ((try simp only [List.length_map] at h); first | (exfalso; omega) | (conv => whnf)))) | ((with_reducible first | apply XBr.beq | apply XBr.bne) <;> (intro h; first | (exfalso; omega) | (conv => whnf))) | ((with_reducible refine XInt.i64 (by omega) (by omega) ?_); conv => whnf) | ((with_reducible refine XHold.mk ?_ ?_); (first | omega | rfl | decide | exact ⟨rfl, by decide, rfl⟩ | exact wideI _ | exact widePr _ | exact wideSk _ | (unfold Room; constructor <;> ((try simp) <;> omega)) | exact ⟨rfl, by simp only [List.length_map], by unfold Room; constructor <;> ((try simp) <;> omega)⟩ | exact ⟨by omega, by omega, by unfold Room; constructor <;> ((try simp) <;> omega)⟩); conv => whnf) | ((first | ((with_reducible refine XIx.nat ?_ ?_ ?_); omega; (intro _; rfl)) | ((with_reducible refine XIx.map ?_ ?_ ?_ ?_); omega; omega; (intro _; rfl))); conv => whnf) | (with_reducible apply XAnd.mk) | (exact XSame.mk rfl rfl) | (exact XSame.mk (by first | rfl | (simp only [List.map_append, List.length_append, List.length_map]; done) | (simp only [List.map_append, List.length_append, List.length_map]; rfl)) (by first | rfl | (simp only [List.map_append]; done) | (simp only [List.map_append]; rfl))) | (with_reducible exact trivial) | ((first | (with_reducible refine xdrop_app (by rw [List.length_map]; omega) ?_) | (with_reducible refine XDrop.desk (by assumption) ?_) | (with_reducible first | refine XArr.ints (by omega) (by omega) (by omega) ?_ | refine XArr.intsA (by omega) (by omega) (by omega) ?_) | ((with_reducible first | refine XArr.nats ?_ ?_ ?_ | refine XArr.natsA ?_ ?_ ?_ | refine XArr.ptr ?_ ?_ ?_); omega; omega)); conv => whnf) | (refine XCall.ret (every_int nl xs 137 [] (fun n => inB n 0 500) rfl hx fun x _ => shared1_c x) ?_; conv => whnf) | ((with_reducible apply XBr.mk') <;> (intro h; conv => whnf))
  · refine XOut.int ?_
    unfold sharedE; rw [if_pos (by assumption)]
  · refine XOut.int ?_
    simp only [List.length_map] at *
    unfold sharedE; rw [if_neg (by omega), if_pos (by omega)]
  · refine XOut.int ?_
    simp only [List.length_map] at *
    unfold sharedE; rw [if_neg (by omega), if_neg (by omega), if_neg (by simp [*])]
  · refine XOut.int ?_
    simp only [List.length_map] at *
    unfold sharedE; rw [if_neg (by omega), if_neg (by omega), if_pos (by simp [*])]

def owedK (s a : List Int) : Nat → List Int
  | 0 => s
  | k + 1 => (owedK s a k).set k ((owedK s a k).getD k 0 - a.getD k 0)
theorem owedK_len (s a : List Int) : ∀ k, (owedK s a k).length = s.length
  | 0 => rfl
  | k + 1 => by rw [owedK, List.length_set, owedK_len s a k]
theorem owedK_get (s a : List Int) (i : Nat) : ∀ k, (owedK s a k).getD i 0 = if i < k ∧ i < s.length then s.getD i 0 - a.getD i 0 else s.getD i 0
  | 0 => by simp [owedK]
  | k + 1 => by
    have ih := owedK_get s a i k
    have hl := owedK_len s a k
    rw [owedK, List.getD_eq_getElem?_getD, List.getElem?_set]
    by_cases hik : k = i
    · subst hik
      rw [if_pos rfl, hl]
      by_cases hk : k < s.length
      · rw [if_pos hk, if_pos ⟨by omega, hk⟩, Option.getD_some, ih, if_neg (by omega)]
      · rw [if_neg hk, if_neg (fun h => hk h.2), Option.getD_none, List.getD_eq_getElem?_getD, List.getElem?_eq_none (by omega)]; rfl
    · rw [if_neg hik, ← List.getD_eq_getElem?_getD, ih]
      by_cases h1 : i < k ∧ i < s.length
      · rw [if_pos h1, if_pos ⟨by omega, h1.2⟩]
      · rw [if_neg h1, if_neg (fun h => h1 ⟨by omega, h.2⟩)]
def owedE (l : Ld) (a : List Int) (pay : Int) : Int := if sharedE l a ≠ 0 then sharedE l a else shareE l pay
def owedI (l : Ld) (a : List Int) (pay : Int) : List Int := owedK (shareI (partsR l) pay.toNat) a 6
def owedG (l : Ld) (a : List Int) (pay : Int) : AV × List Blk := if owedE l a pay = 0 then (.tup [.gr 0 6, .int .i64 0], [.grow 3 false (ints (owedI l a pay))]) else (.tup [.sl true [], .int .i64 (owedE l a pay)], [])
theorem owedG_low (l : Ld) (a : List Int) (pay : Int) : (owedG l a pay).1.low (owedG l a pay).2.length = true ∧ ∀ x ∈ (owedG l a pay).2, x.low (owedG l a pay).2.length = true := by
  unfold owedG; split
  · exact ⟨rfl, fun x hx => by simp only [List.mem_cons, List.not_mem_nil, or_false] at hx; subst hx; exact lowI _⟩
  · exact ⟨rfl, fun x hx => by simp at hx⟩
theorem all500 {xs : List Int} (h : ¬ (xs.all fun n => inB n 0 500) = false) (i : Nat) : 0 ≤ xs.getD i 0 ∧ xs.getD i 0 ≤ 500 := by
  have h' : (xs.all fun n => inB n 0 500) = true := by simpa using h
  rw [List.all_eq_true] at h'
  rw [List.getD_eq_getElem?_getD]
  cases e : xs[i]? with
  | none => simp
  | some x => have := inB_iff.1 (h' x (List.mem_of_getElem? e)); simpa using this
theorem owed_g (l : Ld) (nl : Bool) (a : List Int) (pay : Int) (o : LdW l) (hx : a.length ≤ 100000) : Gives Try.prog 34 [ldA l, .sl nl (ints a), .int .i64 pay] (owedG l a pay).1 (owedG l a pay).2 := by
  refine Gives.body (T := tab) (res := [.tmp 6, .tmp 7]) tab_ok [] Try.func34 rfl (by kernel_rfl) Try.ntmps34 rfl (by simp only [List.length_cons, List.length_nil]; decide) (by simp only [lowL, AV.low, ldL, lowI]; rfl) (owedG_low l a pay).1 (owedG_low l a pay).2 ?_; conv => whnf
  refine XCall.ret (shared_c l nl a o hx) ?_
  conv => whnf
  repeat' first | ((with_reducible first | apply XBr.tt | apply XBr.ff | apply Chk.go | apply ChkA.go | apply ChkF.go | apply ChkB.go | apply XArr.pim0 | apply XArr.pim1); conv => whnf) | (with_reducible apply XBr.not) | ((with_reducible apply XBr.dec) <;> (intro h; first | (exfalso; omega) | ((try simp only [List.length_map] at h); first | (exfalso; omega) | (conv => whnf)))) | ((with_reducible first | apply XBr.beq | apply XBr.bne) <;> (intro h; first | (exfalso; omega) | (conv => whnf))) | ((with_reducible refine XInt.i64 (by omega) (by omega) ?_); conv => whnf) | ((with_reducible refine XHold.mk ?_ ?_); (first | omega | rfl | decide | exact ⟨rfl, by decide, rfl⟩ | exact wideI _ | exact widePr _ | exact wideSk _ | (unfold Room; constructor <;> ((try simp) <;> omega)) | exact ⟨rfl, by simp only [List.length_map], by unfold Room; constructor <;> ((try simp) <;> omega)⟩ | exact ⟨by omega, by omega, by unfold Room; constructor <;> ((try simp) <;> omega)⟩); conv => whnf) | ((first | ((with_reducible refine XIx.nat ?_ ?_ ?_); omega; (intro _; rfl)) | ((with_reducible refine XIx.map ?_ ?_ ?_ ?_); omega; omega; (intro _; rfl))); conv => whnf) | (with_reducible apply XAnd.mk) | (exact XSame.mk rfl rfl) | (exact XSame.mk (by first | rfl | (simp only [List.map_append, List.length_append, List.length_map]; done) | (simp only [List.map_append, List.length_append, List.length_map]; rfl)) (by first | rfl | (simp only [List.map_append]; done) | (simp only [List.map_append]; rfl))) | (with_reducible exact trivial) | ((first | (with_reducible refine xdrop_app (by rw [List.length_map]; omega) ?_) | (with_reducible refine XDrop.desk (by assumption) ?_) | (with_reducible first | refine XArr.ints (by omega) (by omega) (by omega) ?_ | refine XArr.intsA (by omega) (by omega) (by omega) ?_) | ((with_reducible first | refine XArr.nats ?_ ?_ ?_ | refine XArr.natsA ?_ ?_ ?_ | refine XArr.ptr ?_ ?_ ?_); omega; omega)); conv => whnf) | ((with_reducible apply XBr.mk') <;> (intro h; conv => whnf))
  · have he : owedE l a pay = sharedE l a := by unfold owedE; rw [if_pos (by assumption)]
    unfold owedG; rw [if_neg (by rw [he]; assumption), he]; exact XGive.err rfl
  · have h0 := h
    clear h
    have he : owedE l a pay = shareE l pay := by unfold owedE; rw [if_neg (by omega)]
    have x := share_g l pay o
    unfold owedG; rw [he]
    unfold shareG at x
    by_cases h : shareE l pay = 0
    · rw [if_pos h] at x ⊢
      have pk := shareI_ok (parts_ok ((checkR_ok l).1 (by unfold shareE at h; split at h <;> omega))) pay.toNat
      have ha : a.length = 6 ∧ ¬ (a.all fun n => inB n 0 500) = false := by
        unfold sharedE at h0
        split at h0
        · omega
        · split at h0
          · omega
          · split at h0
            · omega
            · exact ⟨by omega, by assumption⟩
      have ha5 := all500 ha.2
      unfold owedI
      generalize shareI (partsR l) pay.toNat = s at x pk
      refine XCall.give x ?_
      rw [List.map_cons, ren_grow, List.map_nil]
      conv => whnf
      have sl := pk.1
      have hsl : (s.length : Int) = 6 := by omega
      repeat' first | ((with_reducible first | apply XBr.tt | apply XBr.ff | apply Chk.go | apply ChkA.go | apply ChkF.go | apply ChkB.go | apply XArr.pim0 | apply XArr.pim1); conv => whnf) | (with_reducible apply XBr.not) | ((with_reducible apply XBr.dec) <;> (intro h; first | (exfalso; omega) | ((try simp only [List.length_map] at h); first | (exfalso; omega) | (conv => whnf)))) | ((with_reducible first | apply XBr.beq | apply XBr.bne) <;> (intro h; first | (exfalso; omega) | (conv => whnf))) | ((with_reducible refine XInt.i64 (by omega) (by omega) ?_); conv => whnf) | ((with_reducible refine XHold.mk ?_ ?_); (first | omega | rfl | decide | exact ⟨rfl, by decide, rfl⟩ | exact wideI _ | exact widePr _ | exact wideSk _ | (unfold Room; constructor <;> ((try simp) <;> omega)) | exact ⟨rfl, by simp only [List.length_map], by unfold Room; constructor <;> ((try simp) <;> omega)⟩ | exact ⟨by omega, by omega, by unfold Room; constructor <;> ((try simp) <;> omega)⟩); conv => whnf) | ((first | ((with_reducible refine XIx.nat ?_ ?_ ?_); omega; (intro _; rfl)) | ((with_reducible refine XIx.map ?_ ?_ ?_ ?_); omega; omega; (intro _; rfl))); conv => whnf) | (with_reducible apply XAnd.mk) | (exact XSame.mk rfl rfl) | (exact XSame.mk (by first | rfl | (simp only [List.map_append, List.length_append, List.length_map]; done) | (simp only [List.map_append, List.length_append, List.length_map]; rfl)) (by first | rfl | (simp only [List.map_append]; done) | (simp only [List.map_append]; rfl))) | (with_reducible exact trivial) | ((first | (with_reducible refine xdrop_app (by rw [List.length_map]; omega) ?_) | (with_reducible refine XDrop.desk (by assumption) ?_) | (with_reducible first | refine XArr.ints (by omega) (by omega) (by omega) ?_ | refine XArr.intsA (by omega) (by omega) (by omega) ?_) | ((with_reducible first | refine XArr.nats ?_ ?_ ?_ | refine XArr.natsA ?_ ?_ ?_ | refine XArr.ptr ?_ ?_ ?_); omega; omega) | (refine XHold.mk (by rw [List.length_map]; exact sl) ?_)); conv => whnf) | ((with_reducible apply XBr.mk') <;> (intro h; conv => whnf))
      refine Walk.loop tab_ok [] (fun k : Nat => k ≤ 6) (fun k => [(1, .sl nl (ints a)), (6, .sl true []), (7, .int .i64 0), (9, .gr 0 6), (10, .int .i64 0), (25, .int .i64 6), (26, natA k)])
        (fun k => [.grow 3 false (ints (owedK s a k))]) (fun k => 6 - k) 0 (by omega) rfl ⟨rfl, rfl, rfl, rfl, rfl, rfl, rfl, trivial⟩ ?_
      intro k hk
      have gl := owedK_len s a k
      have gg := owedK_get s a k k
      rw [if_neg (by omega)] at gg
      have pv := pk.2 k
      have av := ha5 k
      have hnx : owedK s a (k + 1) = (owedK s a k).set k ((owedK s a k).getD k 0 - a.getD k 0) := rfl
      have hfin : k = 6 → owedK s a 6 = owedK s a k := fun h => by rw [h]
      generalize owedK s a k = out at gl gg hnx hfin
      conv => whnf
      repeat' first | ((with_reducible first | apply XBr.tt | apply XBr.ff | apply Chk.go | apply ChkA.go | apply ChkF.go | apply ChkB.go | apply XArr.pim0 | apply XArr.pim1); conv => whnf) | (with_reducible apply XBr.not) | ((with_reducible apply XBr.dec) <;> (intro h; first | (exfalso; omega) | ((try simp only [List.length_map] at h); first | (exfalso; omega) | (conv => whnf)))) | ((with_reducible first | apply XBr.beq | apply XBr.bne) <;> (intro h; first | (exfalso; omega) | (conv => whnf))) | ((with_reducible refine XInt.i64 (by omega) (by omega) ?_); conv => whnf) | ((with_reducible refine XHold.mk ?_ ?_); (first | omega | rfl | decide | exact ⟨rfl, by decide, rfl⟩ | exact wideI _ | exact widePr _ | exact wideSk _ | (unfold Room; constructor <;> ((try simp) <;> omega)) | exact ⟨rfl, by simp only [List.length_map], by unfold Room; constructor <;> ((try simp) <;> omega)⟩ | exact ⟨by omega, by omega, by unfold Room; constructor <;> ((try simp) <;> omega)⟩); conv => whnf) | ((first | ((with_reducible refine XIx.nat ?_ ?_ ?_); omega; (intro _; rfl)) | ((with_reducible refine XIx.map ?_ ?_ ?_ ?_); omega; omega; (intro _; rfl))); conv => whnf) | (with_reducible apply XAnd.mk) | (exact XSame.mk rfl rfl) | (exact XSame.mk (by first | rfl | (simp only [List.map_append, List.length_append, List.length_map]; done) | (simp only [List.map_append, List.length_append, List.length_map]; rfl)) (by first | rfl | (simp only [List.map_append]; done) | (simp only [List.map_append]; rfl))) | (with_reducible exact trivial) | ((first | (with_reducible refine xdrop_app (by rw [List.length_map]; omega) ?_) | (with_reducible refine XDrop.desk (by assumption) ?_) | (with_reducible first | refine XArr.ints (by omega) (by omega) (by omega) ?_ | refine XArr.intsA (by omega) (by omega) (by omega) ?_) | ((with_reducible first | refine XArr.nats ?_ ?_ ?_ | refine XArr.natsA ?_ ?_ ?_ | refine XArr.ptr ?_ ?_ ?_); omega; omega)); conv => whnf) | ((with_reducible apply XBr.mk') <;> (intro h; conv => whnf))
      · have gg2 : out.getD (k : Int).toNat default = s.getD k 0 := gg
        have gg3 : out.getD k default = s.getD k 0 := gg
        have av2 : 0 ≤ a.getD k default ∧ a.getD k default ≤ 500 := av
        have av3 : 0 ≤ a.getD (k : Int).toNat default ∧ a.getD (k : Int).toNat default ≤ 500 := av
        have pay5 : (pay.toNat : Int) ≤ 500 := by
          have hin : inB pay 0 500 = true := by
            have hs := (by assumption : shareE l pay = 0)
            unfold shareE at hs
            split at hs
            · omega
            · split at hs
              · omega
              · simpa using (by assumption : ¬ inB pay 0 500 = false)
          have := inB_iff.1 hin; omega
        apply Walk.drawX tab_ok mixed_ok [] [10] (hsV _ [id, fun H => H.set 0 (.grow 3 false (ints (out.set k (out.getD k 0 - a.getD k 0))))]) [_, _, _, _, _, _, _, _, _, _, _] (by kernel_rfl) rfl
        · skip
          repeat' first | ((with_reducible first | apply XBr.tt | apply XBr.ff | apply Chk.go | apply ChkA.go | apply ChkF.go | apply ChkB.go | apply XArr.pim0 | apply XArr.pim1); conv => whnf) | (with_reducible apply XBr.not) | ((with_reducible apply XBr.dec) <;> (intro h; first | (exfalso; omega) | ((try simp only [List.length_map] at h); first | (exfalso; omega) | (conv => whnf)))) | ((with_reducible first | apply XBr.beq | apply XBr.bne) <;> (intro h; first | (exfalso; omega) | (conv => whnf))) | ((with_reducible refine XInt.i64 (by omega) (by omega) ?_); conv => whnf) | ((with_reducible refine XHold.mk ?_ ?_); (first | omega | rfl | decide | exact ⟨rfl, by decide, rfl⟩ | exact wideI _ | exact widePr _ | exact wideSk _ | (unfold Room; constructor <;> ((try simp) <;> omega)) | exact ⟨rfl, by simp only [List.length_map], by unfold Room; constructor <;> ((try simp) <;> omega)⟩ | exact ⟨by omega, by omega, by unfold Room; constructor <;> ((try simp) <;> omega)⟩); conv => whnf) | ((first | ((with_reducible refine XIx.nat ?_ ?_ ?_); omega; (intro _; rfl)) | ((with_reducible refine XIx.map ?_ ?_ ?_ ?_); omega; omega; (intro _; rfl))); conv => whnf) | (with_reducible apply XAnd.mk) | (exact XSame.mk rfl rfl) | (exact XSame.mk (by first | rfl | (simp only [List.map_append, List.length_append, List.length_map]; done) | (simp only [List.map_append, List.length_append, List.length_map]; rfl)) (by first | rfl | (simp only [List.map_append]; done) | (simp only [List.map_append]; rfl))) | (with_reducible exact trivial) | ((first | (with_reducible refine xdrop_app (by rw [List.length_map]; omega) ?_) | (with_reducible refine XDrop.desk (by assumption) ?_) | (with_reducible first | refine XArr.ints (by omega) (by omega) (by omega) ?_ | refine XArr.intsA (by omega) (by omega) (by omega) ?_) | ((with_reducible first | refine XArr.nats ?_ ?_ ?_ | refine XArr.natsA ?_ ?_ ?_ | refine XArr.ptr ?_ ?_ ?_); omega; omega) | (refine XHold.mk ⟨by rw [List.length_map]; omega, rfl, by omega, by omega⟩ ?_) | (refine XGet.map (by omega) (by omega) ?_) | (refine XPut.map (out.getD k 0 - a.getD k 0) rfl (by omega) (by omega) ?_)); conv => whnf) | ((with_reducible apply XBr.mk') <;> (intro h; conv => whnf))
        · skip
          repeat' first | ((with_reducible first | apply XBr.tt | apply XBr.ff | apply Chk.go | apply ChkA.go | apply ChkF.go | apply ChkB.go | apply XArr.pim0 | apply XArr.pim1); conv => whnf) | (with_reducible apply XBr.not) | ((with_reducible apply XBr.dec) <;> (intro h; first | (exfalso; omega) | ((try simp only [List.length_map] at h); first | (exfalso; omega) | (conv => whnf)))) | ((with_reducible first | apply XBr.beq | apply XBr.bne) <;> (intro h; first | (exfalso; omega) | (conv => whnf))) | ((with_reducible refine XInt.i64 (by omega) (by omega) ?_); conv => whnf) | ((with_reducible refine XHold.mk ?_ ?_); (first | omega | rfl | decide | exact ⟨rfl, by decide, rfl⟩ | exact wideI _ | exact widePr _ | exact wideSk _ | (unfold Room; constructor <;> ((try simp) <;> omega)) | exact ⟨rfl, by simp only [List.length_map], by unfold Room; constructor <;> ((try simp) <;> omega)⟩ | exact ⟨by omega, by omega, by unfold Room; constructor <;> ((try simp) <;> omega)⟩); conv => whnf) | ((first | ((with_reducible refine XIx.nat ?_ ?_ ?_); omega; (intro _; rfl)) | ((with_reducible refine XIx.map ?_ ?_ ?_ ?_); omega; omega; (intro _; rfl))); conv => whnf) | (with_reducible apply XAnd.mk) | (exact XSame.mk rfl rfl) | (exact XSame.mk (by first | rfl | (simp only [List.map_append, List.length_append, List.length_map]; done) | (simp only [List.map_append, List.length_append, List.length_map]; rfl)) (by first | rfl | (simp only [List.map_append]; done) | (simp only [List.map_append]; rfl))) | (with_reducible exact trivial) | ((first | (with_reducible refine xdrop_app (by rw [List.length_map]; omega) ?_) | (with_reducible refine XDrop.desk (by assumption) ?_) | (with_reducible first | refine XArr.ints (by omega) (by omega) (by omega) ?_ | refine XArr.intsA (by omega) (by omega) (by omega) ?_) | ((with_reducible first | refine XArr.nats ?_ ?_ ?_ | refine XArr.natsA ?_ ?_ ?_ | refine XArr.ptr ?_ ?_ ?_); omega; omega) | (refine XHold.mk ⟨by rw [List.length_map]; omega, rfl, by omega, by omega⟩ ?_) | (refine XGet.map (by omega) (by omega) ?_) | (refine XPut.map (out.getD k 0 - a.getD k 0) rfl (by omega) (by omega) ?_)); conv => whnf) | ((with_reducible apply XBr.mk') <;> (intro h; conv => whnf))
        · conv => whnf
          repeat' first | ((with_reducible first | apply XBr.tt | apply XBr.ff | apply Chk.go | apply ChkA.go | apply ChkF.go | apply ChkB.go | apply XArr.pim0 | apply XArr.pim1); conv => whnf) | (with_reducible apply XBr.not) | ((with_reducible apply XBr.dec) <;> (intro h; first | (exfalso; omega) | ((try simp only [List.length_map] at h); first | (exfalso; omega) | (conv => whnf)))) | ((with_reducible first | apply XBr.beq | apply XBr.bne) <;> (intro h; first | (exfalso; omega) | (conv => whnf))) | ((with_reducible refine XInt.i64 (by omega) (by omega) ?_); conv => whnf) | ((with_reducible refine XHold.mk ?_ ?_); (first | omega | rfl | decide | exact ⟨rfl, by decide, rfl⟩ | exact wideI _ | exact widePr _ | exact wideSk _ | (unfold Room; constructor <;> ((try simp) <;> omega)) | exact ⟨rfl, by simp only [List.length_map], by unfold Room; constructor <;> ((try simp) <;> omega)⟩ | exact ⟨by omega, by omega, by unfold Room; constructor <;> ((try simp) <;> omega)⟩); conv => whnf) | ((first | ((with_reducible refine XIx.nat ?_ ?_ ?_); omega; (intro _; rfl)) | ((with_reducible refine XIx.map ?_ ?_ ?_ ?_); omega; omega; (intro _; rfl))); conv => whnf) | (with_reducible apply XAnd.mk) | (exact XSame.mk rfl rfl) | (exact XSame.mk (by first | rfl | (simp only [List.map_append, List.length_append, List.length_map]; done) | (simp only [List.map_append, List.length_append, List.length_map]; rfl)) (by first | rfl | (simp only [List.map_append]; done) | (simp only [List.map_append]; rfl))) | (with_reducible exact trivial) | ((first | (with_reducible refine xdrop_app (by rw [List.length_map]; omega) ?_) | (with_reducible refine XDrop.desk (by assumption) ?_) | (with_reducible first | refine XArr.ints (by omega) (by omega) (by omega) ?_ | refine XArr.intsA (by omega) (by omega) (by omega) ?_) | ((with_reducible first | refine XArr.nats ?_ ?_ ?_ | refine XArr.natsA ?_ ?_ ?_ | refine XArr.ptr ?_ ?_ ?_); omega; omega)); conv => whnf) | ((with_reducible apply XBr.mk') <;> (intro h; conv => whnf))
          refine XAgain.go (k + 1) (by omega) (by omega) ?_ ⟨rfl, rfl, rfl, rfl, rfl, rfl, rfl, trivial⟩
          rw [hnx]; rfl
      · rw [hfin (by omega)]
        exact XGive.mk' [0] rfl (by decide) ⟨congrArg some (ren_grow _ _ _ _).symm, trivial⟩ rfl
    · rw [if_neg h] at x ⊢
      refine XCall.give x ?_
      conv => whnf
      repeat' first | ((with_reducible first | apply XBr.tt | apply XBr.ff | apply Chk.go | apply ChkA.go | apply ChkF.go | apply ChkB.go | apply XArr.pim0 | apply XArr.pim1); conv => whnf) | (with_reducible apply XBr.not) | ((with_reducible apply XBr.dec) <;> (intro h; first | (exfalso; omega) | ((try simp only [List.length_map] at h); first | (exfalso; omega) | (conv => whnf)))) | ((with_reducible first | apply XBr.beq | apply XBr.bne) <;> (intro h; first | (exfalso; omega) | (conv => whnf))) | ((with_reducible refine XInt.i64 (by omega) (by omega) ?_); conv => whnf) | ((with_reducible refine XHold.mk ?_ ?_); (first | omega | rfl | decide | exact ⟨rfl, by decide, rfl⟩ | exact wideI _ | exact widePr _ | exact wideSk _ | (unfold Room; constructor <;> ((try simp) <;> omega)) | exact ⟨rfl, by simp only [List.length_map], by unfold Room; constructor <;> ((try simp) <;> omega)⟩ | exact ⟨by omega, by omega, by unfold Room; constructor <;> ((try simp) <;> omega)⟩); conv => whnf) | ((first | ((with_reducible refine XIx.nat ?_ ?_ ?_); omega; (intro _; rfl)) | ((with_reducible refine XIx.map ?_ ?_ ?_ ?_); omega; omega; (intro _; rfl))); conv => whnf) | (with_reducible apply XAnd.mk) | (exact XSame.mk rfl rfl) | (exact XSame.mk (by first | rfl | (simp only [List.map_append, List.length_append, List.length_map]; done) | (simp only [List.map_append, List.length_append, List.length_map]; rfl)) (by first | rfl | (simp only [List.map_append]; done) | (simp only [List.map_append]; rfl))) | (with_reducible exact trivial) | ((first | (with_reducible refine xdrop_app (by rw [List.length_map]; omega) ?_) | (with_reducible refine XDrop.desk (by assumption) ?_) | (with_reducible first | refine XArr.ints (by omega) (by omega) (by omega) ?_ | refine XArr.intsA (by omega) (by omega) (by omega) ?_) | ((with_reducible first | refine XArr.nats ?_ ?_ ?_ | refine XArr.natsA ?_ ?_ ?_ | refine XArr.ptr ?_ ?_ ?_); omega; omega)); conv => whnf) | ((with_reducible apply XBr.mk') <;> (intro h; conv => whnf))
      refine Walk.loop tab_ok [] (fun _ : Nat => True) (fun _ => [(6, .sl true []), (7, .int .i64 0), (9, .sl true []), (10, .int .i64 (shareE l pay)), (25, .int .i64 0), (26, .int .i64 0)])
        (fun _ => []) (fun _ => 0) 0 trivial rfl ⟨rfl, rfl, rfl, rfl, rfl, rfl, trivial⟩ ?_
      intro _ _
      conv => whnf
      repeat' first | ((with_reducible first | apply XBr.tt | apply XBr.ff | apply Chk.go | apply ChkA.go | apply ChkF.go | apply ChkB.go | apply XArr.pim0 | apply XArr.pim1); conv => whnf) | (with_reducible apply XBr.not) | ((with_reducible apply XBr.dec) <;> (intro h; first | (exfalso; omega) | ((try simp only [List.length_map] at h); first | (exfalso; omega) | (conv => whnf)))) | ((with_reducible first | apply XBr.beq | apply XBr.bne) <;> (intro h; first | (exfalso; omega) | (conv => whnf))) | ((with_reducible refine XInt.i64 (by omega) (by omega) ?_); conv => whnf) | ((with_reducible refine XHold.mk ?_ ?_); (first | omega | rfl | decide | exact ⟨rfl, by decide, rfl⟩ | exact wideI _ | exact widePr _ | exact wideSk _ | (unfold Room; constructor <;> ((try simp) <;> omega)) | exact ⟨rfl, by simp only [List.length_map], by unfold Room; constructor <;> ((try simp) <;> omega)⟩ | exact ⟨by omega, by omega, by unfold Room; constructor <;> ((try simp) <;> omega)⟩); conv => whnf) | ((first | ((with_reducible refine XIx.nat ?_ ?_ ?_); omega; (intro _; rfl)) | ((with_reducible refine XIx.map ?_ ?_ ?_ ?_); omega; omega; (intro _; rfl))); conv => whnf) | (with_reducible apply XAnd.mk) | (exact XSame.mk rfl rfl) | (exact XSame.mk (by first | rfl | (simp only [List.map_append, List.length_append, List.length_map]; done) | (simp only [List.map_append, List.length_append, List.length_map]; rfl)) (by first | rfl | (simp only [List.map_append]; done) | (simp only [List.map_append]; rfl))) | (with_reducible exact trivial) | ((first | (with_reducible refine xdrop_app (by rw [List.length_map]; omega) ?_) | (with_reducible refine XDrop.desk (by assumption) ?_) | (with_reducible first | refine XArr.ints (by omega) (by omega) (by omega) ?_ | refine XArr.intsA (by omega) (by omega) (by omega) ?_) | ((with_reducible first | refine XArr.nats ?_ ?_ ?_ | refine XArr.natsA ?_ ?_ ?_ | refine XArr.ptr ?_ ?_ ?_); omega; omega)); conv => whnf) | ((with_reducible apply XBr.mk') <;> (intro h; conv => whnf))
      exact XGive.err rfl
end GA
end

section
namespace GA
open Go Go.RowKit Go.Proofs
set_option pp.deepTerms true
set_option maxRecDepth 8000
set_option linter.unusedVariables false
set_option linter.unusedSimpArgs false

structure Prs where
  ap : List (Int × Int)
  wt : List (Int × Int)
  u : Hp
theorem isEmpty_app {α : Type} (l : List α) (x : α) : (l ++ [x]).isEmpty = (l.isEmpty && false) := by cases l <;> rfl
end GA
end

section
namespace GA
open Go Go.RowKit Go.Proofs
set_option linter.unusedVariables false
set_option linter.unusedSimpArgs false

theorem le_greatest : ∀ (xs : List Int) (n : Int), n ≤ xs.foldl (fun n m => max n m) n ∧ ∀ x ∈ xs, x ≤ xs.foldl (fun n m => max n m) n
  | [], n => by simp
  | y :: xs, n => by
    obtain ⟨h1, h2⟩ := le_greatest xs (max n y)
    rw [List.foldl_cons]
    refine ⟨by omega, fun x hx => ?_⟩
    rcases List.mem_cons.1 hx with rfl | hx
    · omega
    · exact h2 x hx
theorem owed_get (s a : List Int) (hs : s.length = 6) (i : Nat) (hi : i < 6) : (owedK s a 6).getD i 0 = s.getD i 0 - a.getD i 0 := by
  rw [owedK_get, if_pos ⟨hi, by omega⟩]
end GA
end

section
namespace GA
open Go Go.RowKit Go.ChangeShapes Go.WideShapes Go.ChangeAt Go.Proofs Go.Proofs.Ytlbdomhfcghjdaa
set_option linter.unusedVariables false
set_option linter.unusedSimpArgs false

section
variable {P : Program} {w : World} {r : Reach} {base : Nat} {t : TypeId} {v : Value}
theorem okWide_len {e : TypeId} (ht : P.underlying t = some (.slice e)) (h : Value.okWide P w r base t v) : ∃ a len cap, v = .slice a len cap ∧ len < 9223372036854775808 := by
  simp only [Value.okWide, ht, Cell.okWide] at h
  cases v with
  | slice a len cap =>
    refine ⟨a, len, cap, rfl, ?_⟩
    cases a with
    | none =>
      cases len with
      | zero => omega
      | succ n => simp [Cell.ok, ht] at h
    | some a =>
      simp only [Cell.ok, ht] at h
      have h1 : IntKind.i64.max = 9223372036854775807 := by decide
      omega
  | _ => simp_all [Cell.ok]
theorem okWide_has {k : IntKind} (ht : P.underlying t = some (.int k)) (h : Value.okWide P w r base t v) : ∃ n, v = .int k n ∧ k.min ≤ n ∧ n ≤ k.max := by
  obtain ⟨n, rfl⟩ := okWide_int ht h
  refine ⟨n, rfl, ?_⟩
  simp only [Value.okWide, ht, Cell.okWide] at h
  simp only [Cell.ok, ht, IntKind.has] at h
  exact h.2
end
theorem rep_len {P : Program} {h : Nat → Option Obj} {β : Nat → Value} {H : List Blk} {nl : Bool} {els : List AV} {a : Option Addr} {len cap : Nat} (x : Rep P h β H (.sl nl els) (.slice a len cap)) : els.length = len := by
  cases x with
  | slnil => rfl
  | slemp => rfl
  | sl us h1 => exact h1.symm
theorem ownK : ownKnob Try.prog.godebug = none := by kernel_rfl
theorem oInt : Opens Try.prog 3 1 (fun a : {n : Int // IntKind.i64.min ≤ n ∧ n ≤ IntKind.i64.max} => [AV.int .i64 a.1]) := .int (by kernel_rfl) (by kernel_rfl)
theorem oInts : Opens Try.prog 30 1 (fun p : Bool × List Int => [AV.sl p.1 (ints p.2)]) :=
  (Opens.slice (t := 30) (by kernel_rfl) (by kernel_rfl) oInt (by decide) (fun a => .int .i64 a.1) (fun _ => rfl)).as (fun p => ⟨(p.1.1, p.1.2.map (·.1)), by simp [ints]⟩) (fun _ => rfl)
end GA
end

section
namespace GA
open Go Go.RowKit Go.ChangeShapes Go.WideShapes Go.ChangeAt Go.Proofs Go.Proofs.Ytlbdomhfcghjdaa
set_option linter.unusedVariables false
set_option linter.unusedSimpArgs false
set_option maxRecDepth 8000

theorem rep_nil {P : Program} {h : Nat → Option Obj} {β : Nat → Value} {H : List Blk} {els : List AV} {v : Value} (x : Rep P h β H (.sl true els) v) : els = [] := by cases x; rfl
theorem i64_zero : IntKind.i64.min ≤ 0 ∧ (0 : Int) ≤ IntKind.i64.max := by decide
theorem oSack : Opens Try.prog 113 2 (fun s : Sk => (skA s).cells) :=
  (Opens.struct Try.underlying113 (by kernel_rfl) (.cons oInt rfl (.cons oInt rfl .nil))).as (fun p => ⟨⟨p.1.1, p.2.1.1⟩, rfl⟩) (fun _ => rfl)
theorem oSacks : Opens Try.prog 23 1 (fun p : Bool × List Sk => [AV.sl p.1 (p.2.map skA)]) :=
  Opens.slice (t := 23) (by kernel_rfl) (by kernel_rfl) oSack (by decide) skA (fun _ => rfl) |>.as (fun p => ⟨p.1, rfl⟩) (fun _ => rfl)
theorem oPair : Opens Try.prog 118 2 (fun s : Int × Int => (prA s).cells) :=
  (Opens.array (m := 2) (n := 1) Try.underlying118 (by kernel_rfl) rfl oInt).as (fun p => ⟨((p.1.getD 0 ⟨0, i64_zero⟩).1, (p.1.getD 1 ⟨0, i64_zero⟩).1), by
    obtain ⟨l, hl⟩ := p
    rcases l with _ | ⟨a, _ | ⟨b, _ | ⟨c, l⟩⟩⟩
    · simp at hl
    · simp at hl
    · simp [prA, AV.cells]
    · simp at hl⟩) (fun _ => rfl)
theorem oPairs : Opens Try.prog 24 1 (fun p : Bool × List (Int × Int) => [AV.sl p.1 (p.2.map prA)]) :=
  Opens.slice (t := 24) (by kernel_rfl) (by kernel_rfl) oPair (by decide) prA (fun _ => rfl) |>.as (fun p => ⟨p.1, rfl⟩) (fun _ => rfl)
theorem oLoad : Opens Try.prog 26 5 ldC :=
  (Opens.struct Try.underlying26 (by kernel_rfl) (.cons oInt rfl (.cons oInt rfl (.cons oSacks rfl (.cons oPairs rfl (.cons oPairs rfl .nil)))))).as
    (fun p => ⟨⟨p.1.1, p.2.1.1, p.2.2.1.1, p.2.2.1.2, p.2.2.2.1.1, p.2.2.2.1.2, p.2.2.2.2.1.1, p.2.2.2.2.1.2⟩, rfl⟩) (fun _ => rfl)
theorem ld_nil {P : Program} {h : Nat → Option Obj} {β : Nat → Value} {H : List Blk} {l : Ld} {v : Value} (x : Rep P h β H (.agg (ldC l)) v) : l.nla = true → l.apart = [] := by
  intro hn
  cases x with
  | agg us h1 h2 h3 h4 =>
    have := h4 3 _ rfl
    rw [hn] at this
    have := rep_nil this
    cases e : l.apart with
    | nil => rfl
    | cons a b => rw [e] at this; cases this
end GA
end

section
namespace GA
open Go Go.RowKit Go.Proofs
set_option maxRecDepth 8000
set_option linter.unusedVariables false
set_option linter.unusedSimpArgs false

theorem bit_ext {a b : Nat} (h : ∀ i, a.testBit i = b.testBit i) : a = b := Nat.eq_of_testBit_eq h
theorem Sub.refl (a : Nat) : Sub a a := fun _ h => h
theorem Sub.trans {a b c : Nat} (h : Sub a b) (k : Sub b c) : Sub a c := fun i x => k i (h i x)
theorem sub_half {a m : Nat} (h : Sub a m) : Sub (a / 2) (m / 2) := fun i x => by
  have := h (i + 1) (by rw [Nat.testBit_succ]; exact x)
  rwa [Nat.testBit_succ] at this
theorem sub_odd {a m : Nat} (h : Sub a m) : a % 2 ≤ m % 2 := by
  have := h 0
  simp only [Nat.testBit_zero, decide_eq_true_eq] at this
  omega
theorem sub_diff (s c : Nat) : Sub (diff s c) s := fun i h => by rw [diff_bit, Bool.and_eq_true] at h; exact h.1
theorem sub_pow {i c : Nat} : Sub (2 ^ i) c ↔ c.testBit i = true := by
  constructor
  · intro h; exact h i (by rw [Nat.testBit_two_pow_self])
  · intro h j hj; rw [Nat.testBit_two_pow, decide_eq_true_eq] at hj; subst hj; exact h
inductive Pk (R : Nat → Bool) : Nat → Nat → Prop
  | nil : Pk R 0 0
  | cons {n set : Nat} (c : Nat) (hr : R c = true) (hs : Sub c set) (h0 : c ≠ 0) (t : Pk R n (diff set c)) : Pk R (n + 1) set
theorem diff_diff (s a b : Nat) : diff (diff s a) b = diff (diff s b) a := bit_ext fun i => by
  simp only [diff_bit]; cases s.testBit i <;> cases a.testBit i <;> cases b.testBit i <;> rfl
theorem Pk.first {R : Nat → Bool} {n set i : Nat} (h : Pk R n set) (hi : set.testBit i = true) : ∃ c k, n = k + 1 ∧ R c = true ∧ Sub c set ∧ c.testBit i = true ∧ Pk R k (diff set c) := by
  induction h with
  | nil => rw [Nat.zero_testBit] at hi; cases hi
  | @cons n set c hr hs h0 t ih =>
    cases hc : c.testBit i
    · obtain ⟨c', k, h1, h2, h3, h4, h5⟩ := ih (by rw [diff_bit, hi, hc]; rfl)
      subst h1
      refine ⟨c', k + 1, rfl, h2, h3.trans (sub_diff _ _), h4, .cons c hr (fun j hj => ?_) h0 (by rw [diff_diff]; exact h5)⟩
      rw [diff_bit, hs j hj]
      cases hc' : c'.testBit j
      · rfl
      · have := h3 j hc'; rw [diff_bit, hj, Bool.not_true, Bool.and_false] at this; cases this
    · exact ⟨c, n, rfl, hr, hs, hc, t⟩
theorem Pk.zero {R : Nat → Bool} {n : Nat} (h : Pk R n 0) : n = 0 := by
  cases h with
  | nil => rfl
  | cons c hr hs h0 t => exact absurd (Nat.le_zero.1 hs.le) h0
theorem Pk.none {R : Nat → Bool} {set : Nat} (h : Pk R 0 set) : set = 0 := by cases h; rfl
theorem Pk.mono {R R' : Nat → Bool} {n set : Nat} (h : Pk R n set) (hR : ∀ c, Sub c set → R c = true → R' c = true) : Pk R' n set := by
  induction h with
  | nil => exact .nil
  | cons c hr hs h0 t ih => exact .cons c (hR c hs hr) hs h0 (ih fun c' hc' => hR c' (hc'.trans (sub_diff _ _)))
structure IsOpt (R : Nat → Bool) (set v : Nat) : Prop where
  le : v ≤ 10
  lo : ∀ n, Pk R n set → v ≤ n
  is : v < 10 → Pk R v set
theorem IsOpt.eq {R : Nat → Bool} {set v v' : Nat} (h : IsOpt R set v) (h' : IsOpt R set v') : v = v' := by
  rcases Nat.lt_trichotomy v v' with hl | hl | hl
  · have := h'.lo v (h.is (by have := h'.le; omega)); omega
  · exact hl
  · have := h.lo v' (h'.is (by have := h.le; omega)); omega
end GA
end

section
namespace GA
open Go Go.RowKit Go.Proofs
set_option maxRecDepth 8000
set_option linter.unusedVariables false
set_option linter.unusedSimpArgs false

def allP (b : List Nat) (p : Int × Int) : Nat := b.getD p.1.toNat 0 ||| b.getD p.2.toNat 0
theorem joinStep_get (b : List Nat) (p : Int × Int) {i : Nat} (hi : i < b.length) : (joinStep b p).getD i 0 = if (allP b p).testBit i = true then b.getD i 0 ||| allP b p else b.getD i 0 := by
  have e : (allP b p).testBit i = decide ((b.getD p.1.toNat 0 ||| b.getD p.2.toNat 0) / 2 ^ i % 2 = 1) := Nat.testBit_eq_decide_div_mod_eq
  rw [e]
  unfold joinStep allP
  simp only [List.getD_eq_getElem?_getD, List.getElem?_mapIdx, List.getElem?_eq_getElem hi, Option.map_some, Option.getD_some, decide_eq_true_eq]
theorem joinStep_none (b : List Nat) (p : Int × Int) {i : Nat} (hi : ¬ i < b.length) : (joinStep b p).getD i 0 = 0 := by
  rw [List.getD_eq_getElem?_getD, List.getElem?_eq_none (by rw [joinStep_len]; omega)]; rfl
theorem joinStep_sub (b : List Nat) (p : Int × Int) (i : Nat) : Sub (b.getD i 0) ((joinStep b p).getD i 0) := by
  by_cases hi : i < b.length
  · rw [joinStep_get b p hi]; split
    · intro j hj; rw [Nat.testBit_or, hj]; rfl
    · exact Sub.refl _
  · rw [List.getD_eq_getElem?_getD, List.getElem?_eq_none (by omega)]; exact Sub.zero _
theorem foldl_sub : ∀ (ps : List (Int × Int)) (b : List Nat) (i : Nat), Sub (b.getD i 0) ((ps.foldl joinStep b).getD i 0)
  | [], _, _ => Sub.refl _
  | p :: ps, b, i => by rw [List.foldl_cons]; exact (joinStep_sub b p i).trans (foldl_sub ps _ i)
theorem closeF_sub (l : Ld) : ∀ (n : Nat) (b : List Nat) (i : Nat), Sub (b.getD i 0) ((closeF l n b).getD i 0)
  | 0, _, _ => Sub.refl _
  | n + 1, b, i => by
    show Sub _ ((if joinR l b = b then b else closeF l n (joinR l b)).getD i 0)
    split
    · exact Sub.refl _
    · exact (foldl_sub _ b i).trans (closeF_sub l n _ i)
theorem closeF_fix (l : Ld) : ∀ (n : Nat) (b : List Nat), msr b < n → (∀ i, b.getD i 0 < 512) → joinR l (closeF l n b) = closeF l n b
  | 0, _, h, _ => absurd h (Nat.not_lt_zero _)
  | n + 1, b, h, hs => by
    show joinR l (if joinR l b = b then b else closeF l n (joinR l b)) = if joinR l b = b then b else closeF l n (joinR l b)
    split
    · assumption
    · rename_i hne
      have := msr_lt b (joinR l b) (joinR_len l b).symm (joinR_ge l b) (joinR_small l b hs) (Ne.symm hne)
      exact closeF_fix l n _ (by omega) (joinR_small l b hs)
theorem foldl_fix : ∀ (ps : List (Int × Int)) (b : List Nat), ps.foldl joinStep b = b → ∀ p ∈ ps, joinStep b p = b
  | [], _, _, _, h => by simp at h
  | q :: ps, b, h, p, hp => by
    rw [List.foldl_cons] at h
    have hq : joinStep b q = b := by
      refine eq_of_getD (d := 0) (joinStep_len b q) fun j _ => ?_
      have h1 := joinStep_ge b q j
      have h2 := foldl_ge ps (joinStep b q) j
      rw [h] at h2; omega
    rcases List.mem_cons.1 hp with rfl | hp
    · exact hq
    · rw [hq] at h; exact foldl_fix ps b h p hp
def Cl (l : Ld) (c : Nat) : Prop := ∀ p ∈ l.wth, c.testBit p.1.toNat = c.testBit p.2.toNat
def Inv (c : Nat) (b : List Nat) : Prop := ∀ i, (c.testBit i = true → Sub (b.getD i 0) c) ∧ (c.testBit i = false → ∀ j, (b.getD i 0).testBit j = true → c.testBit j = false)
theorem Inv.step {c : Nat} {b : List Nat} {p : Int × Int} (h : Inv c b) (hp : c.testBit p.1.toNat = c.testBit p.2.toNat) : Inv c (joinStep b p) := by
  intro i
  by_cases hi : i < b.length
  · rw [joinStep_get b p hi]
    split
    · rename_i ha
      unfold allP at ha ⊢
      cases h1 : c.testBit p.1.toNat
      · have k1 := (h p.1.toNat).2 h1
        have k2 := (h p.2.toNat).2 (hp ▸ h1)
        have hci : c.testBit i = false := by
          rw [Nat.testBit_or, Bool.or_eq_true] at ha
          exact ha.elim (k1 i) (k2 i)
        refine ⟨fun e => (by rw [hci] at e; cases e), fun _ j hj => ?_⟩
        rw [Nat.testBit_or, Nat.testBit_or, Bool.or_eq_true, Bool.or_eq_true] at hj
        rcases hj with hj | hj | hj
        · exact (h i).2 hci j hj
        · exact k1 j hj
        · exact k2 j hj
      · have k1 := (h p.1.toNat).1 h1
        have k2 := (h p.2.toNat).1 (hp ▸ h1)
        have hci : c.testBit i = true := by
          rw [Nat.testBit_or, Bool.or_eq_true] at ha
          exact ha.elim (k1 i) (k2 i)
        refine ⟨fun _ j hj => ?_, fun e => (by rw [hci] at e; cases e)⟩
        rw [Nat.testBit_or, Nat.testBit_or, Bool.or_eq_true, Bool.or_eq_true] at hj
        rcases hj with hj | hj | hj
        · exact (h i).1 hci j hj
        · exact k1 j hj
        · exact k2 j hj
    · exact h i
  · rw [joinStep_none b p hi]
    exact ⟨fun _ => Sub.zero _, fun _ j hj => by rw [Nat.zero_testBit] at hj; cases hj⟩
theorem Inv.fold {c : Nat} : ∀ (ps : List (Int × Int)) (b : List Nat), (∀ p ∈ ps, c.testBit p.1.toNat = c.testBit p.2.toNat) → Inv c b → Inv c (ps.foldl joinStep b)
  | [], _, _, h => h
  | p :: ps, b, hp, h => by rw [List.foldl_cons]; exact Inv.fold ps _ (fun q hq => hp q (List.mem_cons_of_mem _ hq)) (h.step (hp p List.mem_cons_self))
theorem Inv.close {l : Ld} {c : Nat} (hc : Cl l c) : ∀ (n : Nat) (b : List Nat), Inv c b → Inv c (closeF l n b)
  | 0, _, h => h
  | n + 1, b, h => by
    show Inv c (if joinR l b = b then b else closeF l n (joinR l b))
    split
    · exact h
    · exact Inv.close hc n _ (Inv.fold _ _ hc h)
theorem ndI_get {n i : Nat} (hi : i < 9) : (ndI n).getD i 0 = if i < n then 2 ^ i else 0 := by
  unfold ndI; rw [List.getD_eq_getElem?_getD, List.getElem?_map, List.getElem?_range hi]; rfl
theorem Inv.zero (c n : Nat) : Inv c (ndI n) := by
  intro i
  by_cases hi : i < 9
  · rw [ndI_get hi]
    split
    · refine ⟨fun h => sub_pow.2 h, fun h j hj => ?_⟩
      rw [Nat.testBit_two_pow, decide_eq_true_eq] at hj; subst hj; exact h
    · exact ⟨fun _ => Sub.zero _, fun _ j hj => by rw [Nat.zero_testBit] at hj; cases hj⟩
  · rw [List.getD_eq_getElem?_getD, List.getElem?_eq_none (by rw [ndI_len]; omega)]
    exact ⟨fun _ => Sub.zero _, fun _ j hj => by rw [Option.getD_none, Nat.zero_testBit] at hj; cases hj⟩
theorem nd_self {l : Ld} (o : LdOk l) {i : Nat} (hi : i < l.sacks.length) : ((openD l).nd.getD i 0).testBit i = true := by
  refine closeF_sub l 5000 (ndI l.sacks.length) i i ?_
  rw [ndI_get (by have := o.n; omega), if_pos hi, Nat.testBit_two_pow_self]
theorem nd_least {l : Ld} {c : Nat} (hc : Cl l c) {i : Nat} (hi : c.testBit i = true) : Sub ((openD l).nd.getD i 0) c :=
  (Inv.close hc 5000 _ (Inv.zero c _) i).1 hi
theorem nd_fix {l : Ld} (o : LdOk l) : ∀ p ∈ l.wth, joinStep (openD l).nd p = (openD l).nd :=
  foldl_fix _ _ (closeF_fix l 5000 _ (by have := msr_le (ndI l.sacks.length) (ndI_len _); omega) (ndI_small _))
theorem nd_len {l : Ld} : (openD l).nd.length = 9 := by show (closeF l 5000 _).length = 9; rw [closeF_len, ndI_len]
structure RightP (l : Ld) (c : Nat) : Prop where
  w : (sumW (wts l) c : Int) ≤ l.bears
  wp : Cl l c
  ap : ∀ p ∈ l.apart, ¬ (c.testBit p.1.toNat = true ∧ c.testBit p.2.toNat = true)
end GA
end

section
namespace GA
open Go Go.RowKit Go.Proofs
set_option maxRecDepth 8000
set_option linter.unusedVariables false
set_option linter.unusedSimpArgs false

theorem diff_half (a b : Nat) : diff a b / 2 = diff (a / 2) (b / 2) := bit_ext fun i => by
  rw [← Nat.testBit_succ, diff_bit, diff_bit, Nat.testBit_succ, Nat.testBit_succ]
theorem diff_odd {a b : Nat} (h : Sub b a) : diff a b % 2 + b % 2 = a % 2 := by
  have e := diff_bit a b 0
  have hs := sub_odd h
  simp only [Nat.testBit_zero] at e
  rcases Nat.mod_two_eq_zero_or_one a with ha | ha <;> rcases Nat.mod_two_eq_zero_or_one b with hb | hb <;> rcases Nat.mod_two_eq_zero_or_one (diff a b) with hc | hc <;> simp [ha, hb, hc] at e hs ⊢
theorem sumW_split : ∀ (ws : List Nat) (s c : Nat), Sub c s → sumW ws (diff s c) + sumW ws c = sumW ws s
  | [], _, _, _ => rfl
  | w :: ws, s, c, h => by
    have ih := sumW_split ws (s / 2) (c / 2) (sub_half h)
    have ho := diff_odd h
    unfold sumW
    rw [diff_half]
    rcases Nat.mod_two_eq_zero_or_one s with ha | ha <;> rcases Nat.mod_two_eq_zero_or_one c with hb | hb <;> rcases Nat.mod_two_eq_zero_or_one (diff s c) with hc | hc <;> simp only [ha, hb, hc] at ho ⊢ <;> simp <;> omega
theorem Pk.sum {R : Nat → Bool} {n set : Nat} (h : Pk R n set) (ws : List Nat) (k : Nat) (hR : ∀ c, Sub c set → R c = true → sumW ws c ≤ k) : sumW ws set ≤ n * k := by
  induction h with
  | nil => rw [sumW_zero]; exact Nat.zero_le _
  | @cons n set c hr hs h0 t ih =>
    have h1 := ih fun c' hc' => hR c' (hc'.trans (sub_diff _ _))
    have h2 := hR c hs hr
    have h3 := sumW_split ws set c hs
    rw [Nat.succ_mul]; omega
theorem ones_pos : ∀ (k c : Nat), c ≠ 0 → c < 2 ^ k → 1 ≤ sumW (List.replicate k 1) c
  | 0, c, h0, h => absurd (by simpa using h) h0
  | k + 1, c, h0, h => by
    show 1 ≤ sumW (1 :: List.replicate k 1) c
    unfold sumW
    rcases Nat.mod_two_eq_zero_or_one c with hc | hc
    · have := ones_pos k (c / 2) (by omega) (by rw [Nat.pow_succ] at h; omega)
      omega
    · rw [if_pos hc]; omega
theorem Pk.count {R : Nat → Bool} {n set k : Nat} (h : Pk R n set) (hs : set < 2 ^ k) : n ≤ sumW (List.replicate k 1) set := by
  induction h with
  | nil => exact Nat.zero_le _
  | @cons n set c hr hsb h0 t ih =>
    have h1 := ih (Nat.lt_of_le_of_lt (diff_le _ _) hs)
    have h2 := ones_pos k c h0 (Nat.lt_of_le_of_lt hsb.le hs)
    have h3 := sumW_split (List.replicate k 1) set c hsb
    omega
theorem ones_le (k set : Nat) : sumW (List.replicate k 1) set ≤ k := by
  induction k generalizing set with
  | zero => exact Nat.zero_le _
  | succ k ih =>
    show sumW (1 :: List.replicate k 1) set ≤ _
    have := ih (set / 2)
    unfold sumW; split <;> omega
theorem Pk.len {R : Nat → Bool} {n k : Nat} (h : Pk R n (2 ^ k - 1)) : n ≤ k := by
  have hp := Nat.two_pow_pos k
  have := h.count (k := k) (by omega)
  have := ones_le k (2 ^ k - 1)
  omega
theorem Pk.tail {R R' : Nat → Bool} (hR : ∀ c, R c = true → R' (c / 2) = true) {n set : Nat} (h : Pk R n set) : ∃ k, k ≤ n ∧ Pk R' k (set / 2) := by
  induction h with
  | nil => exact ⟨0, Nat.le_refl _, .nil⟩
  | @cons n set c hr hs h0 t ih =>
    obtain ⟨k, hk, hp⟩ := ih
    rw [diff_half] at hp
    by_cases hc : c / 2 = 0
    · refine ⟨k, by omega, ?_⟩
      have e : diff (set / 2) (c / 2) = set / 2 := by
        rw [hc]; exact bit_ext fun i => by rw [diff_bit, Nat.zero_testBit]; cases (set / 2).testBit i <;> rfl
      rwa [e] at hp
    · exact ⟨k + 1, by omega, .cons (c / 2) (hR c hr) (sub_half hs) hc hp⟩
theorem RightP.free {l : Ld} (ha : l.apart = []) (hw : l.wth = []) {c : Nat} : RightP l c ↔ (sumW (wts l) c : Int) ≤ l.bears :=
  ⟨fun h => h.w, fun h => ⟨h, fun p hp => by rw [hw] at hp; simp at hp, fun p hp => by rw [ha] at hp; simp at hp⟩⟩
end GA
end

section
namespace GA
open Go Go.RowKit Go.Proofs
set_option maxRecDepth 8000
set_option linter.unusedVariables false
set_option linter.unusedSimpArgs false

theorem XPut.ints {els : List AV} {n e : Nat} {k : List AV → Prop} (xs : List Int) (x : Int) (hE : els = GA.ints xs) (h1 : n = xs.length) (h2 : e < n) (h : k (GA.ints (xs.set e x))) : XPut els n e (.int .i64 x) k := by
  subst hE; exact XPut.map (f := .int .i64) x rfl h1 h2 h
end GA
end

section
namespace GA
open Go Go.RowKit
set_option linter.unusedVariables false

section
variable {P : Program} {T : Tab} {N : Nat} {ρ : Option Nat} {H : List Blk} {σ : St} {D : List Nat}
theorem Walk.place {c : Code} {Q : Post} (x : Walk P N ρ c Q D σ (H ++ [.free])) : Walk P N ρ c Q D σ H := by
  constructor
  intro E h β a w s
  obtain ⟨s', X⟩ := s.sr.push (w' := w) s.sr.env (fun _ _ => rfl) (.pointer none) .free (by intro b hb; simp [anchor] at hb) (fun _ => trivial)
  exact wpIn_mono (x.o E h _ a w ⟨s', fun u r e => let ⟨v, h1, h2⟩ := s.fits u r e; ⟨v, h1, X.rep h2⟩, s.size, s.df.ext X⟩) fun _ _ _ => Conc.ext X
theorem XFree.at {H : List Blk} {b : Blk} {k : Nat → List Blk → Prop} (i : Nat) (h1 : lget H i = some .free) (h2 : hset H i b fun H' => k i H') : XFree H b k := ⟨i, h1, h2⟩
end
end GA
end

section
namespace GA
open Go Go.RowKit Go.Proofs
set_option pp.deepTerms true
set_option maxRecDepth 8000
set_option linter.unusedVariables false
set_option linter.unusedSimpArgs false

theorem dup_sk (nl : Bool) (xs : List Sk) (hx : xs.length ≤ 100000) : Comp Try.prog 83 [.sl nl (xs.map skA)] (.sl false (xs.map skA)) := by
  refine Comp.body (T := tab) (res := [.tmp 2]) tab_ok [] Try.func83 rfl (by kernel_rfl) Try.ntmps83 rfl (by simp only [List.length_cons, List.length_nil]; decide) (by simp only [lowL, AV.low, lowSk]; rfl) ?_; conv => whnf
  refine XHold.mk ⟨by omega, by simp, by unfold Room; simp; omega⟩ ?_
  conv => whnf
  refine XHold.mk (wideSk xs) ?_
  conv => whnf
  refine XHold.mk ⟨rfl, rfl, by unfold Room; simp; omega⟩ ?_
  conv => whnf
  exact ⟨Froz.grow rfl (by simp) (lowSk xs)⟩
theorem dup_pr (nl : Bool) (xs : List (Int × Int)) (hx : xs.length ≤ 100000) : Comp Try.prog 84 [.sl nl (xs.map prA)] (.sl false (xs.map prA)) := by
  refine Comp.body (T := tab) (res := [.tmp 2]) tab_ok [] Try.func84 rfl (by kernel_rfl) Try.ntmps84 rfl (by simp only [List.length_cons, List.length_nil]; decide) (by simp only [lowL, AV.low, lowPr]; rfl) ?_; conv => whnf
  refine XHold.mk ⟨by omega, by simp, by unfold Room; simp; omega⟩ ?_
  conv => whnf
  refine XHold.mk (widePr xs) ?_
  conv => whnf
  refine XHold.mk ⟨rfl, rfl, by unfold Room; simp; omega⟩ ?_
  conv => whnf
  exact ⟨Froz.grow rfl (by simp) (lowPr xs)⟩
def ownL (l : Ld) : Ld := ⟨l.bears, l.shrink, false, l.sacks, false, l.apart, false, l.wth⟩
theorem own_c (l : Ld) (o : LdW l) : Comp Try.prog 20 [ldA l] (ldA (ownL l)) := by
  have h1 := o.h1
  have h2 := o.h2
  have h3 := o.h3
  refine Comp.body (T := tab) (res := [.cell 2 26]) tab_ok [1] Try.func20 rfl (by kernel_rfl) Try.ntmps20 rfl (by simp only [List.length_cons, List.length_nil]; decide) (by simp only [lowL, AV.low, ldL]; rfl) ?_; conv => whnf
  repeat' first | ((with_reducible first | apply XBr.tt | apply XBr.ff | apply Chk.go | apply ChkA.go | apply ChkF.go | apply ChkB.go | apply XArr.pim0 | apply XArr.pim1); conv => whnf) | (with_reducible apply XBr.not) | ((with_reducible apply XBr.dec) <;> (intro h; first | (exfalso; omega) | ((try simp only [List.length_map] at h); first | (exfalso; omega) | (conv => whnf)))) | ((with_reducible first | apply XBr.beq | apply XBr.bne) <;> (intro h; first | (exfalso; omega) | (conv => whnf))) | ((with_reducible refine XInt.i64 (by omega) (by omega) ?_); conv => whnf) | ((with_reducible refine XHold.mk ?_ ?_); (first | omega | rfl | decide | exact ⟨rfl, by decide, rfl⟩ | exact wideI _ | exact widePr _ | exact wideSk _ | (unfold Room; constructor <;> ((try simp) <;> omega)) | exact ⟨rfl, by simp only [List.length_map], by unfold Room; constructor <;> ((try simp) <;> omega)⟩ | exact ⟨by omega, by omega, by unfold Room; constructor <;> ((try simp) <;> omega)⟩); conv => whnf) | ((first | ((with_reducible refine XIx.nat ?_ ?_ ?_); omega; (intro _; rfl)) | ((with_reducible refine XIx.map ?_ ?_ ?_ ?_); omega; omega; (intro _; rfl))); conv => whnf) | (with_reducible apply XAnd.mk) | (exact XSame.mk rfl rfl) | (exact XSame.mk (by first | rfl | (simp only [List.map_append, List.length_append, List.length_map]; done) | (simp only [List.map_append, List.length_append, List.length_map]; rfl)) (by first | rfl | (simp only [List.map_append]; done) | (simp only [List.map_append]; rfl))) | (with_reducible exact trivial) | ((first | (with_reducible refine xdrop_app (by rw [List.length_map]; omega) ?_) | (with_reducible refine XDrop.desk (by assumption) ?_) | (with_reducible first | refine XArr.ints (by omega) (by omega) (by omega) ?_ | refine XArr.intsA (by omega) (by omega) (by omega) ?_) | ((with_reducible first | refine XArr.nats ?_ ?_ ?_ | refine XArr.natsA ?_ ?_ ?_ | refine XArr.ptr ?_ ?_ ?_); omega; omega)); conv => whnf) | ((with_reducible apply XBr.mk') <;> (intro h; conv => whnf))
  apply Walk.drawX tab_ok mixed_ok [] [10, 12, 14] (hsC [[.cells (ldC l), .cells [.int .i64 0, .int .i64 0, .sl true [], .sl true [], .sl true []]],
    [.cells (ldC { l with nls := false }), .cells [.int .i64 0, .int .i64 0, .sl true [], .sl true [], .sl true []]],
    [.cells (ldC { l with nls := false, nla := false }), .cells [.int .i64 0, .int .i64 0, .sl true [], .sl true [], .sl true []]],
    [.cells (ldC { l with nls := false, nla := false, nlw := false }), .cells [.int .i64 0, .int .i64 0, .sl true [], .sl true [], .sl true []]]]) [_, _, _, _, _, _, _, _, _, _, _, _, _, _, _] (by kernel_rfl) rfl
  · skip
    repeat' first | ((with_reducible first | apply XBr.tt | apply XBr.ff | apply Chk.go | apply ChkA.go | apply ChkF.go | apply ChkB.go | apply XArr.pim0 | apply XArr.pim1); conv => whnf) | (with_reducible apply XBr.not) | ((with_reducible apply XBr.dec) <;> (intro h; first | (exfalso; omega) | ((try simp only [List.length_map] at h); first | (exfalso; omega) | (conv => whnf)))) | ((with_reducible first | apply XBr.beq | apply XBr.bne) <;> (intro h; first | (exfalso; omega) | (conv => whnf))) | ((with_reducible refine XInt.i64 (by omega) (by omega) ?_); conv => whnf) | ((with_reducible refine XHold.mk ?_ ?_); (first | omega | rfl | decide | exact ⟨rfl, by decide, rfl⟩ | exact wideI _ | exact widePr _ | exact wideSk _ | (unfold Room; constructor <;> ((try simp) <;> omega)) | exact ⟨rfl, by simp only [List.length_map], by unfold Room; constructor <;> ((try simp) <;> omega)⟩ | exact ⟨by omega, by omega, by unfold Room; constructor <;> ((try simp) <;> omega)⟩); conv => whnf) | ((first | ((with_reducible refine XIx.nat ?_ ?_ ?_); omega; (intro _; rfl)) | ((with_reducible refine XIx.map ?_ ?_ ?_ ?_); omega; omega; (intro _; rfl))); conv => whnf) | (with_reducible apply XAnd.mk) | (exact XSame.mk rfl rfl) | (exact XSame.mk (by first | rfl | (simp only [List.map_append, List.length_append, List.length_map]; done) | (simp only [List.map_append, List.length_append, List.length_map]; rfl)) (by first | rfl | (simp only [List.map_append]; done) | (simp only [List.map_append]; rfl))) | (with_reducible exact trivial) | ((first | (with_reducible refine xdrop_app (by rw [List.length_map]; omega) ?_) | (with_reducible refine XDrop.desk (by assumption) ?_) | (with_reducible first | refine XArr.ints (by omega) (by omega) (by omega) ?_ | refine XArr.intsA (by omega) (by omega) (by omega) ?_) | ((with_reducible first | refine XArr.nats ?_ ?_ ?_ | refine XArr.natsA ?_ ?_ ?_ | refine XArr.ptr ?_ ?_ ?_); omega; omega) | (refine XCall.ret (dup_sk _ l.sacks h1) ?_) | (refine XCall.ret (dup_pr _ l.apart (by omega)) ?_) | (refine XCall.ret (dup_pr _ l.wth (by omega)) ?_)); conv => whnf) | ((with_reducible apply XBr.mk') <;> (intro h; conv => whnf))
  · skip
    repeat' first | ((with_reducible first | apply XBr.tt | apply XBr.ff | apply Chk.go | apply ChkA.go | apply ChkF.go | apply ChkB.go | apply XArr.pim0 | apply XArr.pim1); conv => whnf) | (with_reducible apply XBr.not) | ((with_reducible apply XBr.dec) <;> (intro h; first | (exfalso; omega) | ((try simp only [List.length_map] at h); first | (exfalso; omega) | (conv => whnf)))) | ((with_reducible first | apply XBr.beq | apply XBr.bne) <;> (intro h; first | (exfalso; omega) | (conv => whnf))) | ((with_reducible refine XInt.i64 (by omega) (by omega) ?_); conv => whnf) | ((with_reducible refine XHold.mk ?_ ?_); (first | omega | rfl | decide | exact ⟨rfl, by decide, rfl⟩ | exact wideI _ | exact widePr _ | exact wideSk _ | (unfold Room; constructor <;> ((try simp) <;> omega)) | exact ⟨rfl, by simp only [List.length_map], by unfold Room; constructor <;> ((try simp) <;> omega)⟩ | exact ⟨by omega, by omega, by unfold Room; constructor <;> ((try simp) <;> omega)⟩); conv => whnf) | ((first | ((with_reducible refine XIx.nat ?_ ?_ ?_); omega; (intro _; rfl)) | ((with_reducible refine XIx.map ?_ ?_ ?_ ?_); omega; omega; (intro _; rfl))); conv => whnf) | (with_reducible apply XAnd.mk) | (exact XSame.mk rfl rfl) | (exact XSame.mk (by first | rfl | (simp only [List.map_append, List.length_append, List.length_map]; done) | (simp only [List.map_append, List.length_append, List.length_map]; rfl)) (by first | rfl | (simp only [List.map_append]; done) | (simp only [List.map_append]; rfl))) | (with_reducible exact trivial) | ((first | (with_reducible refine xdrop_app (by rw [List.length_map]; omega) ?_) | (with_reducible refine XDrop.desk (by assumption) ?_) | (with_reducible first | refine XArr.ints (by omega) (by omega) (by omega) ?_ | refine XArr.intsA (by omega) (by omega) (by omega) ?_) | ((with_reducible first | refine XArr.nats ?_ ?_ ?_ | refine XArr.natsA ?_ ?_ ?_ | refine XArr.ptr ?_ ?_ ?_); omega; omega) | (refine XCall.ret (dup_sk _ l.sacks h1) ?_) | (refine XCall.ret (dup_pr _ l.apart (by omega)) ?_) | (refine XCall.ret (dup_pr _ l.wth (by omega)) ?_)); conv => whnf) | ((with_reducible apply XBr.mk') <;> (intro h; conv => whnf))
  · conv => whnf
    repeat' first | ((with_reducible first | apply XBr.tt | apply XBr.ff | apply Chk.go | apply ChkA.go | apply ChkF.go | apply ChkB.go | apply XArr.pim0 | apply XArr.pim1); conv => whnf) | (with_reducible apply XBr.not) | ((with_reducible apply XBr.dec) <;> (intro h; first | (exfalso; omega) | ((try simp only [List.length_map] at h); first | (exfalso; omega) | (conv => whnf)))) | ((with_reducible first | apply XBr.beq | apply XBr.bne) <;> (intro h; first | (exfalso; omega) | (conv => whnf))) | ((with_reducible refine XInt.i64 (by omega) (by omega) ?_); conv => whnf) | ((with_reducible refine XHold.mk ?_ ?_); (first | omega | rfl | decide | exact ⟨rfl, by decide, rfl⟩ | exact wideI _ | exact widePr _ | exact wideSk _ | (unfold Room; constructor <;> ((try simp) <;> omega)) | exact ⟨rfl, by simp only [List.length_map], by unfold Room; constructor <;> ((try simp) <;> omega)⟩ | exact ⟨by omega, by omega, by unfold Room; constructor <;> ((try simp) <;> omega)⟩); conv => whnf) | ((first | ((with_reducible refine XIx.nat ?_ ?_ ?_); omega; (intro _; rfl)) | ((with_reducible refine XIx.map ?_ ?_ ?_ ?_); omega; omega; (intro _; rfl))); conv => whnf) | (with_reducible apply XAnd.mk) | (exact XSame.mk rfl rfl) | (exact XSame.mk (by first | rfl | (simp only [List.map_append, List.length_append, List.length_map]; done) | (simp only [List.map_append, List.length_append, List.length_map]; rfl)) (by first | rfl | (simp only [List.map_append]; done) | (simp only [List.map_append]; rfl))) | (with_reducible exact trivial) | ((first | (with_reducible refine xdrop_app (by rw [List.length_map]; omega) ?_) | (with_reducible refine XDrop.desk (by assumption) ?_) | (with_reducible first | refine XArr.ints (by omega) (by omega) (by omega) ?_ | refine XArr.intsA (by omega) (by omega) (by omega) ?_) | ((with_reducible first | refine XArr.nats ?_ ?_ ?_ | refine XArr.natsA ?_ ?_ ?_ | refine XArr.ptr ?_ ?_ ?_); omega; omega)); conv => whnf) | ((with_reducible apply XBr.mk') <;> (intro h; conv => whnf))
    exact ⟨Froz.low (ldL (ownL l))⟩
end GA
end

section
namespace GA
open Go Go.RowKit Go.Proofs
set_option pp.deepTerms true
set_option maxRecDepth 8000
set_option linter.unusedVariables false
set_option linter.unusedSimpArgs false

def thL (l : Ld) : Ld := ⟨l.bears, l.shrink, l.sacks.isEmpty, l.sacks, l.nla, l.apart, l.nlw, l.wth⟩
theorem theirs_c (l : Ld) (o : LdW l) : Comp Try.prog 39 [ldA l] (ldA (thL l)) := by
  have h1 := o.h1
  refine Comp.body (T := tab) (res := [.cell 2 69]) tab_ok [2, 3] Try.func39 rfl (by kernel_rfl) Try.ntmps39 rfl (by simp only [List.length_cons, List.length_nil]; decide) (by simp only [lowL, AV.low, ldL]; rfl) ?_; conv => whnf
  repeat' first | ((with_reducible first | apply XBr.tt | apply XBr.ff | apply Chk.go | apply ChkA.go | apply ChkF.go | apply ChkB.go | apply XArr.pim0 | apply XArr.pim1); conv => whnf) | (with_reducible apply XBr.not) | ((with_reducible apply XBr.dec) <;> (intro h; first | (exfalso; omega) | ((try simp only [List.length_map] at h); first | (exfalso; omega) | (conv => whnf)))) | ((with_reducible first | apply XBr.beq | apply XBr.bne) <;> (intro h; first | (exfalso; omega) | (conv => whnf))) | ((with_reducible refine XInt.i64 (by omega) (by omega) ?_); conv => whnf) | ((with_reducible refine XHold.mk ?_ ?_); (first | omega | rfl | decide | exact ⟨rfl, by decide, rfl⟩ | exact wideI _ | exact widePr _ | exact wideSk _ | (unfold Room; constructor <;> ((try simp) <;> omega)) | exact ⟨rfl, by simp only [List.length_map], by unfold Room; constructor <;> ((try simp) <;> omega)⟩ | exact ⟨by omega, by omega, by unfold Room; constructor <;> ((try simp) <;> omega)⟩); conv => whnf) | ((first | ((with_reducible refine XIx.nat ?_ ?_ ?_); omega; (intro _; rfl)) | ((with_reducible refine XIx.map ?_ ?_ ?_ ?_); omega; omega; (intro _; rfl))); conv => whnf) | (with_reducible apply XAnd.mk) | (exact XSame.mk rfl rfl) | (exact XSame.mk (by first | rfl | (simp only [List.map_append, List.length_append, List.length_map]; done) | (simp only [List.map_append, List.length_append, List.length_map]; rfl)) (by first | rfl | (simp only [List.map_append]; done) | (simp only [List.map_append]; rfl))) | (with_reducible exact trivial) | ((first | (with_reducible refine xdrop_app (by rw [List.length_map]; omega) ?_) | (with_reducible refine XDrop.desk (by assumption) ?_) | (with_reducible first | refine XArr.ints (by omega) (by omega) (by omega) ?_ | refine XArr.intsA (by omega) (by omega) (by omega) ?_) | ((with_reducible first | refine XArr.nats ?_ ?_ ?_ | refine XArr.natsA ?_ ?_ ?_ | refine XArr.ptr ?_ ?_ ?_); omega; omega)); conv => whnf) | ((with_reducible apply XBr.mk') <;> (intro h; conv => whnf))
  refine Walk.nilcell 1 2 152 rfl rfl ?_
  refine Walk.loopG tab_ok [] (fun k : Nat => k ≤ l.sacks.length) (fun k => [(2, .ptr 0 0), (3, .ptr 1 0), (16, .sl l.nls (l.sacks.map skA)), (17, natA l.sacks.length), (18, natA k)])
    (fun k => [.cells [.int .i64 0, .int .i64 0, .sl true [], .sl true [], .sl true []], .cells [.int .i64 l.bears, .int .i64 l.shrink, .gr 2 k, .sl l.nla (l.apart.map prA), .sl l.nlw (l.wth.map prA)], .grow 152 (l.sacks.take k).isEmpty ((l.sacks.take k).map skA)])
    (fun k => l.sacks.length - k) 0 (Nat.zero_le _) rfl ⟨rfl, rfl, rfl, congrArg (fun n : Nat => some (AV.int .i64 n)) (by rw [List.length_map]), rfl, trivial⟩ ?_ ?_ ?_
  · intro k _
    constructor
    · intro x hx; simp only [List.mem_cons, List.not_mem_nil, or_false] at hx
      rcases hx with rfl | rfl | rfl <;> first | exact lowSk _ | (simp only [Blk.low, lowL, AV.low, lowPr]; rfl)
    · intro p hp; simp only [List.mem_cons, List.not_mem_nil, or_false] at hp; rcases hp with rfl | rfl | rfl | rfl | rfl <;> first | exact lowSk _ | rfl
  · intro k _; exact Nat.le_refl _
  intro k hk
  have hl : (l.sacks.take k).length = k := by rw [List.length_take]; omega
  have hnx := fun h => take_next (xs := l.sacks) (i := k) h
  have hall : k = l.sacks.length → l.sacks.take k = l.sacks := fun h => by rw [h, List.take_length]
  generalize l.sacks.take k = ss at hl hnx hall
  conv => whnf
  repeat' first | ((with_reducible first | apply XBr.tt | apply XBr.ff | apply Chk.go | apply ChkA.go | apply ChkF.go | apply ChkB.go | apply XArr.pim0 | apply XArr.pim1); conv => whnf) | (with_reducible apply XBr.not) | ((with_reducible apply XBr.dec) <;> (intro h; first | (exfalso; omega) | ((try simp only [List.length_map] at h); first | (exfalso; omega) | (conv => whnf)))) | ((with_reducible first | apply XBr.beq | apply XBr.bne) <;> (intro h; first | (exfalso; omega) | (conv => whnf))) | ((with_reducible refine XInt.i64 (by omega) (by omega) ?_); conv => whnf) | ((with_reducible refine XHold.mk ?_ ?_); (first | omega | rfl | decide | exact ⟨rfl, by decide, rfl⟩ | exact wideI _ | exact widePr _ | exact wideSk _ | (unfold Room; constructor <;> ((try simp) <;> omega)) | exact ⟨rfl, by simp only [List.length_map], by unfold Room; constructor <;> ((try simp) <;> omega)⟩ | exact ⟨by omega, by omega, by unfold Room; constructor <;> ((try simp) <;> omega)⟩); conv => whnf) | ((first | ((with_reducible refine XIx.nat ?_ ?_ ?_); omega; (intro _; rfl)) | ((with_reducible refine XIx.map ?_ ?_ ?_ ?_); omega; omega; (intro _; rfl))); conv => whnf) | (with_reducible apply XAnd.mk) | (exact XSame.mk rfl rfl) | (exact XSame.mk (by first | rfl | (simp only [List.map_append, List.length_append, List.length_map]; done) | (simp only [List.map_append, List.length_append, List.length_map]; rfl)) (by first | rfl | (simp only [List.map_append]; done) | (simp only [List.map_append]; rfl))) | (with_reducible exact trivial) | ((first | (with_reducible refine xdrop_app (by rw [List.length_map]; omega) ?_) | (with_reducible refine XDrop.desk (by assumption) ?_) | (with_reducible first | refine XArr.ints (by omega) (by omega) (by omega) ?_ | refine XArr.intsA (by omega) (by omega) (by omega) ?_) | ((with_reducible first | refine XArr.nats ?_ ?_ ?_ | refine XArr.natsA ?_ ?_ ?_ | refine XArr.ptr ?_ ?_ ?_); omega; omega)); conv => whnf) | ((refine XHold.mk ⟨rfl, by rw [List.length_map]; omega, by unfold Room; constructor <;> ((try simp) <;> omega)⟩ ?_); conv => whnf) | ((with_reducible apply XBr.mk') <;> (intro h; conv => whnf))
  · refine XAgainG.go (k + 1) [.cells [.int .i64 (l.sacks.getD k default).m, .int .i64 (l.sacks.getD k default).o]] (by omega) (by omega) ?_ ⟨rfl, rfl, rfl, rfl, rfl, trivial⟩
    rw [hnx (by omega)]; simp only [List.map_append, isEmpty_app]; rfl
  · have e := hall (by omega)
    subst e
    obtain rfl : k = l.sacks.length := by omega
    exact ⟨Froz.agg (rs' := ldC (thL l)) (by intro x hx; simp only [ldC, List.mem_cons, List.not_mem_nil, or_false] at hx; rcases hx with rfl | rfl | rfl | rfl | rfl <;> rfl) (.cons (Froz.low rfl) (.cons (Froz.low rfl) (.cons (Froz.grow (i := 2) (n := l.sacks.length) (els := l.sacks.map skA) rfl (by rw [List.length_map]) (lowSk _)) (.cons (Froz.low (lowPr _)) (.cons (Froz.low (lowPr _)) .nil)))))⟩

theorem equal_sk (n1 n2 : Bool) (xs : List (Sk)) (hx : xs.length ≤ 100000) : Comp Try.prog 140 [.sl n1 (xs.map skA), .sl n2 (xs.map skA)] (.bool true) := by
  refine Comp.body (T := tab) (res := [.tmp 4]) tab_ok [] Try.func140 rfl (by kernel_rfl) Try.ntmps140 rfl (by simp only [List.length_cons, List.length_nil]; decide) (by simp only [lowL, AV.low, lowSk]; rfl) ?_; conv => whnf
  repeat' first | ((with_reducible first | apply XBr.tt | apply XBr.ff | apply Chk.go | apply ChkA.go | apply ChkF.go | apply ChkB.go | apply XArr.pim0 | apply XArr.pim1); conv => whnf) | (with_reducible apply XBr.not) | ((with_reducible apply XBr.dec) <;> (intro h; first | (exfalso; omega) | ((try simp only [List.length_map] at h); first | (exfalso; omega) | (conv => whnf)))) | ((with_reducible first | apply XBr.beq | apply XBr.bne) <;> (intro h; first | (exfalso; omega) | (conv => whnf))) | ((with_reducible refine XInt.i64 (by omega) (by omega) ?_); conv => whnf) | ((with_reducible refine XHold.mk ?_ ?_); (first | omega | rfl | decide | exact ⟨rfl, by decide, rfl⟩ | exact wideI _ | exact widePr _ | exact wideSk _ | (unfold Room; constructor <;> ((try simp) <;> omega)) | exact ⟨rfl, by simp only [List.length_map], by unfold Room; constructor <;> ((try simp) <;> omega)⟩ | exact ⟨by omega, by omega, by unfold Room; constructor <;> ((try simp) <;> omega)⟩); conv => whnf) | ((first | ((with_reducible refine XIx.nat ?_ ?_ ?_); omega; (intro _; rfl)) | ((with_reducible refine XIx.map ?_ ?_ ?_ ?_); omega; omega; (intro _; rfl))); conv => whnf) | (with_reducible apply XAnd.mk) | (exact XSame.mk rfl rfl) | (exact XSame.mk (by first | rfl | (simp only [List.map_append, List.length_append, List.length_map]; done) | (simp only [List.map_append, List.length_append, List.length_map]; rfl)) (by first | rfl | (simp only [List.map_append]; done) | (simp only [List.map_append]; rfl))) | (with_reducible exact trivial) | ((first | (with_reducible refine xdrop_app (by rw [List.length_map]; omega) ?_) | (with_reducible refine XDrop.desk (by assumption) ?_) | (with_reducible first | refine XArr.ints (by omega) (by omega) (by omega) ?_ | refine XArr.intsA (by omega) (by omega) (by omega) ?_) | ((with_reducible first | refine XArr.nats ?_ ?_ ?_ | refine XArr.natsA ?_ ?_ ?_ | refine XArr.ptr ?_ ?_ ?_); omega; omega)); conv => whnf) | ((with_reducible apply XBr.mk') <;> (intro h; conv => whnf))
  refine Walk.loop tab_ok [] (fun i : Nat => i ≤ xs.length) (fun i => [(0, .sl n1 (xs.map skA)), (1, .sl n2 (xs.map skA)), (12, .int .i64 xs.length), (13, .int .i64 i)]) (fun _ => []) (fun i => xs.length - i) 0 (Nat.zero_le _) rfl ⟨rfl, rfl, by simp only [List.length_map]; rfl, rfl, trivial⟩ ?_
  intro i hi
  conv => whnf
  repeat' first | ((with_reducible first | apply XBr.tt | apply XBr.ff | apply Chk.go | apply ChkA.go | apply ChkF.go | apply ChkB.go | apply XArr.pim0 | apply XArr.pim1); conv => whnf) | (with_reducible apply XBr.not) | ((with_reducible apply XBr.dec) <;> (intro h; first | (exfalso; omega) | ((try simp only [List.length_map] at h); first | (exfalso; omega) | (conv => whnf)))) | ((with_reducible first | apply XBr.beq | apply XBr.bne) <;> (intro h; first | (exfalso; omega) | (conv => whnf))) | ((with_reducible refine XInt.i64 (by omega) (by omega) ?_); conv => whnf) | ((with_reducible refine XHold.mk ?_ ?_); (first | omega | rfl | decide | exact ⟨rfl, by decide, rfl⟩ | exact wideI _ | exact widePr _ | exact wideSk _ | (unfold Room; constructor <;> ((try simp) <;> omega)) | exact ⟨rfl, by simp only [List.length_map], by unfold Room; constructor <;> ((try simp) <;> omega)⟩ | exact ⟨by omega, by omega, by unfold Room; constructor <;> ((try simp) <;> omega)⟩); conv => whnf) | ((first | ((with_reducible refine XIx.nat ?_ ?_ ?_); omega; (intro _; rfl)) | ((with_reducible refine XIx.map ?_ ?_ ?_ ?_); omega; omega; (intro _; rfl))); conv => whnf) | (with_reducible apply XAnd.mk) | (exact XSame.mk rfl rfl) | (exact XSame.mk (by first | rfl | (simp only [List.map_append, List.length_append, List.length_map]; done) | (simp only [List.map_append, List.length_append, List.length_map]; rfl)) (by first | rfl | (simp only [List.map_append]; done) | (simp only [List.map_append]; rfl))) | (with_reducible exact trivial) | ((first | (with_reducible refine xdrop_app (by rw [List.length_map]; omega) ?_) | (with_reducible refine XDrop.desk (by assumption) ?_) | (with_reducible first | refine XArr.ints (by omega) (by omega) (by omega) ?_ | refine XArr.intsA (by omega) (by omega) (by omega) ?_) | ((with_reducible first | refine XArr.nats ?_ ?_ ?_ | refine XArr.natsA ?_ ?_ ?_ | refine XArr.ptr ?_ ?_ ?_); omega; omega)); conv => whnf) | ((with_reducible apply XBr.mk') <;> (intro h; conv => whnf))
  · apply Walk.drawX tab_ok mixed_ok [] [] (hsK _) [_, _, _, _, _, _, _, _, .bool false] (by kernel_rfl) rfl
    · skip
      repeat' first | ((with_reducible first | apply XBr.tt | apply XBr.ff | apply Chk.go | apply ChkA.go | apply ChkF.go | apply ChkB.go | apply XArr.pim0 | apply XArr.pim1); conv => whnf) | (with_reducible apply XBr.not) | ((with_reducible apply XBr.dec) <;> (intro h; first | (exfalso; omega) | ((try simp only [List.length_map] at h); first | (exfalso; omega) | (conv => whnf)))) | ((with_reducible first | apply XBr.beq | apply XBr.bne) <;> (intro h; first | (exfalso; omega) | (conv => whnf))) | ((with_reducible refine XInt.i64 (by omega) (by omega) ?_); conv => whnf) | ((with_reducible refine XHold.mk ?_ ?_); (first | omega | rfl | decide | exact ⟨rfl, by decide, rfl⟩ | exact wideI _ | exact widePr _ | exact wideSk _ | (unfold Room; constructor <;> ((try simp) <;> omega)) | exact ⟨rfl, by simp only [List.length_map], by unfold Room; constructor <;> ((try simp) <;> omega)⟩ | exact ⟨by omega, by omega, by unfold Room; constructor <;> ((try simp) <;> omega)⟩); conv => whnf) | ((first | ((with_reducible refine XIx.nat ?_ ?_ ?_); omega; (intro _; rfl)) | ((with_reducible refine XIx.map ?_ ?_ ?_ ?_); omega; omega; (intro _; rfl))); conv => whnf) | (with_reducible apply XAnd.mk) | (exact XSame.mk rfl rfl) | (exact XSame.mk (by first | rfl | (simp only [List.map_append, List.length_append, List.length_map]; done) | (simp only [List.map_append, List.length_append, List.length_map]; rfl)) (by first | rfl | (simp only [List.map_append]; done) | (simp only [List.map_append]; rfl))) | (with_reducible exact trivial) | ((first | (with_reducible refine xdrop_app (by rw [List.length_map]; omega) ?_) | (with_reducible refine XDrop.desk (by assumption) ?_) | (with_reducible first | refine XArr.ints (by omega) (by omega) (by omega) ?_ | refine XArr.intsA (by omega) (by omega) (by omega) ?_) | ((with_reducible first | refine XArr.nats ?_ ?_ ?_ | refine XArr.natsA ?_ ?_ ?_ | refine XArr.ptr ?_ ?_ ?_); omega; omega)); conv => whnf) | ((refine XEqA.mk ⟨[_, _], [_, _], rfl, rfl, rfl, rfl, ?_⟩); exact XSame.mk (congrArg AV.bool (by simp)) rfl) | ((with_reducible apply XBr.mk') <;> (intro h; conv => whnf))
    · skip
      repeat' first | ((with_reducible first | apply XBr.tt | apply XBr.ff | apply Chk.go | apply ChkA.go | apply ChkF.go | apply ChkB.go | apply XArr.pim0 | apply XArr.pim1); conv => whnf) | (with_reducible apply XBr.not) | ((with_reducible apply XBr.dec) <;> (intro h; first | (exfalso; omega) | ((try simp only [List.length_map] at h); first | (exfalso; omega) | (conv => whnf)))) | ((with_reducible first | apply XBr.beq | apply XBr.bne) <;> (intro h; first | (exfalso; omega) | (conv => whnf))) | ((with_reducible refine XInt.i64 (by omega) (by omega) ?_); conv => whnf) | ((with_reducible refine XHold.mk ?_ ?_); (first | omega | rfl | decide | exact ⟨rfl, by decide, rfl⟩ | exact wideI _ | exact widePr _ | exact wideSk _ | (unfold Room; constructor <;> ((try simp) <;> omega)) | exact ⟨rfl, by simp only [List.length_map], by unfold Room; constructor <;> ((try simp) <;> omega)⟩ | exact ⟨by omega, by omega, by unfold Room; constructor <;> ((try simp) <;> omega)⟩); conv => whnf) | ((first | ((with_reducible refine XIx.nat ?_ ?_ ?_); omega; (intro _; rfl)) | ((with_reducible refine XIx.map ?_ ?_ ?_ ?_); omega; omega; (intro _; rfl))); conv => whnf) | (with_reducible apply XAnd.mk) | (exact XSame.mk rfl rfl) | (exact XSame.mk (by first | rfl | (simp only [List.map_append, List.length_append, List.length_map]; done) | (simp only [List.map_append, List.length_append, List.length_map]; rfl)) (by first | rfl | (simp only [List.map_append]; done) | (simp only [List.map_append]; rfl))) | (with_reducible exact trivial) | ((first | (with_reducible refine xdrop_app (by rw [List.length_map]; omega) ?_) | (with_reducible refine XDrop.desk (by assumption) ?_) | (with_reducible first | refine XArr.ints (by omega) (by omega) (by omega) ?_ | refine XArr.intsA (by omega) (by omega) (by omega) ?_) | ((with_reducible first | refine XArr.nats ?_ ?_ ?_ | refine XArr.natsA ?_ ?_ ?_ | refine XArr.ptr ?_ ?_ ?_); omega; omega)); conv => whnf) | ((refine XEqA.mk ⟨[_, _], [_, _], rfl, rfl, rfl, rfl, ?_⟩); exact XSame.mk (congrArg AV.bool (by simp)) rfl) | ((with_reducible apply XBr.mk') <;> (intro h; conv => whnf))
    · conv => whnf
      repeat' first | ((with_reducible first | apply XBr.tt | apply XBr.ff | apply Chk.go | apply ChkA.go | apply ChkF.go | apply ChkB.go | apply XArr.pim0 | apply XArr.pim1); conv => whnf) | (with_reducible apply XBr.not) | ((with_reducible apply XBr.dec) <;> (intro h; first | (exfalso; omega) | ((try simp only [List.length_map] at h); first | (exfalso; omega) | (conv => whnf)))) | ((with_reducible first | apply XBr.beq | apply XBr.bne) <;> (intro h; first | (exfalso; omega) | (conv => whnf))) | ((with_reducible refine XInt.i64 (by omega) (by omega) ?_); conv => whnf) | ((with_reducible refine XHold.mk ?_ ?_); (first | omega | rfl | decide | exact ⟨rfl, by decide, rfl⟩ | exact wideI _ | exact widePr _ | exact wideSk _ | (unfold Room; constructor <;> ((try simp) <;> omega)) | exact ⟨rfl, by simp only [List.length_map], by unfold Room; constructor <;> ((try simp) <;> omega)⟩ | exact ⟨by omega, by omega, by unfold Room; constructor <;> ((try simp) <;> omega)⟩); conv => whnf) | ((first | ((with_reducible refine XIx.nat ?_ ?_ ?_); omega; (intro _; rfl)) | ((with_reducible refine XIx.map ?_ ?_ ?_ ?_); omega; omega; (intro _; rfl))); conv => whnf) | (with_reducible apply XAnd.mk) | (exact XSame.mk rfl rfl) | (exact XSame.mk (by first | rfl | (simp only [List.map_append, List.length_append, List.length_map]; done) | (simp only [List.map_append, List.length_append, List.length_map]; rfl)) (by first | rfl | (simp only [List.map_append]; done) | (simp only [List.map_append]; rfl))) | (with_reducible exact trivial) | ((first | (with_reducible refine xdrop_app (by rw [List.length_map]; omega) ?_) | (with_reducible refine XDrop.desk (by assumption) ?_) | (with_reducible first | refine XArr.ints (by omega) (by omega) (by omega) ?_ | refine XArr.intsA (by omega) (by omega) (by omega) ?_) | ((with_reducible first | refine XArr.nats ?_ ?_ ?_ | refine XArr.natsA ?_ ?_ ?_ | refine XArr.ptr ?_ ?_ ?_); omega; omega)); conv => whnf) | ((with_reducible apply XBr.mk') <;> (intro h; conv => whnf))
      exact XAgain.go (i + 1) (by omega) (by omega) rfl ⟨rfl, rfl, rfl, rfl, trivial⟩
  · exact XOut.bool rfl
theorem eq_sk (n1 n2 : Bool) (xs : List (Sk)) (hx : xs.length ≤ 100000) : Comp Try.prog 102 [.sl n1 (xs.map skA), .sl n2 (xs.map skA)] (.bool true) := by
  refine Comp.body (T := tab) (res := [.tmp 4]) tab_ok [] Try.func102 rfl (by kernel_rfl) Try.ntmps102 rfl (by simp only [List.length_cons, List.length_nil]; decide) (by simp only [lowL, AV.low, lowSk]; rfl) ?_; conv => whnf
  repeat' first | ((with_reducible first | apply XBr.tt | apply XBr.ff | apply Chk.go | apply ChkA.go | apply ChkF.go | apply ChkB.go | apply XArr.pim0 | apply XArr.pim1); conv => whnf) | (with_reducible apply XBr.not) | ((with_reducible apply XBr.dec) <;> (intro h; first | (exfalso; omega) | ((try simp only [List.length_map] at h); first | (exfalso; omega) | (conv => whnf)))) | ((with_reducible first | apply XBr.beq | apply XBr.bne) <;> (intro h; first | (exfalso; omega) | (conv => whnf))) | ((with_reducible refine XInt.i64 (by omega) (by omega) ?_); conv => whnf) | ((with_reducible refine XHold.mk ?_ ?_); (first | omega | rfl | decide | exact ⟨rfl, by decide, rfl⟩ | exact wideI _ | exact widePr _ | exact wideSk _ | (unfold Room; constructor <;> ((try simp) <;> omega)) | exact ⟨rfl, by simp only [List.length_map], by unfold Room; constructor <;> ((try simp) <;> omega)⟩ | exact ⟨by omega, by omega, by unfold Room; constructor <;> ((try simp) <;> omega)⟩); conv => whnf) | ((first | ((with_reducible refine XIx.nat ?_ ?_ ?_); omega; (intro _; rfl)) | ((with_reducible refine XIx.map ?_ ?_ ?_ ?_); omega; omega; (intro _; rfl))); conv => whnf) | (with_reducible apply XAnd.mk) | (exact XSame.mk rfl rfl) | (exact XSame.mk (by first | rfl | (simp only [List.map_append, List.length_append, List.length_map]; done) | (simp only [List.map_append, List.length_append, List.length_map]; rfl)) (by first | rfl | (simp only [List.map_append]; done) | (simp only [List.map_append]; rfl))) | (with_reducible exact trivial) | ((first | (with_reducible refine xdrop_app (by rw [List.length_map]; omega) ?_) | (with_reducible refine XDrop.desk (by assumption) ?_) | (with_reducible first | refine XArr.ints (by omega) (by omega) (by omega) ?_ | refine XArr.intsA (by omega) (by omega) (by omega) ?_) | ((with_reducible first | refine XArr.nats ?_ ?_ ?_ | refine XArr.natsA ?_ ?_ ?_ | refine XArr.ptr ?_ ?_ ?_); omega; omega) | (refine XCall.ret (equal_sk n1 n2 xs hx) ?_)); conv => whnf) | ((with_reducible apply XBr.mk') <;> (intro h; conv => whnf))
  exact XOut.bool rfl

theorem equal_pr (n1 n2 : Bool) (xs : List (Int × Int)) (hx : xs.length ≤ 100000) : Comp Try.prog 141 [.sl n1 (xs.map prA), .sl n2 (xs.map prA)] (.bool true) := by
  refine Comp.body (T := tab) (res := [.tmp 4]) tab_ok [] Try.func141 rfl (by kernel_rfl) Try.ntmps141 rfl (by simp only [List.length_cons, List.length_nil]; decide) (by simp only [lowL, AV.low, lowPr]; rfl) ?_; conv => whnf
  repeat' first | ((with_reducible first | apply XBr.tt | apply XBr.ff | apply Chk.go | apply ChkA.go | apply ChkF.go | apply ChkB.go | apply XArr.pim0 | apply XArr.pim1); conv => whnf) | (with_reducible apply XBr.not) | ((with_reducible apply XBr.dec) <;> (intro h; first | (exfalso; omega) | ((try simp only [List.length_map] at h); first | (exfalso; omega) | (conv => whnf)))) | ((with_reducible first | apply XBr.beq | apply XBr.bne) <;> (intro h; first | (exfalso; omega) | (conv => whnf))) | ((with_reducible refine XInt.i64 (by omega) (by omega) ?_); conv => whnf) | ((with_reducible refine XHold.mk ?_ ?_); (first | omega | rfl | decide | exact ⟨rfl, by decide, rfl⟩ | exact wideI _ | exact widePr _ | exact wideSk _ | (unfold Room; constructor <;> ((try simp) <;> omega)) | exact ⟨rfl, by simp only [List.length_map], by unfold Room; constructor <;> ((try simp) <;> omega)⟩ | exact ⟨by omega, by omega, by unfold Room; constructor <;> ((try simp) <;> omega)⟩); conv => whnf) | ((first | ((with_reducible refine XIx.nat ?_ ?_ ?_); omega; (intro _; rfl)) | ((with_reducible refine XIx.map ?_ ?_ ?_ ?_); omega; omega; (intro _; rfl))); conv => whnf) | (with_reducible apply XAnd.mk) | (exact XSame.mk rfl rfl) | (exact XSame.mk (by first | rfl | (simp only [List.map_append, List.length_append, List.length_map]; done) | (simp only [List.map_append, List.length_append, List.length_map]; rfl)) (by first | rfl | (simp only [List.map_append]; done) | (simp only [List.map_append]; rfl))) | (with_reducible exact trivial) | ((first | (with_reducible refine xdrop_app (by rw [List.length_map]; omega) ?_) | (with_reducible refine XDrop.desk (by assumption) ?_) | (with_reducible first | refine XArr.ints (by omega) (by omega) (by omega) ?_ | refine XArr.intsA (by omega) (by omega) (by omega) ?_) | ((with_reducible first | refine XArr.nats ?_ ?_ ?_ | refine XArr.natsA ?_ ?_ ?_ | refine XArr.ptr ?_ ?_ ?_); omega; omega)); conv => whnf) | ((with_reducible apply XBr.mk') <;> (intro h; conv => whnf))
  refine Walk.loop tab_ok [] (fun i : Nat => i ≤ xs.length) (fun i => [(0, .sl n1 (xs.map prA)), (1, .sl n2 (xs.map prA)), (12, .int .i64 xs.length), (13, .int .i64 i)]) (fun _ => []) (fun i => xs.length - i) 0 (Nat.zero_le _) rfl ⟨rfl, rfl, by simp only [List.length_map]; rfl, rfl, trivial⟩ ?_
  intro i hi
  conv => whnf
  repeat' first | ((with_reducible first | apply XBr.tt | apply XBr.ff | apply Chk.go | apply ChkA.go | apply ChkF.go | apply ChkB.go | apply XArr.pim0 | apply XArr.pim1); conv => whnf) | (with_reducible apply XBr.not) | ((with_reducible apply XBr.dec) <;> (intro h; first | (exfalso; omega) | ((try simp only [List.length_map] at h); first | (exfalso; omega) | (conv => whnf)))) | ((with_reducible first | apply XBr.beq | apply XBr.bne) <;> (intro h; first | (exfalso; omega) | (conv => whnf))) | ((with_reducible refine XInt.i64 (by omega) (by omega) ?_); conv => whnf) | ((with_reducible refine XHold.mk ?_ ?_); (first | omega | rfl | decide | exact ⟨rfl, by decide, rfl⟩ | exact wideI _ | exact widePr _ | exact wideSk _ | (unfold Room; constructor <;> ((try simp) <;> omega)) | exact ⟨rfl, by simp only [List.length_map], by unfold Room; constructor <;> ((try simp) <;> omega)⟩ | exact ⟨by omega, by omega, by unfold Room; constructor <;> ((try simp) <;> omega)⟩); conv => whnf) | ((first | ((with_reducible refine XIx.nat ?_ ?_ ?_); omega; (intro _; rfl)) | ((with_reducible refine XIx.map ?_ ?_ ?_ ?_); omega; omega; (intro _; rfl))); conv => whnf) | (with_reducible apply XAnd.mk) | (exact XSame.mk rfl rfl) | (exact XSame.mk (by first | rfl | (simp only [List.map_append, List.length_append, List.length_map]; done) | (simp only [List.map_append, List.length_append, List.length_map]; rfl)) (by first | rfl | (simp only [List.map_append]; done) | (simp only [List.map_append]; rfl))) | (with_reducible exact trivial) | ((first | (with_reducible refine xdrop_app (by rw [List.length_map]; omega) ?_) | (with_reducible refine XDrop.desk (by assumption) ?_) | (with_reducible first | refine XArr.ints (by omega) (by omega) (by omega) ?_ | refine XArr.intsA (by omega) (by omega) (by omega) ?_) | ((with_reducible first | refine XArr.nats ?_ ?_ ?_ | refine XArr.natsA ?_ ?_ ?_ | refine XArr.ptr ?_ ?_ ?_); omega; omega)); conv => whnf) | ((with_reducible apply XBr.mk') <;> (intro h; conv => whnf))
  · apply Walk.drawX tab_ok mixed_ok [] [] (hsK _) [_, _, _, _, _, _, _, _, .bool false] (by kernel_rfl) rfl
    · skip
      repeat' first | ((with_reducible first | apply XBr.tt | apply XBr.ff | apply Chk.go | apply ChkA.go | apply ChkF.go | apply ChkB.go | apply XArr.pim0 | apply XArr.pim1); conv => whnf) | (with_reducible apply XBr.not) | ((with_reducible apply XBr.dec) <;> (intro h; first | (exfalso; omega) | ((try simp only [List.length_map] at h); first | (exfalso; omega) | (conv => whnf)))) | ((with_reducible first | apply XBr.beq | apply XBr.bne) <;> (intro h; first | (exfalso; omega) | (conv => whnf))) | ((with_reducible refine XInt.i64 (by omega) (by omega) ?_); conv => whnf) | ((with_reducible refine XHold.mk ?_ ?_); (first | omega | rfl | decide | exact ⟨rfl, by decide, rfl⟩ | exact wideI _ | exact widePr _ | exact wideSk _ | (unfold Room; constructor <;> ((try simp) <;> omega)) | exact ⟨rfl, by simp only [List.length_map], by unfold Room; constructor <;> ((try simp) <;> omega)⟩ | exact ⟨by omega, by omega, by unfold Room; constructor <;> ((try simp) <;> omega)⟩); conv => whnf) | ((first | ((with_reducible refine XIx.nat ?_ ?_ ?_); omega; (intro _; rfl)) | ((with_reducible refine XIx.map ?_ ?_ ?_ ?_); omega; omega; (intro _; rfl))); conv => whnf) | (with_reducible apply XAnd.mk) | (exact XSame.mk rfl rfl) | (exact XSame.mk (by first | rfl | (simp only [List.map_append, List.length_append, List.length_map]; done) | (simp only [List.map_append, List.length_append, List.length_map]; rfl)) (by first | rfl | (simp only [List.map_append]; done) | (simp only [List.map_append]; rfl))) | (with_reducible exact trivial) | ((first | (with_reducible refine xdrop_app (by rw [List.length_map]; omega) ?_) | (with_reducible refine XDrop.desk (by assumption) ?_) | (with_reducible first | refine XArr.ints (by omega) (by omega) (by omega) ?_ | refine XArr.intsA (by omega) (by omega) (by omega) ?_) | ((with_reducible first | refine XArr.nats ?_ ?_ ?_ | refine XArr.natsA ?_ ?_ ?_ | refine XArr.ptr ?_ ?_ ?_); omega; omega)); conv => whnf) | ((refine XEqA.mk ⟨[_, _], [_, _], rfl, rfl, rfl, rfl, ?_⟩); exact XSame.mk (congrArg AV.bool (by simp)) rfl) | ((with_reducible apply XBr.mk') <;> (intro h; conv => whnf))
    · skip
      repeat' first | ((with_reducible first | apply XBr.tt | apply XBr.ff | apply Chk.go | apply ChkA.go | apply ChkF.go | apply ChkB.go | apply XArr.pim0 | apply XArr.pim1); conv => whnf) | (with_reducible apply XBr.not) | ((with_reducible apply XBr.dec) <;> (intro h; first | (exfalso; omega) | ((try simp only [List.length_map] at h); first | (exfalso; omega) | (conv => whnf)))) | ((with_reducible first | apply XBr.beq | apply XBr.bne) <;> (intro h; first | (exfalso; omega) | (conv => whnf))) | ((with_reducible refine XInt.i64 (by omega) (by omega) ?_); conv => whnf) | ((with_reducible refine XHold.mk ?_ ?_); (first | omega | rfl | decide | exact ⟨rfl, by decide, rfl⟩ | exact wideI _ | exact widePr _ | exact wideSk _ | (unfold Room; constructor <;> ((try simp) <;> omega)) | exact ⟨rfl, by simp only [List.length_map], by unfold Room; constructor <;> ((try simp) <;> omega)⟩ | exact ⟨by omega, by omega, by unfold Room; constructor <;> ((try simp) <;> omega)⟩); conv => whnf) | ((first | ((with_reducible refine XIx.nat ?_ ?_ ?_); omega; (intro _; rfl)) | ((with_reducible refine XIx.map ?_ ?_ ?_ ?_); omega; omega; (intro _; rfl))); conv => whnf) | (with_reducible apply XAnd.mk) | (exact XSame.mk rfl rfl) | (exact XSame.mk (by first | rfl | (simp only [List.map_append, List.length_append, List.length_map]; done) | (simp only [List.map_append, List.length_append, List.length_map]; rfl)) (by first | rfl | (simp only [List.map_append]; done) | (simp only [List.map_append]; rfl))) | (with_reducible exact trivial) | ((first | (with_reducible refine xdrop_app (by rw [List.length_map]; omega) ?_) | (with_reducible refine XDrop.desk (by assumption) ?_) | (with_reducible first | refine XArr.ints (by omega) (by omega) (by omega) ?_ | refine XArr.intsA (by omega) (by omega) (by omega) ?_) | ((with_reducible first | refine XArr.nats ?_ ?_ ?_ | refine XArr.natsA ?_ ?_ ?_ | refine XArr.ptr ?_ ?_ ?_); omega; omega)); conv => whnf) | ((refine XEqA.mk ⟨[_, _], [_, _], rfl, rfl, rfl, rfl, ?_⟩); exact XSame.mk (congrArg AV.bool (by simp)) rfl) | ((with_reducible apply XBr.mk') <;> (intro h; conv => whnf))
    · conv => whnf
      repeat' first | ((with_reducible first | apply XBr.tt | apply XBr.ff | apply Chk.go | apply ChkA.go | apply ChkF.go | apply ChkB.go | apply XArr.pim0 | apply XArr.pim1); conv => whnf) | (with_reducible apply XBr.not) | ((with_reducible apply XBr.dec) <;> (intro h; first | (exfalso; omega) | ((try simp only [List.length_map] at h); first | (exfalso; omega) | (conv => whnf)))) | ((with_reducible first | apply XBr.beq | apply XBr.bne) <;> (intro h; first | (exfalso; omega) | (conv => whnf))) | ((with_reducible refine XInt.i64 (by omega) (by omega) ?_); conv => whnf) | ((with_reducible refine XHold.mk ?_ ?_); (first | omega | rfl | decide | exact ⟨rfl, by decide, rfl⟩ | exact wideI _ | exact widePr _ | exact wideSk _ | (unfold Room; constructor <;> ((try simp) <;> omega)) | exact ⟨rfl, by simp only [List.length_map], by unfold Room; constructor <;> ((try simp) <;> omega)⟩ | exact ⟨by omega, by omega, by unfold Room; constructor <;> ((try simp) <;> omega)⟩); conv => whnf) | ((first | ((with_reducible refine XIx.nat ?_ ?_ ?_); omega; (intro _; rfl)) | ((with_reducible refine XIx.map ?_ ?_ ?_ ?_); omega; omega; (intro _; rfl))); conv => whnf) | (with_reducible apply XAnd.mk) | (exact XSame.mk rfl rfl) | (exact XSame.mk (by first | rfl | (simp only [List.map_append, List.length_append, List.length_map]; done) | (simp only [List.map_append, List.length_append, List.length_map]; rfl)) (by first | rfl | (simp only [List.map_append]; done) | (simp only [List.map_append]; rfl))) | (with_reducible exact trivial) | ((first | (with_reducible refine xdrop_app (by rw [List.length_map]; omega) ?_) | (with_reducible refine XDrop.desk (by assumption) ?_) | (with_reducible first | refine XArr.ints (by omega) (by omega) (by omega) ?_ | refine XArr.intsA (by omega) (by omega) (by omega) ?_) | ((with_reducible first | refine XArr.nats ?_ ?_ ?_ | refine XArr.natsA ?_ ?_ ?_ | refine XArr.ptr ?_ ?_ ?_); omega; omega)); conv => whnf) | ((with_reducible apply XBr.mk') <;> (intro h; conv => whnf))
      exact XAgain.go (i + 1) (by omega) (by omega) rfl ⟨rfl, rfl, rfl, rfl, trivial⟩
  · exact XOut.bool rfl
theorem eq_pr (n1 n2 : Bool) (xs : List (Int × Int)) (hx : xs.length ≤ 100000) : Comp Try.prog 103 [.sl n1 (xs.map prA), .sl n2 (xs.map prA)] (.bool true) := by
  refine Comp.body (T := tab) (res := [.tmp 4]) tab_ok [] Try.func103 rfl (by kernel_rfl) Try.ntmps103 rfl (by simp only [List.length_cons, List.length_nil]; decide) (by simp only [lowL, AV.low, lowPr]; rfl) ?_; conv => whnf
  repeat' first | ((with_reducible first | apply XBr.tt | apply XBr.ff | apply Chk.go | apply ChkA.go | apply ChkF.go | apply ChkB.go | apply XArr.pim0 | apply XArr.pim1); conv => whnf) | (with_reducible apply XBr.not) | ((with_reducible apply XBr.dec) <;> (intro h; first | (exfalso; omega) | ((try simp only [List.length_map] at h); first | (exfalso; omega) | (conv => whnf)))) | ((with_reducible first | apply XBr.beq | apply XBr.bne) <;> (intro h; first | (exfalso; omega) | (conv => whnf))) | ((with_reducible refine XInt.i64 (by omega) (by omega) ?_); conv => whnf) | ((with_reducible refine XHold.mk ?_ ?_); (first | omega | rfl | decide | exact ⟨rfl, by decide, rfl⟩ | exact wideI _ | exact widePr _ | exact wideSk _ | (unfold Room; constructor <;> ((try simp) <;> omega)) | exact ⟨rfl, by simp only [List.length_map], by unfold Room; constructor <;> ((try simp) <;> omega)⟩ | exact ⟨by omega, by omega, by unfold Room; constructor <;> ((try simp) <;> omega)⟩); conv => whnf) | ((first | ((with_reducible refine XIx.nat ?_ ?_ ?_); omega; (intro _; rfl)) | ((with_reducible refine XIx.map ?_ ?_ ?_ ?_); omega; omega; (intro _; rfl))); conv => whnf) | (with_reducible apply XAnd.mk) | (exact XSame.mk rfl rfl) | (exact XSame.mk (by first | rfl | (simp only [List.map_append, List.length_append, List.length_map]; done) | (simp only [List.map_append, List.length_append, List.length_map]; rfl)) (by first | rfl | (simp only [List.map_append]; done) | (simp only [List.map_append]; rfl))) | (with_reducible exact trivial) | ((first | (with_reducible refine xdrop_app (by rw [List.length_map]; omega) ?_) | (with_reducible refine XDrop.desk (by assumption) ?_) | (with_reducible first | refine XArr.ints (by omega) (by omega) (by omega) ?_ | refine XArr.intsA (by omega) (by omega) (by omega) ?_) | ((with_reducible first | refine XArr.nats ?_ ?_ ?_ | refine XArr.natsA ?_ ?_ ?_ | refine XArr.ptr ?_ ?_ ?_); omega; omega) | (refine XCall.ret (equal_pr n1 n2 xs hx) ?_)); conv => whnf) | ((with_reducible apply XBr.mk') <;> (intro h; conv => whnf))
  exact XOut.bool rfl

theorem same_c (l : Ld) (o : LdW l) : Comp Try.prog 45 [ldA (ownL l), ldA l] (.bool true) := by
  have h1 := o.h1
  have h2 := o.h2
  have h3 := o.h3
  refine Comp.body (T := tab) (res := [.tmp 4]) tab_ok [] Try.func45 rfl (by kernel_rfl) Try.ntmps45 rfl (by simp only [List.length_cons, List.length_nil]; decide) (by simp only [lowL, AV.low, ldL]; rfl) ?_; conv => whnf
  repeat' first | ((with_reducible first | apply XBr.tt | apply XBr.ff | apply Chk.go | apply ChkA.go | apply ChkF.go | apply ChkB.go | apply XArr.pim0 | apply XArr.pim1); conv => whnf) | (with_reducible apply XBr.not) | ((with_reducible apply XBr.dec) <;> (intro h; first | (exfalso; omega) | ((try simp only [List.length_map] at h); first | (exfalso; omega) | (conv => whnf)))) | ((with_reducible first | apply XBr.beq | apply XBr.bne) <;> (intro h; first | (exfalso; omega) | (conv => whnf))) | ((with_reducible refine XInt.i64 (by omega) (by omega) ?_); conv => whnf) | ((with_reducible refine XHold.mk ?_ ?_); (first | omega | rfl | decide | exact ⟨rfl, by decide, rfl⟩ | exact wideI _ | exact widePr _ | exact wideSk _ | (unfold Room; constructor <;> ((try simp) <;> omega)) | exact ⟨rfl, by simp only [List.length_map], by unfold Room; constructor <;> ((try simp) <;> omega)⟩ | exact ⟨by omega, by omega, by unfold Room; constructor <;> ((try simp) <;> omega)⟩); conv => whnf) | ((first | ((with_reducible refine XIx.nat ?_ ?_ ?_); omega; (intro _; rfl)) | ((with_reducible refine XIx.map ?_ ?_ ?_ ?_); omega; omega; (intro _; rfl))); conv => whnf) | (with_reducible apply XAnd.mk) | (exact XSame.mk rfl rfl) | (exact XSame.mk (by first | rfl | (simp only [List.map_append, List.length_append, List.length_map]; done) | (simp only [List.map_append, List.length_append, List.length_map]; rfl)) (by first | rfl | (simp only [List.map_append]; done) | (simp only [List.map_append]; rfl))) | (with_reducible exact trivial) | ((first | (with_reducible refine xdrop_app (by rw [List.length_map]; omega) ?_) | (with_reducible refine XDrop.desk (by assumption) ?_) | (with_reducible first | refine XArr.ints (by omega) (by omega) (by omega) ?_ | refine XArr.intsA (by omega) (by omega) (by omega) ?_) | ((with_reducible first | refine XArr.nats ?_ ?_ ?_ | refine XArr.natsA ?_ ?_ ?_ | refine XArr.ptr ?_ ?_ ?_); omega; omega) | (refine XCall.ret (eq_sk _ _ l.sacks (by omega)) ?_) | (refine XCall.ret (eq_pr _ _ l.apart (by omega)) ?_) | (refine XCall.ret (eq_pr _ _ l.wth (by omega)) ?_)); conv => whnf) | ((with_reducible apply XBr.mk') <;> (intro h; conv => whnf))
  refine Walk.norm tab_ok [] [(2, .pim (ldC (ownL l))), (3, .pim (ldC l))] ⟨rfl, rfl, trivial⟩ ?_
  conv => whnf
  repeat' first | ((with_reducible first | apply XBr.tt | apply XBr.ff | apply Chk.go | apply ChkA.go | apply ChkF.go | apply ChkB.go | apply XArr.pim0 | apply XArr.pim1); conv => whnf) | (with_reducible apply XBr.not) | ((with_reducible apply XBr.dec) <;> (intro h; first | (exfalso; omega) | ((try simp only [List.length_map] at h); first | (exfalso; omega) | (conv => whnf)))) | ((with_reducible first | apply XBr.beq | apply XBr.bne) <;> (intro h; first | (exfalso; omega) | (conv => whnf))) | ((with_reducible refine XInt.i64 (by omega) (by omega) ?_); conv => whnf) | ((with_reducible refine XHold.mk ?_ ?_); (first | omega | rfl | decide | exact ⟨rfl, by decide, rfl⟩ | exact wideI _ | exact widePr _ | exact wideSk _ | (unfold Room; constructor <;> ((try simp) <;> omega)) | exact ⟨rfl, by simp only [List.length_map], by unfold Room; constructor <;> ((try simp) <;> omega)⟩ | exact ⟨by omega, by omega, by unfold Room; constructor <;> ((try simp) <;> omega)⟩); conv => whnf) | ((first | ((with_reducible refine XIx.nat ?_ ?_ ?_); omega; (intro _; rfl)) | ((with_reducible refine XIx.map ?_ ?_ ?_ ?_); omega; omega; (intro _; rfl))); conv => whnf) | (with_reducible apply XAnd.mk) | (exact XSame.mk rfl rfl) | (exact XSame.mk (by first | rfl | (simp only [List.map_append, List.length_append, List.length_map]; done) | (simp only [List.map_append, List.length_append, List.length_map]; rfl)) (by first | rfl | (simp only [List.map_append]; done) | (simp only [List.map_append]; rfl))) | (with_reducible exact trivial) | ((first | (with_reducible refine xdrop_app (by rw [List.length_map]; omega) ?_) | (with_reducible refine XDrop.desk (by assumption) ?_) | (with_reducible first | refine XArr.ints (by omega) (by omega) (by omega) ?_ | refine XArr.intsA (by omega) (by omega) (by omega) ?_) | ((with_reducible first | refine XArr.nats ?_ ?_ ?_ | refine XArr.natsA ?_ ?_ ?_ | refine XArr.ptr ?_ ?_ ?_); omega; omega) | (refine XCall.ret (eq_sk _ _ l.sacks (by omega)) ?_) | (refine XCall.ret (eq_pr _ _ l.apart (by omega)) ?_) | (refine XCall.ret (eq_pr _ _ l.wth (by omega)) ?_)); conv => whnf) | ((with_reducible apply XBr.mk') <;> (intro h; conv => whnf))
  all_goals first | exact XOut.bool rfl | (exfalso; exact absurd rfl (by assumption))
def greatB (l : Ld) : Bool := decide (14 < l.sacks.length) || decide (12 < l.apart.length) || decide (12 < l.wth.length)
theorem great_c (l : Ld) : Comp Try.prog 38 [ldA l] (.bool (greatB l)) := by
  have e1 : ((l.sacks.map skA).length : Int) = l.sacks.length := by rw [List.length_map]
  have e2 : ((l.apart.map prA).length : Int) = l.apart.length := by rw [List.length_map]
  have e3 : ((l.wth.map prA).length : Int) = l.wth.length := by rw [List.length_map]
  refine Comp.body (T := tab) (res := [.tmp 2]) tab_ok [] Try.func38 rfl (by kernel_rfl) Try.ntmps38 rfl (by simp only [List.length_cons, List.length_nil]; decide) (by simp only [lowL, AV.low, ldL]; rfl) ?_; conv => whnf
  repeat' first | ((with_reducible first | apply XBr.tt | apply XBr.ff | apply Chk.go | apply ChkA.go | apply ChkF.go | apply ChkB.go | apply XArr.pim0 | apply XArr.pim1); conv => whnf) | (with_reducible apply XBr.not) | ((with_reducible apply XBr.dec) <;> (intro h; first | (exfalso; omega) | ((try simp only [List.length_map] at h); first | (exfalso; omega) | (conv => whnf)))) | ((with_reducible first | apply XBr.beq | apply XBr.bne) <;> (intro h; first | (exfalso; omega) | (conv => whnf))) | ((with_reducible refine XInt.i64 (by omega) (by omega) ?_); conv => whnf) | ((with_reducible refine XHold.mk ?_ ?_); (first | omega | rfl | decide | exact ⟨rfl, by decide, rfl⟩ | exact wideI _ | exact widePr _ | exact wideSk _ | (unfold Room; constructor <;> ((try simp) <;> omega)) | exact ⟨rfl, by simp only [List.length_map], by unfold Room; constructor <;> ((try simp) <;> omega)⟩ | exact ⟨by omega, by omega, by unfold Room; constructor <;> ((try simp) <;> omega)⟩); conv => whnf) | ((first | ((with_reducible refine XIx.nat ?_ ?_ ?_); omega; (intro _; rfl)) | ((with_reducible refine XIx.map ?_ ?_ ?_ ?_); omega; omega; (intro _; rfl))); conv => whnf) | (with_reducible apply XAnd.mk) | (exact XSame.mk rfl rfl) | (exact XSame.mk (by first | rfl | (simp only [List.map_append, List.length_append, List.length_map]; done) | (simp only [List.map_append, List.length_append, List.length_map]; rfl)) (by first | rfl | (simp only [List.map_append]; done) | (simp only [List.map_append]; rfl))) | (with_reducible exact trivial) | ((first | (with_reducible refine xdrop_app (by rw [List.length_map]; omega) ?_) | (with_reducible refine XDrop.desk (by assumption) ?_) | (with_reducible first | refine XArr.ints (by omega) (by omega) (by omega) ?_ | refine XArr.intsA (by omega) (by omega) (by omega) ?_) | ((with_reducible first | refine XArr.nats ?_ ?_ ?_ | refine XArr.natsA ?_ ?_ ?_ | refine XArr.ptr ?_ ?_ ?_); omega; omega)); conv => whnf) | ((with_reducible apply XBr.mk') <;> (intro h; conv => whnf))
  all_goals
    refine XOut.bool ?_
    unfold greatB
    rw [Bool.eq_iff_iff]
    simp only [Bool.or_eq_true, decide_eq_true_eq, Bool.or_assoc, Bool.true_eq_false, Bool.false_eq_true, true_iff, false_iff, iff_true, iff_false]
    omega
end GA
end
