/- Contracts: the sharing. -/
import Derived.Test.YtlbdomhfcghjdaaS18
namespace GA
open Go Go.RowKit Go.Proofs
set_option pp.deepTerms true
set_option maxRecDepth 8000
set_option linter.unusedVariables false
set_option linter.unusedSimpArgs false

def quoA (parts out : List Int) (i : Nat) : Int × Int := (parts.getD i 0, 2 * out.getD i 0 + 1)
def pq (parts out : List Int) (st : Nat × (Int × Int)) (i : Nat) : Nat × (Int × Int) :=
  if (st.2 = (0, 1) ∧ 0 < parts.getD i 0) ∨ aboveB (quoA parts out i) st.2 = true then (i, quoA parts out i) else st
def pqI (parts out : List Int) (i : Nat) : Nat × (Int × Int) := (List.range i).foldl (pq parts out) (0, (0, 1))
def whoR (parts out : List Int) : Nat := (pqI parts out 6).1
def shareStep (parts out : List Int) : List Int := out.set (whoR parts out) (out.getD (whoR parts out) 0 + 1)
def shareI (parts : List Int) : Nat → List Int
  | 0 => List.replicate 6 0
  | n + 1 => shareStep parts (shareI parts n)
theorem pqI_succ (parts out : List Int) (i : Nat) : pqI parts out (i + 1) = pq parts out (pqI parts out i) i := by
  unfold pqI; rw [List.range_succ, List.foldl_append]; rfl
def OutOk (n : Nat) (out : List Int) : Prop := out.length = 6 ∧ ∀ i, 0 ≤ out.getD i 0 ∧ out.getD i 0 ≤ n
theorem pqI_ok {parts out : List Int} {k : Nat} (hp : PartsOk 9 parts) (ho : OutOk k out) : ∀ i, i ≤ 6 → (pqI parts out i).1 < 6 ∧ (0 ≤ (pqI parts out i).2.1 ∧ (pqI parts out i).2.1 ≤ 900) ∧ (1 ≤ (pqI parts out i).2.2 ∧ (pqI parts out i).2.2 ≤ 2 * k + 1)
  | 0, _ => by simp [pqI]; omega
  | i + 1, h => by
    have ih := pqI_ok hp ho i (by omega)
    have a := hp.2 i
    have b := ho.2 i
    rw [pqI_succ]; unfold pq
    split
    · simp only [quoA]; omega
    · exact ih
theorem shareI_ok {parts : List Int} (hp : PartsOk 9 parts) : ∀ n, OutOk n (shareI parts n)
  | 0 => ⟨rfl, fun i => by
      show 0 ≤ (List.replicate 6 (0 : Int)).getD i 0 ∧ (List.replicate 6 (0 : Int)).getD i 0 ≤ _
      rw [List.getD_eq_getElem?_getD, List.getElem?_replicate]; split <;> simp⟩
  | n + 1 => by
    have ih := shareI_ok hp n
    refine ⟨by simp [shareI, shareStep, ih.1], fun i => ?_⟩
    have a := ih.2 i
    have b := ih.2 (whoR parts (shareI parts n))
    show 0 ≤ ((shareI parts n).set (whoR parts (shareI parts n)) ((shareI parts n).getD (whoR parts (shareI parts n)) 0 + 1)).getD i 0 ∧ ((shareI parts n).set (whoR parts (shareI parts n)) ((shareI parts n).getD (whoR parts (shareI parts n)) 0 + 1)).getD i 0 ≤ _
    rw [getD_set]
    split <;> omega
def shareE (l : Ld) (pay : Int) : Int := if checkR l ≠ 0 then checkR l else if inB pay 0 500 = false then 3 else if 0 < pay ∧ greatestR (partsR l) = 0 then 6 else 0
def shareR (l : Ld) (pay : Int) : AV := if shareE l pay = 0 then .tup [.sl false (ints (shareI (partsR l) pay.toNat)), .int .i64 0] else .tup [.sl true [], .int .i64 (shareE l pay)]
theorem share_c (l : Ld) (pay : Int) (o : LdW l) : Comp Try.prog 33 [ldA l, .int .i64 pay] (shareR l pay) := by
  refine Comp.body' (T := tab) (res := [.tmp 4, .tmp 5]) tab_ok [] Try.func33 rfl (by kernel_rfl) Try.ntmps33 rfl (by simp only [List.length_cons, List.length_nil]; decide) (by simp only [lowL, AV.low, ldL]; rfl) ?_; conv => whnf
  refine XCall.ret (check_c l o.w o.h1 o.h2 o.h3) ?_
  conv => whnf
  repeat' first
      | ((with_reducible apply XBr.tt); conv => whnf)
      | ((with_reducible apply XBr.ff); conv => whnf)
      | (with_reducible apply XBr.not)
      | ((with_reducible apply XBr.dec) <;> (intro h; first | (exfalso; omega) | ((try simp only [List.length_map] at h); first | (exfalso; omega) | (conv => whnf))))
      | ((with_reducible apply XBr.beq) <;> (intro h; first | (exfalso; omega) | (conv => whnf)))
      | ((with_reducible apply XBr.bne) <;> (intro h; first | (exfalso; omega) | (conv => whnf)))
      | ((with_reducible refine XInt.i64 (by omega) (by omega) ?_); conv => whnf)
      | ((with_reducible refine XHold.mk ?_ ?_); (first | omega | rfl | decide | exact ⟨rfl, by decide, rfl⟩ | exact wideI _ | exact widePr _ | exact wideSk _ | (unfold Room; constructor <;> ((try simp) <;> omega)) | exact ⟨rfl, by simp only [List.length_map], by unfold Room; constructor <;> ((try simp) <;> omega)⟩ | exact ⟨by omega, by omega, by unfold Room; constructor <;> ((try simp) <;> omega)⟩); conv => whnf)
      | ((with_reducible refine XIx.nat ?_ ?_ ?_); omega; (intro _; rfl); conv => whnf)
      | ((with_reducible refine XIx.map ?_ ?_ ?_ ?_); omega; omega; (intro _; rfl); conv => whnf)
      | (with_reducible apply XAnd.mk)
      | ((with_reducible apply Chk.go); conv => whnf)
      | ((with_reducible apply ChkA.go); conv => whnf)
      | ((with_reducible apply ChkF.go); conv => whnf)
      | ((with_reducible apply ChkB.go); conv => whnf)
      | (exact XSame.mk rfl rfl)
      | (exact XSame.mk (by first | rfl | (simp only [List.map_append, List.length_append, List.length_map]; done) | (simp only [List.map_append, List.length_append, List.length_map]; rfl)) (by first | rfl | (simp only [List.map_append]; done) | (simp only [List.map_append]; rfl)))
      | (with_reducible exact trivial)
      | ((with_reducible refine xdrop_app (by rw [List.length_map]; omega) ?_); conv => whnf)
      | ((with_reducible refine XArr.ints (by omega) (by omega) (by omega) ?_); conv => whnf)
      | ((with_reducible refine XArr.intsA (by omega) (by omega) (by omega) ?_); conv => whnf)
      | ((with_reducible refine XArr.nats ?_ ?_ ?_); omega; omega; conv => whnf)
      | ((with_reducible refine XArr.natsA ?_ ?_ ?_); omega; omega; conv => whnf)
      | ((with_reducible apply XArr.pim0); conv => whnf)
      | ((with_reducible apply XArr.pim1); conv => whnf)
      | ((with_reducible refine XArr.ptr ?_ ?_ ?_); omega; omega; conv => whnf)
      | (refine XCall.ret (in_c _ _ _) ?_; conv => whnf)
      | ((with_reducible apply XBr.mk') <;> (intro h; conv => whnf))
  · have he : shareE l pay = checkR l := by unfold shareE; rw [if_pos (by assumption)]
    exact ⟨by unfold shareR; rw [if_neg (by rw [he]; assumption), he]; exact Froz.low rfl⟩
  · rename_i h0
    have ok := (checkR_ok l).1 (by omega)
    have pk := parts_ok ok
    have hpart := parts_c l ok
    have hbd := h
    rw [inB_iff] at hbd
    have hres : shareR l pay = if 0 < pay ∧ greatestR (partsR l) = 0 then .tup [.sl true [], .int .i64 6] else .tup [.sl false (ints (shareI (partsR l) pay.toNat)), .int .i64 0] := by
      have he : shareE l pay = if 0 < pay ∧ greatestR (partsR l) = 0 then 6 else 0 := by
        unfold shareE
        rw [if_neg (show ¬ checkR l ≠ 0 by omega), if_neg (by rw [h]; simp)]
      unfold shareR; rw [he]
      by_cases hc : 0 < pay ∧ greatestR (partsR l) = 0
      · rw [if_pos hc, if_pos hc]; rfl
      · rw [if_neg hc, if_neg hc]; rfl
    rw [hres]
    clear hres
    generalize partsR l = parts at pk hpart
    apply Walk.drawX tab_ok mixed_ok [] [2] (hsV _ [id, fun H => H ++ [.grow 3 false (ints (List.replicate 6 0))]]) [_, _, _, _, _] (by kernel_rfl) rfl
    · skip
      repeat' first
          | ((with_reducible apply XBr.tt); conv => whnf)
          | ((with_reducible apply XBr.ff); conv => whnf)
          | (with_reducible apply XBr.not)
          | ((with_reducible apply XBr.dec) <;> (intro h; first | (exfalso; omega) | ((try simp only [List.length_map] at h); first | (exfalso; omega) | (conv => whnf))))
          | ((with_reducible apply XBr.beq) <;> (intro h; first | (exfalso; omega) | (conv => whnf)))
          | ((with_reducible apply XBr.bne) <;> (intro h; first | (exfalso; omega) | (conv => whnf)))
          | ((with_reducible refine XInt.i64 (by omega) (by omega) ?_); conv => whnf)
          | ((with_reducible refine XHold.mk ?_ ?_); (first | omega | rfl | decide | exact ⟨rfl, by decide, rfl⟩ | exact wideI _ | exact widePr _ | exact wideSk _ | (unfold Room; constructor <;> ((try simp) <;> omega)) | exact ⟨rfl, by simp only [List.length_map], by unfold Room; constructor <;> ((try simp) <;> omega)⟩ | exact ⟨by omega, by omega, by unfold Room; constructor <;> ((try simp) <;> omega)⟩); conv => whnf)
          | ((with_reducible refine XIx.nat ?_ ?_ ?_); omega; (intro _; rfl); conv => whnf)
          | ((with_reducible refine XIx.map ?_ ?_ ?_ ?_); omega; omega; (intro _; rfl); conv => whnf)
          | (with_reducible apply XAnd.mk)
          | ((with_reducible apply Chk.go); conv => whnf)
          | ((with_reducible apply ChkA.go); conv => whnf)
          | ((with_reducible apply ChkF.go); conv => whnf)
          | ((with_reducible apply ChkB.go); conv => whnf)
          | (exact XSame.mk rfl rfl)
          | (exact XSame.mk (by first | rfl | (simp only [List.map_append, List.length_append, List.length_map]; done) | (simp only [List.map_append, List.length_append, List.length_map]; rfl)) (by first | rfl | (simp only [List.map_append]; done) | (simp only [List.map_append]; rfl)))
          | (with_reducible exact trivial)
          | ((with_reducible refine xdrop_app (by rw [List.length_map]; omega) ?_); conv => whnf)
          | ((with_reducible refine XArr.ints (by omega) (by omega) (by omega) ?_); conv => whnf)
          | ((with_reducible refine XArr.intsA (by omega) (by omega) (by omega) ?_); conv => whnf)
          | ((with_reducible refine XArr.nats ?_ ?_ ?_); omega; omega; conv => whnf)
          | ((with_reducible refine XArr.natsA ?_ ?_ ?_); omega; omega; conv => whnf)
          | ((with_reducible apply XArr.pim0); conv => whnf)
          | ((with_reducible apply XArr.pim1); conv => whnf)
          | ((with_reducible refine XArr.ptr ?_ ?_ ?_); omega; omega; conv => whnf)
          | (refine XCall.ret hpart ?_; conv => whnf)
          | ((with_reducible apply XBr.mk') <;> (intro h; conv => whnf))
    · skip
      repeat' first
          | ((with_reducible apply XBr.tt); conv => whnf)
          | ((with_reducible apply XBr.ff); conv => whnf)
          | (with_reducible apply XBr.not)
          | ((with_reducible apply XBr.dec) <;> (intro h; first | (exfalso; omega) | ((try simp only [List.length_map] at h); first | (exfalso; omega) | (conv => whnf))))
          | ((with_reducible apply XBr.beq) <;> (intro h; first | (exfalso; omega) | (conv => whnf)))
          | ((with_reducible apply XBr.bne) <;> (intro h; first | (exfalso; omega) | (conv => whnf)))
          | ((with_reducible refine XInt.i64 (by omega) (by omega) ?_); conv => whnf)
          | ((with_reducible refine XHold.mk ?_ ?_); (first | omega | rfl | decide | exact ⟨rfl, by decide, rfl⟩ | exact wideI _ | exact widePr _ | exact wideSk _ | (unfold Room; constructor <;> ((try simp) <;> omega)) | exact ⟨rfl, by simp only [List.length_map], by unfold Room; constructor <;> ((try simp) <;> omega)⟩ | exact ⟨by omega, by omega, by unfold Room; constructor <;> ((try simp) <;> omega)⟩); conv => whnf)
          | ((with_reducible refine XIx.nat ?_ ?_ ?_); omega; (intro _; rfl); conv => whnf)
          | ((with_reducible refine XIx.map ?_ ?_ ?_ ?_); omega; omega; (intro _; rfl); conv => whnf)
          | (with_reducible apply XAnd.mk)
          | ((with_reducible apply Chk.go); conv => whnf)
          | ((with_reducible apply ChkA.go); conv => whnf)
          | ((with_reducible apply ChkF.go); conv => whnf)
          | ((with_reducible apply ChkB.go); conv => whnf)
          | (exact XSame.mk rfl rfl)
          | (exact XSame.mk (by first | rfl | (simp only [List.map_append, List.length_append, List.length_map]; done) | (simp only [List.map_append, List.length_append, List.length_map]; rfl)) (by first | rfl | (simp only [List.map_append]; done) | (simp only [List.map_append]; rfl)))
          | (with_reducible exact trivial)
          | ((with_reducible refine xdrop_app (by rw [List.length_map]; omega) ?_); conv => whnf)
          | ((with_reducible refine XArr.ints (by omega) (by omega) (by omega) ?_); conv => whnf)
          | ((with_reducible refine XArr.intsA (by omega) (by omega) (by omega) ?_); conv => whnf)
          | ((with_reducible refine XArr.nats ?_ ?_ ?_); omega; omega; conv => whnf)
          | ((with_reducible refine XArr.natsA ?_ ?_ ?_); omega; omega; conv => whnf)
          | ((with_reducible apply XArr.pim0); conv => whnf)
          | ((with_reducible apply XArr.pim1); conv => whnf)
          | ((with_reducible refine XArr.ptr ?_ ?_ ?_); omega; omega; conv => whnf)
          | (refine XCall.ret hpart ?_; conv => whnf)
          | ((with_reducible apply XBr.mk') <;> (intro h; conv => whnf))
    · conv => whnf
      repeat' first
          | ((with_reducible apply XBr.tt); conv => whnf)
          | ((with_reducible apply XBr.ff); conv => whnf)
          | (with_reducible apply XBr.not)
          | ((with_reducible apply XBr.dec) <;> (intro h; first | (exfalso; omega) | ((try simp only [List.length_map] at h); first | (exfalso; omega) | (conv => whnf))))
          | ((with_reducible apply XBr.beq) <;> (intro h; first | (exfalso; omega) | (conv => whnf)))
          | ((with_reducible apply XBr.bne) <;> (intro h; first | (exfalso; omega) | (conv => whnf)))
          | ((with_reducible refine XInt.i64 (by omega) (by omega) ?_); conv => whnf)
          | ((with_reducible refine XHold.mk ?_ ?_); (first | omega | rfl | decide | exact ⟨rfl, by decide, rfl⟩ | exact wideI _ | exact widePr _ | exact wideSk _ | (unfold Room; constructor <;> ((try simp) <;> omega)) | exact ⟨rfl, by simp only [List.length_map], by unfold Room; constructor <;> ((try simp) <;> omega)⟩ | exact ⟨by omega, by omega, by unfold Room; constructor <;> ((try simp) <;> omega)⟩); conv => whnf)
          | ((with_reducible refine XIx.nat ?_ ?_ ?_); omega; (intro _; rfl); conv => whnf)
          | ((with_reducible refine XIx.map ?_ ?_ ?_ ?_); omega; omega; (intro _; rfl); conv => whnf)
          | (with_reducible apply XAnd.mk)
          | ((with_reducible apply Chk.go); conv => whnf)
          | ((with_reducible apply ChkA.go); conv => whnf)
          | ((with_reducible apply ChkF.go); conv => whnf)
          | ((with_reducible apply ChkB.go); conv => whnf)
          | (exact XSame.mk rfl rfl)
          | (exact XSame.mk (by first | rfl | (simp only [List.map_append, List.length_append, List.length_map]; done) | (simp only [List.map_append, List.length_append, List.length_map]; rfl)) (by first | rfl | (simp only [List.map_append]; done) | (simp only [List.map_append]; rfl)))
          | (with_reducible exact trivial)
          | ((with_reducible refine xdrop_app (by rw [List.length_map]; omega) ?_); conv => whnf)
          | ((with_reducible refine XArr.ints (by omega) (by omega) (by omega) ?_); conv => whnf)
          | ((with_reducible refine XArr.intsA (by omega) (by omega) (by omega) ?_); conv => whnf)
          | ((with_reducible refine XArr.nats ?_ ?_ ?_); omega; omega; conv => whnf)
          | ((with_reducible refine XArr.natsA ?_ ?_ ?_); omega; omega; conv => whnf)
          | ((with_reducible apply XArr.pim0); conv => whnf)
          | ((with_reducible apply XArr.pim1); conv => whnf)
          | ((with_reducible refine XArr.ptr ?_ ?_ ?_); omega; omega; conv => whnf)
          | (refine XCall.ret (greatest_c _ parts (by have := pk.1; omega)) ?_; conv => whnf)
          | ((with_reducible apply XBr.mk') <;> (intro h; conv => whnf))
      · rename_i hg
        exact ⟨by rw [if_pos ⟨by assumption, h⟩]; exact Froz.low rfl⟩
      · rw [if_neg (fun hh => h hh.2)]
        have pkl := pk.1
        obtain ⟨pn, rfl⟩ := Int.eq_ofNat_of_zero_le hbd.1
        rw [Int.toNat_natCast]
        refine Walk.loopG tab_ok [] (fun k : Nat => k ≤ pn) (fun k => [(7, .sl false (ints parts)), (8, .gr 0 6), (33, natA pn), (34, natA k)])
          (fun k => [.grow 3 false (ints (shareI parts k))]) (fun k => pn - k) 0 (by omega) rfl ⟨rfl, rfl, rfl, rfl, trivial⟩ ?_ ?_ ?_
        · intro k _
          constructor
          · intro x hx; simp at hx; subst hx; exact lowI _
          · intro p hp; simp at hp; rcases hp with rfl | rfl | rfl | rfl <;> first | exact lowI _ | rfl
        · intro k _; simp
        intro k hk
        have ok := shareI_ok pk k
        have hnx : shareI parts (k + 1) = shareStep parts (shareI parts k) := rfl
        have hfin : k = pn → shareI parts pn = shareI parts k := fun h => by rw [h]
        generalize shareI parts k = out at ok hnx hfin
        have okl := ok.1
        conv => whnf
        repeat' first
            | ((with_reducible apply XBr.tt); conv => whnf)
            | ((with_reducible apply XBr.ff); conv => whnf)
            | (with_reducible apply XBr.not)
            | ((with_reducible apply XBr.dec) <;> (intro h; first | (exfalso; omega) | ((try simp only [List.length_map] at h); first | (exfalso; omega) | (conv => whnf))))
            | ((with_reducible apply XBr.beq) <;> (intro h; first | (exfalso; omega) | (conv => whnf)))
            | ((with_reducible apply XBr.bne) <;> (intro h; first | (exfalso; omega) | (conv => whnf)))
            | ((with_reducible refine XInt.i64 (by omega) (by omega) ?_); conv => whnf)
            | ((with_reducible refine XHold.mk ?_ ?_); (first | omega | rfl | decide | exact ⟨rfl, by decide, rfl⟩ | exact wideI _ | exact widePr _ | exact wideSk _ | (unfold Room; constructor <;> ((try simp) <;> omega)) | exact ⟨rfl, by simp only [List.length_map], by unfold Room; constructor <;> ((try simp) <;> omega)⟩ | exact ⟨by omega, by omega, by unfold Room; constructor <;> ((try simp) <;> omega)⟩); conv => whnf)
            | ((with_reducible refine XIx.nat ?_ ?_ ?_); omega; (intro _; rfl); conv => whnf)
            | ((with_reducible refine XIx.map ?_ ?_ ?_ ?_); omega; omega; (intro _; rfl); conv => whnf)
            | (with_reducible apply XAnd.mk)
            | ((with_reducible apply Chk.go); conv => whnf)
            | ((with_reducible apply ChkA.go); conv => whnf)
            | ((with_reducible apply ChkF.go); conv => whnf)
            | ((with_reducible apply ChkB.go); conv => whnf)
            | (exact XSame.mk rfl rfl)
            | (exact XSame.mk (by first | rfl | (simp only [List.map_append, List.length_append, List.length_map]; done) | (simp only [List.map_append, List.length_append, List.length_map]; rfl)) (by first | rfl | (simp only [List.map_append]; done) | (simp only [List.map_append]; rfl)))
            | (with_reducible exact trivial)
            | ((with_reducible refine xdrop_app (by rw [List.length_map]; omega) ?_); conv => whnf)
            | ((with_reducible refine XArr.ints (by omega) (by omega) (by omega) ?_); conv => whnf)
            | ((with_reducible refine XArr.intsA (by omega) (by omega) (by omega) ?_); conv => whnf)
            | ((with_reducible refine XArr.nats ?_ ?_ ?_); omega; omega; conv => whnf)
            | ((with_reducible refine XArr.natsA ?_ ?_ ?_); omega; omega; conv => whnf)
            | ((with_reducible apply XArr.pim0); conv => whnf)
            | ((with_reducible apply XArr.pim1); conv => whnf)
            | ((with_reducible refine XArr.ptr ?_ ?_ ?_); omega; omega; conv => whnf)
            | ((with_reducible apply XBr.mk') <;> (intro h; conv => whnf))
        · skip
          refine Walk.loopG tab_ok [] (fun i : Nat => i ≤ 6) (fun i => [(7, .sl false (ints parts)), (8, .gr 0 6), (10, .ptr 1 0), (11, .ptr 2 0), (33, natA pn), (34, natA k), (38, .sl false (ints parts)), (39, .int .i64 6), (9, natA (pqI parts out i).1), (40, natA i)])
            (fun i => [.grow 3 false (ints out), .cells [.int .i64 0, .int .i64 1], .cells [.int .i64 (pqI parts out i).2.1, .int .i64 (pqI parts out i).2.2]]) (fun i => 6 - i) 0 (by omega) rfl
            ⟨rfl, rfl, rfl, rfl, rfl, rfl, rfl, congrArg (fun n : Nat => some (AV.int .i64 n)) (by rw [List.length_map, pkl]), rfl, rfl, trivial⟩ ?_ ?_ ?_
          · intro i _
            constructor
            · intro x hx; simp at hx; rcases hx with rfl | rfl | rfl <;> first | exact lowI _ | rfl
            · intro p hp; simp at hp; rcases hp with rfl | rfl | rfl | rfl | rfl | rfl | rfl | rfl | rfl | rfl <;> first | exact lowI _ | rfl
          · intro i _; simp
          intro i hi
          have sk := pqI_ok pk ok i hi
          have hpn := pqI_succ parts out i
          have hwho : i = 6 → whoR parts out = (pqI parts out i).1 := fun h => by rw [h]; rfl
          generalize pqI parts out i = st at sk hpn hwho
          obtain ⟨who, b1, b2⟩ := st
          dsimp only at sk hwho ⊢
          have hb : ([b1, b2] == [0, 1]) = true ↔ (b1, b2) = ((0 : Int), (1 : Int)) := by simp
          have pv := pk.2 i
          have ov := ok.2 i
          have pv2 : 0 ≤ parts.getD i default ∧ parts.getD i default ≤ 100 * 9 := pv
          have ov2 : 0 ≤ out.getD (i : Int).toNat default ∧ out.getD (i : Int).toNat default ≤ k := ov
          have ow2 : 0 ≤ out.getD (who : Int).toNat default ∧ out.getD (who : Int).toNat default ≤ k := ok.2 who
          have hyes : ((b1, b2) = ((0 : Int), (1 : Int)) ∧ 0 < parts.getD i default) ∨ aboveB (parts.getD i default, 2 * out.getD (i : Int).toNat default + 1) (b1, b2) = true → pqI parts out (i + 1) = (i, parts.getD i default, 2 * out.getD (i : Int).toNat default + 1) := fun h => by rw [hpn]; unfold pq; exact if_pos h
          have hno : ¬ (((b1, b2) = ((0 : Int), (1 : Int)) ∧ 0 < parts.getD i default) ∨ aboveB (parts.getD i default, 2 * out.getD (i : Int).toNat default + 1) (b1, b2) = true) → pqI parts out (i + 1) = (who, b1, b2) := fun h => by rw [hpn]; unfold pq; exact if_neg h
          conv => whnf
          repeat' first
              | ((with_reducible apply XBr.tt); conv => whnf)
              | ((with_reducible apply XBr.ff); conv => whnf)
              | (with_reducible apply XBr.not)
              | ((with_reducible apply XBr.dec) <;> (intro h; first | (exfalso; omega) | ((try simp only [List.length_map] at h); first | (exfalso; omega) | (conv => whnf))))
              | ((with_reducible apply XBr.beq) <;> (intro h; first | (exfalso; omega) | (conv => whnf)))
              | ((with_reducible apply XBr.bne) <;> (intro h; first | (exfalso; omega) | (conv => whnf)))
              | ((with_reducible refine XInt.i64 (by omega) (by omega) ?_); conv => whnf)
              | ((with_reducible refine XHold.mk ?_ ?_); (first | omega | rfl | decide | exact ⟨rfl, by decide, rfl⟩ | exact wideI _ | exact widePr _ | exact wideSk _ | (unfold Room; constructor <;> ((try simp) <;> omega)) | exact ⟨rfl, by simp only [List.length_map], by unfold Room; constructor <;> ((try simp) <;> omega)⟩ | exact ⟨by omega, by omega, by unfold Room; constructor <;> ((try simp) <;> omega)⟩); conv => whnf)
              | ((with_reducible refine XIx.nat ?_ ?_ ?_); omega; (intro _; rfl); conv => whnf)
              | ((with_reducible refine XIx.map ?_ ?_ ?_ ?_); omega; omega; (intro _; rfl); conv => whnf)
              | (with_reducible apply XAnd.mk)
              | ((with_reducible apply Chk.go); conv => whnf)
              | ((with_reducible apply ChkA.go); conv => whnf)
              | ((with_reducible apply ChkF.go); conv => whnf)
              | ((with_reducible apply ChkB.go); conv => whnf)
              | (exact XSame.mk rfl rfl)
              | (exact XSame.mk (by first | rfl | (simp only [List.map_append, List.length_append, List.length_map]; done) | (simp only [List.map_append, List.length_append, List.length_map]; rfl)) (by first | rfl | (simp only [List.map_append]; done) | (simp only [List.map_append]; rfl)))
              | (with_reducible exact trivial)
              | ((with_reducible refine xdrop_app (by rw [List.length_map]; omega) ?_); conv => whnf)
              | ((with_reducible refine XArr.ints (by omega) (by omega) (by omega) ?_); conv => whnf)
              | ((with_reducible refine XArr.intsA (by omega) (by omega) (by omega) ?_); conv => whnf)
              | ((with_reducible refine XArr.nats ?_ ?_ ?_); omega; omega; conv => whnf)
              | ((with_reducible refine XArr.natsA ?_ ?_ ?_); omega; omega; conv => whnf)
              | ((with_reducible apply XArr.pim0); conv => whnf)
              | ((with_reducible apply XArr.pim1); conv => whnf)
              | ((with_reducible refine XArr.ptr ?_ ?_ ?_); omega; omega; conv => whnf)
              | ((refine XHold.mk ⟨by rw [List.length_map]; exact okl, rfl, by omega, by omega⟩ ?_); conv => whnf)
              | ((refine XGet.map (by rw [okl]) (by omega) ?_); conv => whnf)
              | ((refine XEqA.mk ⟨[b1, b2], [0, 1], rfl, rfl, rfl, rfl, ?_⟩); conv => whnf)
              | ((refine XCall.ret (above_c (parts.getD i default, 2 * out.getD (i : Int).toNat default + 1) (b1, b2) (by dsimp only; omega) (by dsimp only; omega) (by dsimp only; omega) (by dsimp only; omega)) ?_); conv => whnf)
              | ((with_reducible apply XBr.mk') <;> (intro h; conv => whnf))
          · have hy := hyes (.inl ⟨hb.1 (by assumption), h⟩)
            apply Walk.drawX tab_ok mixed_ok [] [3] (hsV _ [id, fun H => H.set 2 (.cells [.int .i64 (parts.getD i default), .int .i64 (2 * out.getD (i : Int).toNat default + 1)])]) [_, _, _, _] (by kernel_rfl) rfl
            · skip
              repeat' first
                  | ((with_reducible apply XBr.tt); conv => whnf)
                  | ((with_reducible apply XBr.ff); conv => whnf)
                  | (with_reducible apply XBr.not)
                  | ((with_reducible apply XBr.dec) <;> (intro h; first | (exfalso; omega) | ((try simp only [List.length_map] at h); first | (exfalso; omega) | (conv => whnf))))
                  | ((with_reducible apply XBr.beq) <;> (intro h; first | (exfalso; omega) | (conv => whnf)))
                  | ((with_reducible apply XBr.bne) <;> (intro h; first | (exfalso; omega) | (conv => whnf)))
                  | ((with_reducible refine XInt.i64 (by omega) (by omega) ?_); conv => whnf)
                  | ((with_reducible refine XHold.mk ?_ ?_); (first | omega | rfl | decide | exact ⟨rfl, by decide, rfl⟩ | exact wideI _ | exact widePr _ | exact wideSk _ | (unfold Room; constructor <;> ((try simp) <;> omega)) | exact ⟨rfl, by simp only [List.length_map], by unfold Room; constructor <;> ((try simp) <;> omega)⟩ | exact ⟨by omega, by omega, by unfold Room; constructor <;> ((try simp) <;> omega)⟩); conv => whnf)
                  | ((with_reducible refine XIx.nat ?_ ?_ ?_); omega; (intro _; rfl); conv => whnf)
                  | ((with_reducible refine XIx.map ?_ ?_ ?_ ?_); omega; omega; (intro _; rfl); conv => whnf)
                  | (with_reducible apply XAnd.mk)
                  | ((with_reducible apply Chk.go); conv => whnf)
                  | ((with_reducible apply ChkA.go); conv => whnf)
                  | ((with_reducible apply ChkF.go); conv => whnf)
                  | ((with_reducible apply ChkB.go); conv => whnf)
                  | (exact XSame.mk rfl rfl)
                  | (exact XSame.mk (by first | rfl | (simp only [List.map_append, List.length_append, List.length_map]; done) | (simp only [List.map_append, List.length_append, List.length_map]; rfl)) (by first | rfl | (simp only [List.map_append]; done) | (simp only [List.map_append]; rfl)))
                  | (with_reducible exact trivial)
                  | ((with_reducible refine xdrop_app (by rw [List.length_map]; omega) ?_); conv => whnf)
                  | ((with_reducible refine XArr.ints (by omega) (by omega) (by omega) ?_); conv => whnf)
                  | ((with_reducible refine XArr.intsA (by omega) (by omega) (by omega) ?_); conv => whnf)
                  | ((with_reducible refine XArr.nats ?_ ?_ ?_); omega; omega; conv => whnf)
                  | ((with_reducible refine XArr.natsA ?_ ?_ ?_); omega; omega; conv => whnf)
                  | ((with_reducible apply XArr.pim0); conv => whnf)
                  | ((with_reducible apply XArr.pim1); conv => whnf)
                  | ((with_reducible refine XArr.ptr ?_ ?_ ?_); omega; omega; conv => whnf)
                  | ((with_reducible apply XBr.mk') <;> (intro h; conv => whnf))
            · skip
              repeat' first
                  | ((with_reducible apply XBr.tt); conv => whnf)
                  | ((with_reducible apply XBr.ff); conv => whnf)
                  | (with_reducible apply XBr.not)
                  | ((with_reducible apply XBr.dec) <;> (intro h; first | (exfalso; omega) | ((try simp only [List.length_map] at h); first | (exfalso; omega) | (conv => whnf))))
                  | ((with_reducible apply XBr.beq) <;> (intro h; first | (exfalso; omega) | (conv => whnf)))
                  | ((with_reducible apply XBr.bne) <;> (intro h; first | (exfalso; omega) | (conv => whnf)))
                  | ((with_reducible refine XInt.i64 (by omega) (by omega) ?_); conv => whnf)
                  | ((with_reducible refine XHold.mk ?_ ?_); (first | omega | rfl | decide | exact ⟨rfl, by decide, rfl⟩ | exact wideI _ | exact widePr _ | exact wideSk _ | (unfold Room; constructor <;> ((try simp) <;> omega)) | exact ⟨rfl, by simp only [List.length_map], by unfold Room; constructor <;> ((try simp) <;> omega)⟩ | exact ⟨by omega, by omega, by unfold Room; constructor <;> ((try simp) <;> omega)⟩); conv => whnf)
                  | ((with_reducible refine XIx.nat ?_ ?_ ?_); omega; (intro _; rfl); conv => whnf)
                  | ((with_reducible refine XIx.map ?_ ?_ ?_ ?_); omega; omega; (intro _; rfl); conv => whnf)
                  | (with_reducible apply XAnd.mk)
                  | ((with_reducible apply Chk.go); conv => whnf)
                  | ((with_reducible apply ChkA.go); conv => whnf)
                  | ((with_reducible apply ChkF.go); conv => whnf)
                  | ((with_reducible apply ChkB.go); conv => whnf)
                  | (exact XSame.mk rfl rfl)
                  | (exact XSame.mk (by first | rfl | (simp only [List.map_append, List.length_append, List.length_map]; done) | (simp only [List.map_append, List.length_append, List.length_map]; rfl)) (by first | rfl | (simp only [List.map_append]; done) | (simp only [List.map_append]; rfl)))
                  | (with_reducible exact trivial)
                  | ((with_reducible refine xdrop_app (by rw [List.length_map]; omega) ?_); conv => whnf)
                  | ((with_reducible refine XArr.ints (by omega) (by omega) (by omega) ?_); conv => whnf)
                  | ((with_reducible refine XArr.intsA (by omega) (by omega) (by omega) ?_); conv => whnf)
                  | ((with_reducible refine XArr.nats ?_ ?_ ?_); omega; omega; conv => whnf)
                  | ((with_reducible refine XArr.natsA ?_ ?_ ?_); omega; omega; conv => whnf)
                  | ((with_reducible apply XArr.pim0); conv => whnf)
                  | ((with_reducible apply XArr.pim1); conv => whnf)
                  | ((with_reducible refine XArr.ptr ?_ ?_ ?_); omega; omega; conv => whnf)
                  | ((with_reducible apply XBr.mk') <;> (intro h; conv => whnf))
            · conv => whnf
              repeat' first
                  | ((with_reducible apply XBr.tt); conv => whnf)
                  | ((with_reducible apply XBr.ff); conv => whnf)
                  | (with_reducible apply XBr.not)
                  | ((with_reducible apply XBr.dec) <;> (intro h; first | (exfalso; omega) | ((try simp only [List.length_map] at h); first | (exfalso; omega) | (conv => whnf))))
                  | ((with_reducible apply XBr.beq) <;> (intro h; first | (exfalso; omega) | (conv => whnf)))
                  | ((with_reducible apply XBr.bne) <;> (intro h; first | (exfalso; omega) | (conv => whnf)))
                  | ((with_reducible refine XInt.i64 (by omega) (by omega) ?_); conv => whnf)
                  | ((with_reducible refine XHold.mk ?_ ?_); (first | omega | rfl | decide | exact ⟨rfl, by decide, rfl⟩ | exact wideI _ | exact widePr _ | exact wideSk _ | (unfold Room; constructor <;> ((try simp) <;> omega)) | exact ⟨rfl, by simp only [List.length_map], by unfold Room; constructor <;> ((try simp) <;> omega)⟩ | exact ⟨by omega, by omega, by unfold Room; constructor <;> ((try simp) <;> omega)⟩); conv => whnf)
                  | ((with_reducible refine XIx.nat ?_ ?_ ?_); omega; (intro _; rfl); conv => whnf)
                  | ((with_reducible refine XIx.map ?_ ?_ ?_ ?_); omega; omega; (intro _; rfl); conv => whnf)
                  | (with_reducible apply XAnd.mk)
                  | ((with_reducible apply Chk.go); conv => whnf)
                  | ((with_reducible apply ChkA.go); conv => whnf)
                  | ((with_reducible apply ChkF.go); conv => whnf)
                  | ((with_reducible apply ChkB.go); conv => whnf)
                  | (exact XSame.mk rfl rfl)
                  | (exact XSame.mk (by first | rfl | (simp only [List.map_append, List.length_append, List.length_map]; done) | (simp only [List.map_append, List.length_append, List.length_map]; rfl)) (by first | rfl | (simp only [List.map_append]; done) | (simp only [List.map_append]; rfl)))
                  | (with_reducible exact trivial)
                  | ((with_reducible refine xdrop_app (by rw [List.length_map]; omega) ?_); conv => whnf)
                  | ((with_reducible refine XArr.ints (by omega) (by omega) (by omega) ?_); conv => whnf)
                  | ((with_reducible refine XArr.intsA (by omega) (by omega) (by omega) ?_); conv => whnf)
                  | ((with_reducible refine XArr.nats ?_ ?_ ?_); omega; omega; conv => whnf)
                  | ((with_reducible refine XArr.natsA ?_ ?_ ?_); omega; omega; conv => whnf)
                  | ((with_reducible apply XArr.pim0); conv => whnf)
                  | ((with_reducible apply XArr.pim1); conv => whnf)
                  | ((with_reducible refine XArr.ptr ?_ ?_ ?_); omega; omega; conv => whnf)
                  | ((with_reducible apply XBr.mk') <;> (intro h; conv => whnf))
              refine XAgainG.go (i + 1) [.cells [.int .i64 (parts.getD i default), .int .i64 (2 * out.getD (i : Int).toNat default + 1)]] (by omega) (by omega) ?_ ?_
              · rw [hy]; rfl
              · rw [hy]; exact ⟨rfl, rfl, rfl, rfl, rfl, rfl, rfl, rfl, rfl, rfl, trivial⟩
          · have hy := hyes (.inr h)
            apply Walk.drawX tab_ok mixed_ok [] [3] (hsV _ [id, fun H => H.set 2 (.cells [.int .i64 (parts.getD i default), .int .i64 (2 * out.getD (i : Int).toNat default + 1)])]) [_, _, _, _] (by kernel_rfl) rfl
            · skip
              repeat' first
                  | ((with_reducible apply XBr.tt); conv => whnf)
                  | ((with_reducible apply XBr.ff); conv => whnf)
                  | (with_reducible apply XBr.not)
                  | ((with_reducible apply XBr.dec) <;> (intro h; first | (exfalso; omega) | ((try simp only [List.length_map] at h); first | (exfalso; omega) | (conv => whnf))))
                  | ((with_reducible apply XBr.beq) <;> (intro h; first | (exfalso; omega) | (conv => whnf)))
                  | ((with_reducible apply XBr.bne) <;> (intro h; first | (exfalso; omega) | (conv => whnf)))
                  | ((with_reducible refine XInt.i64 (by omega) (by omega) ?_); conv => whnf)
                  | ((with_reducible refine XHold.mk ?_ ?_); (first | omega | rfl | decide | exact ⟨rfl, by decide, rfl⟩ | exact wideI _ | exact widePr _ | exact wideSk _ | (unfold Room; constructor <;> ((try simp) <;> omega)) | exact ⟨rfl, by simp only [List.length_map], by unfold Room; constructor <;> ((try simp) <;> omega)⟩ | exact ⟨by omega, by omega, by unfold Room; constructor <;> ((try simp) <;> omega)⟩); conv => whnf)
                  | ((with_reducible refine XIx.nat ?_ ?_ ?_); omega; (intro _; rfl); conv => whnf)
                  | ((with_reducible refine XIx.map ?_ ?_ ?_ ?_); omega; omega; (intro _; rfl); conv => whnf)
                  | (with_reducible apply XAnd.mk)
                  | ((with_reducible apply Chk.go); conv => whnf)
                  | ((with_reducible apply ChkA.go); conv => whnf)
                  | ((with_reducible apply ChkF.go); conv => whnf)
                  | ((with_reducible apply ChkB.go); conv => whnf)
                  | (exact XSame.mk rfl rfl)
                  | (exact XSame.mk (by first | rfl | (simp only [List.map_append, List.length_append, List.length_map]; done) | (simp only [List.map_append, List.length_append, List.length_map]; rfl)) (by first | rfl | (simp only [List.map_append]; done) | (simp only [List.map_append]; rfl)))
                  | (with_reducible exact trivial)
                  | ((with_reducible refine xdrop_app (by rw [List.length_map]; omega) ?_); conv => whnf)
                  | ((with_reducible refine XArr.ints (by omega) (by omega) (by omega) ?_); conv => whnf)
                  | ((with_reducible refine XArr.intsA (by omega) (by omega) (by omega) ?_); conv => whnf)
                  | ((with_reducible refine XArr.nats ?_ ?_ ?_); omega; omega; conv => whnf)
                  | ((with_reducible refine XArr.natsA ?_ ?_ ?_); omega; omega; conv => whnf)
                  | ((with_reducible apply XArr.pim0); conv => whnf)
                  | ((with_reducible apply XArr.pim1); conv => whnf)
                  | ((with_reducible refine XArr.ptr ?_ ?_ ?_); omega; omega; conv => whnf)
                  | ((with_reducible apply XBr.mk') <;> (intro h; conv => whnf))
            · skip
              repeat' first
                  | ((with_reducible apply XBr.tt); conv => whnf)
                  | ((with_reducible apply XBr.ff); conv => whnf)
                  | (with_reducible apply XBr.not)
                  | ((with_reducible apply XBr.dec) <;> (intro h; first | (exfalso; omega) | ((try simp only [List.length_map] at h); first | (exfalso; omega) | (conv => whnf))))
                  | ((with_reducible apply XBr.beq) <;> (intro h; first | (exfalso; omega) | (conv => whnf)))
                  | ((with_reducible apply XBr.bne) <;> (intro h; first | (exfalso; omega) | (conv => whnf)))
                  | ((with_reducible refine XInt.i64 (by omega) (by omega) ?_); conv => whnf)
                  | ((with_reducible refine XHold.mk ?_ ?_); (first | omega | rfl | decide | exact ⟨rfl, by decide, rfl⟩ | exact wideI _ | exact widePr _ | exact wideSk _ | (unfold Room; constructor <;> ((try simp) <;> omega)) | exact ⟨rfl, by simp only [List.length_map], by unfold Room; constructor <;> ((try simp) <;> omega)⟩ | exact ⟨by omega, by omega, by unfold Room; constructor <;> ((try simp) <;> omega)⟩); conv => whnf)
                  | ((with_reducible refine XIx.nat ?_ ?_ ?_); omega; (intro _; rfl); conv => whnf)
                  | ((with_reducible refine XIx.map ?_ ?_ ?_ ?_); omega; omega; (intro _; rfl); conv => whnf)
                  | (with_reducible apply XAnd.mk)
                  | ((with_reducible apply Chk.go); conv => whnf)
                  | ((with_reducible apply ChkA.go); conv => whnf)
                  | ((with_reducible apply ChkF.go); conv => whnf)
                  | ((with_reducible apply ChkB.go); conv => whnf)
                  | (exact XSame.mk rfl rfl)
                  | (exact XSame.mk (by first | rfl | (simp only [List.map_append, List.length_append, List.length_map]; done) | (simp only [List.map_append, List.length_append, List.length_map]; rfl)) (by first | rfl | (simp only [List.map_append]; done) | (simp only [List.map_append]; rfl)))
                  | (with_reducible exact trivial)
                  | ((with_reducible refine xdrop_app (by rw [List.length_map]; omega) ?_); conv => whnf)
                  | ((with_reducible refine XArr.ints (by omega) (by omega) (by omega) ?_); conv => whnf)
                  | ((with_reducible refine XArr.intsA (by omega) (by omega) (by omega) ?_); conv => whnf)
                  | ((with_reducible refine XArr.nats ?_ ?_ ?_); omega; omega; conv => whnf)
                  | ((with_reducible refine XArr.natsA ?_ ?_ ?_); omega; omega; conv => whnf)
                  | ((with_reducible apply XArr.pim0); conv => whnf)
                  | ((with_reducible apply XArr.pim1); conv => whnf)
                  | ((with_reducible refine XArr.ptr ?_ ?_ ?_); omega; omega; conv => whnf)
                  | ((with_reducible apply XBr.mk') <;> (intro h; conv => whnf))
            · conv => whnf
              repeat' first
                  | ((with_reducible apply XBr.tt); conv => whnf)
                  | ((with_reducible apply XBr.ff); conv => whnf)
                  | (with_reducible apply XBr.not)
                  | ((with_reducible apply XBr.dec) <;> (intro h; first | (exfalso; omega) | ((try simp only [List.length_map] at h); first | (exfalso; omega) | (conv => whnf))))
                  | ((with_reducible apply XBr.beq) <;> (intro h; first | (exfalso; omega) | (conv => whnf)))
                  | ((with_reducible apply XBr.bne) <;> (intro h; first | (exfalso; omega) | (conv => whnf)))
                  | ((with_reducible refine XInt.i64 (by omega) (by omega) ?_); conv => whnf)
                  | ((with_reducible refine XHold.mk ?_ ?_); (first | omega | rfl | decide | exact ⟨rfl, by decide, rfl⟩ | exact wideI _ | exact widePr _ | exact wideSk _ | (unfold Room; constructor <;> ((try simp) <;> omega)) | exact ⟨rfl, by simp only [List.length_map], by unfold Room; constructor <;> ((try simp) <;> omega)⟩ | exact ⟨by omega, by omega, by unfold Room; constructor <;> ((try simp) <;> omega)⟩); conv => whnf)
                  | ((with_reducible refine XIx.nat ?_ ?_ ?_); omega; (intro _; rfl); conv => whnf)
                  | ((with_reducible refine XIx.map ?_ ?_ ?_ ?_); omega; omega; (intro _; rfl); conv => whnf)
                  | (with_reducible apply XAnd.mk)
                  | ((with_reducible apply Chk.go); conv => whnf)
                  | ((with_reducible apply ChkA.go); conv => whnf)
                  | ((with_reducible apply ChkF.go); conv => whnf)
                  | ((with_reducible apply ChkB.go); conv => whnf)
                  | (exact XSame.mk rfl rfl)
                  | (exact XSame.mk (by first | rfl | (simp only [List.map_append, List.length_append, List.length_map]; done) | (simp only [List.map_append, List.length_append, List.length_map]; rfl)) (by first | rfl | (simp only [List.map_append]; done) | (simp only [List.map_append]; rfl)))
                  | (with_reducible exact trivial)
                  | ((with_reducible refine xdrop_app (by rw [List.length_map]; omega) ?_); conv => whnf)
                  | ((with_reducible refine XArr.ints (by omega) (by omega) (by omega) ?_); conv => whnf)
                  | ((with_reducible refine XArr.intsA (by omega) (by omega) (by omega) ?_); conv => whnf)
                  | ((with_reducible refine XArr.nats ?_ ?_ ?_); omega; omega; conv => whnf)
                  | ((with_reducible refine XArr.natsA ?_ ?_ ?_); omega; omega; conv => whnf)
                  | ((with_reducible apply XArr.pim0); conv => whnf)
                  | ((with_reducible apply XArr.pim1); conv => whnf)
                  | ((with_reducible refine XArr.ptr ?_ ?_ ?_); omega; omega; conv => whnf)
                  | ((with_reducible apply XBr.mk') <;> (intro h; conv => whnf))
              refine XAgainG.go (i + 1) [.cells [.int .i64 (parts.getD i default), .int .i64 (2 * out.getD (i : Int).toNat default + 1)]] (by omega) (by omega) ?_ ?_
              · rw [hy]; rfl
              · rw [hy]; exact ⟨rfl, rfl, rfl, rfl, rfl, rfl, rfl, rfl, rfl, rfl, trivial⟩
          · have hn := hno (fun hh => by
              rcases hh with ⟨_, e⟩ | e
              · exact (by assumption : ¬ 0 < parts.getD i default) e
              · rw [h] at e; cases e)
            refine XAgainG.go (i + 1) [.cells [.int .i64 (parts.getD i default), .int .i64 (2 * out.getD (i : Int).toNat default + 1)]] (by omega) (by omega) ?_ ?_
            · rw [hn]; rfl
            · rw [hn]; exact ⟨rfl, rfl, rfl, rfl, rfl, rfl, rfl, rfl, rfl, rfl, trivial⟩
          · have hy := hyes (.inr h)
            apply Walk.drawX tab_ok mixed_ok [] [3] (hsV _ [id, fun H => H.set 2 (.cells [.int .i64 (parts.getD i default), .int .i64 (2 * out.getD (i : Int).toNat default + 1)])]) [_, _, _, _] (by kernel_rfl) rfl
            · skip
              repeat' first
                  | ((with_reducible apply XBr.tt); conv => whnf)
                  | ((with_reducible apply XBr.ff); conv => whnf)
                  | (with_reducible apply XBr.not)
                  | ((with_reducible apply XBr.dec) <;> (intro h; first | (exfalso; omega) | ((try simp only [List.length_map] at h); first | (exfalso; omega) | (conv => whnf))))
                  | ((with_reducible apply XBr.beq) <;> (intro h; first | (exfalso; omega) | (conv => whnf)))
                  | ((with_reducible apply XBr.bne) <;> (intro h; first | (exfalso; omega) | (conv => whnf)))
                  | ((with_reducible refine XInt.i64 (by omega) (by omega) ?_); conv => whnf)
                  | ((with_reducible refine XHold.mk ?_ ?_); (first | omega | rfl | decide | exact ⟨rfl, by decide, rfl⟩ | exact wideI _ | exact widePr _ | exact wideSk _ | (unfold Room; constructor <;> ((try simp) <;> omega)) | exact ⟨rfl, by simp only [List.length_map], by unfold Room; constructor <;> ((try simp) <;> omega)⟩ | exact ⟨by omega, by omega, by unfold Room; constructor <;> ((try simp) <;> omega)⟩); conv => whnf)
                  | ((with_reducible refine XIx.nat ?_ ?_ ?_); omega; (intro _; rfl); conv => whnf)
                  | ((with_reducible refine XIx.map ?_ ?_ ?_ ?_); omega; omega; (intro _; rfl); conv => whnf)
                  | (with_reducible apply XAnd.mk)
                  | ((with_reducible apply Chk.go); conv => whnf)
                  | ((with_reducible apply ChkA.go); conv => whnf)
                  | ((with_reducible apply ChkF.go); conv => whnf)
                  | ((with_reducible apply ChkB.go); conv => whnf)
                  | (exact XSame.mk rfl rfl)
                  | (exact XSame.mk (by first | rfl | (simp only [List.map_append, List.length_append, List.length_map]; done) | (simp only [List.map_append, List.length_append, List.length_map]; rfl)) (by first | rfl | (simp only [List.map_append]; done) | (simp only [List.map_append]; rfl)))
                  | (with_reducible exact trivial)
                  | ((with_reducible refine xdrop_app (by rw [List.length_map]; omega) ?_); conv => whnf)
                  | ((with_reducible refine XArr.ints (by omega) (by omega) (by omega) ?_); conv => whnf)
                  | ((with_reducible refine XArr.intsA (by omega) (by omega) (by omega) ?_); conv => whnf)
                  | ((with_reducible refine XArr.nats ?_ ?_ ?_); omega; omega; conv => whnf)
                  | ((with_reducible refine XArr.natsA ?_ ?_ ?_); omega; omega; conv => whnf)
                  | ((with_reducible apply XArr.pim0); conv => whnf)
                  | ((with_reducible apply XArr.pim1); conv => whnf)
                  | ((with_reducible refine XArr.ptr ?_ ?_ ?_); omega; omega; conv => whnf)
                  | ((with_reducible apply XBr.mk') <;> (intro h; conv => whnf))
            · skip
              repeat' first
                  | ((with_reducible apply XBr.tt); conv => whnf)
                  | ((with_reducible apply XBr.ff); conv => whnf)
                  | (with_reducible apply XBr.not)
                  | ((with_reducible apply XBr.dec) <;> (intro h; first | (exfalso; omega) | ((try simp only [List.length_map] at h); first | (exfalso; omega) | (conv => whnf))))
                  | ((with_reducible apply XBr.beq) <;> (intro h; first | (exfalso; omega) | (conv => whnf)))
                  | ((with_reducible apply XBr.bne) <;> (intro h; first | (exfalso; omega) | (conv => whnf)))
                  | ((with_reducible refine XInt.i64 (by omega) (by omega) ?_); conv => whnf)
                  | ((with_reducible refine XHold.mk ?_ ?_); (first | omega | rfl | decide | exact ⟨rfl, by decide, rfl⟩ | exact wideI _ | exact widePr _ | exact wideSk _ | (unfold Room; constructor <;> ((try simp) <;> omega)) | exact ⟨rfl, by simp only [List.length_map], by unfold Room; constructor <;> ((try simp) <;> omega)⟩ | exact ⟨by omega, by omega, by unfold Room; constructor <;> ((try simp) <;> omega)⟩); conv => whnf)
                  | ((with_reducible refine XIx.nat ?_ ?_ ?_); omega; (intro _; rfl); conv => whnf)
                  | ((with_reducible refine XIx.map ?_ ?_ ?_ ?_); omega; omega; (intro _; rfl); conv => whnf)
                  | (with_reducible apply XAnd.mk)
                  | ((with_reducible apply Chk.go); conv => whnf)
                  | ((with_reducible apply ChkA.go); conv => whnf)
                  | ((with_reducible apply ChkF.go); conv => whnf)
                  | ((with_reducible apply ChkB.go); conv => whnf)
                  | (exact XSame.mk rfl rfl)
                  | (exact XSame.mk (by first | rfl | (simp only [List.map_append, List.length_append, List.length_map]; done) | (simp only [List.map_append, List.length_append, List.length_map]; rfl)) (by first | rfl | (simp only [List.map_append]; done) | (simp only [List.map_append]; rfl)))
                  | (with_reducible exact trivial)
                  | ((with_reducible refine xdrop_app (by rw [List.length_map]; omega) ?_); conv => whnf)
                  | ((with_reducible refine XArr.ints (by omega) (by omega) (by omega) ?_); conv => whnf)
                  | ((with_reducible refine XArr.intsA (by omega) (by omega) (by omega) ?_); conv => whnf)
                  | ((with_reducible refine XArr.nats ?_ ?_ ?_); omega; omega; conv => whnf)
                  | ((with_reducible refine XArr.natsA ?_ ?_ ?_); omega; omega; conv => whnf)
                  | ((with_reducible apply XArr.pim0); conv => whnf)
                  | ((with_reducible apply XArr.pim1); conv => whnf)
                  | ((with_reducible refine XArr.ptr ?_ ?_ ?_); omega; omega; conv => whnf)
                  | ((with_reducible apply XBr.mk') <;> (intro h; conv => whnf))
            · conv => whnf
              repeat' first
                  | ((with_reducible apply XBr.tt); conv => whnf)
                  | ((with_reducible apply XBr.ff); conv => whnf)
                  | (with_reducible apply XBr.not)
                  | ((with_reducible apply XBr.dec) <;> (intro h; first | (exfalso; omega) | ((try simp only [List.length_map] at h); first | (exfalso; omega) | (conv => whnf))))
                  | ((with_reducible apply XBr.beq) <;> (intro h; first | (exfalso; omega) | (conv => whnf)))
                  | ((with_reducible apply XBr.bne) <;> (intro h; first | (exfalso; omega) | (conv => whnf)))
                  | ((with_reducible refine XInt.i64 (by omega) (by omega) ?_); conv => whnf)
                  | ((with_reducible refine XHold.mk ?_ ?_); (first | omega | rfl | decide | exact ⟨rfl, by decide, rfl⟩ | exact wideI _ | exact widePr _ | exact wideSk _ | (unfold Room; constructor <;> ((try simp) <;> omega)) | exact ⟨rfl, by simp only [List.length_map], by unfold Room; constructor <;> ((try simp) <;> omega)⟩ | exact ⟨by omega, by omega, by unfold Room; constructor <;> ((try simp) <;> omega)⟩); conv => whnf)
                  | ((with_reducible refine XIx.nat ?_ ?_ ?_); omega; (intro _; rfl); conv => whnf)
                  | ((with_reducible refine XIx.map ?_ ?_ ?_ ?_); omega; omega; (intro _; rfl); conv => whnf)
                  | (with_reducible apply XAnd.mk)
                  | ((with_reducible apply Chk.go); conv => whnf)
                  | ((with_reducible apply ChkA.go); conv => whnf)
                  | ((with_reducible apply ChkF.go); conv => whnf)
                  | ((with_reducible apply ChkB.go); conv => whnf)
                  | (exact XSame.mk rfl rfl)
                  | (exact XSame.mk (by first | rfl | (simp only [List.map_append, List.length_append, List.length_map]; done) | (simp only [List.map_append, List.length_append, List.length_map]; rfl)) (by first | rfl | (simp only [List.map_append]; done) | (simp only [List.map_append]; rfl)))
                  | (with_reducible exact trivial)
                  | ((with_reducible refine xdrop_app (by rw [List.length_map]; omega) ?_); conv => whnf)
                  | ((with_reducible refine XArr.ints (by omega) (by omega) (by omega) ?_); conv => whnf)
                  | ((with_reducible refine XArr.intsA (by omega) (by omega) (by omega) ?_); conv => whnf)
                  | ((with_reducible refine XArr.nats ?_ ?_ ?_); omega; omega; conv => whnf)
                  | ((with_reducible refine XArr.natsA ?_ ?_ ?_); omega; omega; conv => whnf)
                  | ((with_reducible apply XArr.pim0); conv => whnf)
                  | ((with_reducible apply XArr.pim1); conv => whnf)
                  | ((with_reducible refine XArr.ptr ?_ ?_ ?_); omega; omega; conv => whnf)
                  | ((with_reducible apply XBr.mk') <;> (intro h; conv => whnf))
              refine XAgainG.go (i + 1) [.cells [.int .i64 (parts.getD i default), .int .i64 (2 * out.getD (i : Int).toNat default + 1)]] (by omega) (by omega) ?_ ?_
              · rw [hy]; rfl
              · rw [hy]; exact ⟨rfl, rfl, rfl, rfl, rfl, rfl, rfl, rfl, rfl, rfl, trivial⟩
          · have hn := hno (fun hh => by
              rcases hh with ⟨e, _⟩ | e
              · have := hb.2 e; simp_all
              · rw [h] at e; cases e)
            refine XAgainG.go (i + 1) [.cells [.int .i64 (parts.getD i default), .int .i64 (2 * out.getD (i : Int).toNat default + 1)]] (by omega) (by omega) ?_ ?_
            · rw [hn]; rfl
            · rw [hn]; exact ⟨rfl, rfl, rfl, rfl, rfl, rfl, rfl, rfl, rfl, rfl, trivial⟩
          · have hie : i = 6 := by omega
            refine XPut.map (out.getD (who : Int).toNat default + 1) rfl (by rw [okl]) (by omega) ?_
            conv => whnf
            repeat' first
                | ((with_reducible apply XBr.tt); conv => whnf)
                | ((with_reducible apply XBr.ff); conv => whnf)
                | (with_reducible apply XBr.not)
                | ((with_reducible apply XBr.dec) <;> (intro h; first | (exfalso; omega) | ((try simp only [List.length_map] at h); first | (exfalso; omega) | (conv => whnf))))
                | ((with_reducible apply XBr.beq) <;> (intro h; first | (exfalso; omega) | (conv => whnf)))
                | ((with_reducible apply XBr.bne) <;> (intro h; first | (exfalso; omega) | (conv => whnf)))
                | ((with_reducible refine XInt.i64 (by omega) (by omega) ?_); conv => whnf)
                | ((with_reducible refine XHold.mk ?_ ?_); (first | omega | rfl | decide | exact ⟨rfl, by decide, rfl⟩ | exact wideI _ | exact widePr _ | exact wideSk _ | (unfold Room; constructor <;> ((try simp) <;> omega)) | exact ⟨rfl, by simp only [List.length_map], by unfold Room; constructor <;> ((try simp) <;> omega)⟩ | exact ⟨by omega, by omega, by unfold Room; constructor <;> ((try simp) <;> omega)⟩); conv => whnf)
                | ((with_reducible refine XIx.nat ?_ ?_ ?_); omega; (intro _; rfl); conv => whnf)
                | ((with_reducible refine XIx.map ?_ ?_ ?_ ?_); omega; omega; (intro _; rfl); conv => whnf)
                | (with_reducible apply XAnd.mk)
                | ((with_reducible apply Chk.go); conv => whnf)
                | ((with_reducible apply ChkA.go); conv => whnf)
                | ((with_reducible apply ChkF.go); conv => whnf)
                | ((with_reducible apply ChkB.go); conv => whnf)
                | (exact XSame.mk rfl rfl)
                | (exact XSame.mk (by first | rfl | (simp only [List.map_append, List.length_append, List.length_map]; done) | (simp only [List.map_append, List.length_append, List.length_map]; rfl)) (by first | rfl | (simp only [List.map_append]; done) | (simp only [List.map_append]; rfl)))
                | (with_reducible exact trivial)
                | ((with_reducible refine xdrop_app (by rw [List.length_map]; omega) ?_); conv => whnf)
                | ((with_reducible refine XArr.ints (by omega) (by omega) (by omega) ?_); conv => whnf)
                | ((with_reducible refine XArr.intsA (by omega) (by omega) (by omega) ?_); conv => whnf)
                | ((with_reducible refine XArr.nats ?_ ?_ ?_); omega; omega; conv => whnf)
                | ((with_reducible refine XArr.natsA ?_ ?_ ?_); omega; omega; conv => whnf)
                | ((with_reducible apply XArr.pim0); conv => whnf)
                | ((with_reducible apply XArr.pim1); conv => whnf)
                | ((with_reducible refine XArr.ptr ?_ ?_ ?_); omega; omega; conv => whnf)
                | ((with_reducible apply XBr.mk') <;> (intro h; conv => whnf))
            refine XAgainG.go (k + 1) [.cells [.int .i64 0, .int .i64 1], .cells [.int .i64 b1, .int .i64 b2]] (by omega) (by omega) ?_ ⟨rfl, rfl, rfl, rfl, trivial⟩
            rw [hnx]; unfold shareStep; rw [hwho hie]; rfl
        · skip
          rw [hfin (by omega)]
          exact ⟨Froz.tup (.cons (Froz.grow rfl (by rw [List.length_map]; exact okl) (lowI _)) (.cons (Froz.low rfl) .nil))⟩
      · rw [if_neg (fun hh => h hh.1)]
        have pkl := pk.1
        obtain ⟨pn, rfl⟩ := Int.eq_ofNat_of_zero_le hbd.1
        rw [Int.toNat_natCast]
        refine Walk.loopG tab_ok [] (fun k : Nat => k ≤ pn) (fun k => [(7, .sl false (ints parts)), (8, .gr 0 6), (33, natA pn), (34, natA k)])
          (fun k => [.grow 3 false (ints (shareI parts k))]) (fun k => pn - k) 0 (by omega) rfl ⟨rfl, rfl, rfl, rfl, trivial⟩ ?_ ?_ ?_
        · intro k _
          constructor
          · intro x hx; simp at hx; subst hx; exact lowI _
          · intro p hp; simp at hp; rcases hp with rfl | rfl | rfl | rfl <;> first | exact lowI _ | rfl
        · intro k _; simp
        intro k hk
        have ok := shareI_ok pk k
        have hnx : shareI parts (k + 1) = shareStep parts (shareI parts k) := rfl
        have hfin : k = pn → shareI parts pn = shareI parts k := fun h => by rw [h]
        generalize shareI parts k = out at ok hnx hfin
        have okl := ok.1
        conv => whnf
        repeat' first
            | ((with_reducible apply XBr.tt); conv => whnf)
            | ((with_reducible apply XBr.ff); conv => whnf)
            | (with_reducible apply XBr.not)
            | ((with_reducible apply XBr.dec) <;> (intro h; first | (exfalso; omega) | ((try simp only [List.length_map] at h); first | (exfalso; omega) | (conv => whnf))))
            | ((with_reducible apply XBr.beq) <;> (intro h; first | (exfalso; omega) | (conv => whnf)))
            | ((with_reducible apply XBr.bne) <;> (intro h; first | (exfalso; omega) | (conv => whnf)))
            | ((with_reducible refine XInt.i64 (by omega) (by omega) ?_); conv => whnf)
            | ((with_reducible refine XHold.mk ?_ ?_); (first | omega | rfl | decide | exact ⟨rfl, by decide, rfl⟩ | exact wideI _ | exact widePr _ | exact wideSk _ | (unfold Room; constructor <;> ((try simp) <;> omega)) | exact ⟨rfl, by simp only [List.length_map], by unfold Room; constructor <;> ((try simp) <;> omega)⟩ | exact ⟨by omega, by omega, by unfold Room; constructor <;> ((try simp) <;> omega)⟩); conv => whnf)
            | ((with_reducible refine XIx.nat ?_ ?_ ?_); omega; (intro _; rfl); conv => whnf)
            | ((with_reducible refine XIx.map ?_ ?_ ?_ ?_); omega; omega; (intro _; rfl); conv => whnf)
            | (with_reducible apply XAnd.mk)
            | ((with_reducible apply Chk.go); conv => whnf)
            | ((with_reducible apply ChkA.go); conv => whnf)
            | ((with_reducible apply ChkF.go); conv => whnf)
            | ((with_reducible apply ChkB.go); conv => whnf)
            | (exact XSame.mk rfl rfl)
            | (exact XSame.mk (by first | rfl | (simp only [List.map_append, List.length_append, List.length_map]; done) | (simp only [List.map_append, List.length_append, List.length_map]; rfl)) (by first | rfl | (simp only [List.map_append]; done) | (simp only [List.map_append]; rfl)))
            | (with_reducible exact trivial)
            | ((with_reducible refine xdrop_app (by rw [List.length_map]; omega) ?_); conv => whnf)
            | ((with_reducible refine XArr.ints (by omega) (by omega) (by omega) ?_); conv => whnf)
            | ((with_reducible refine XArr.intsA (by omega) (by omega) (by omega) ?_); conv => whnf)
            | ((with_reducible refine XArr.nats ?_ ?_ ?_); omega; omega; conv => whnf)
            | ((with_reducible refine XArr.natsA ?_ ?_ ?_); omega; omega; conv => whnf)
            | ((with_reducible apply XArr.pim0); conv => whnf)
            | ((with_reducible apply XArr.pim1); conv => whnf)
            | ((with_reducible refine XArr.ptr ?_ ?_ ?_); omega; omega; conv => whnf)
            | ((with_reducible apply XBr.mk') <;> (intro h; conv => whnf))
        rw [hfin (by omega)]
        exact ⟨Froz.tup (.cons (Froz.grow rfl (by rw [List.length_map]; exact okl) (lowI _)) (.cons (Froz.low rfl) .nil))⟩
  · have he : shareE l pay = 3 := by unfold shareE; rw [if_neg (by omega), if_pos h]
    exact ⟨by unfold shareR; rw [if_neg (by omega), he]; exact Froz.low rfl⟩
end GA
