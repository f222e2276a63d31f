/- Part 5 of a proof: F1, F8, F2, F4, F3, F5, F6, F9, F10, F11, F12, F13, F14, F15, F18. -/
import Derived.Test.YthbicahnhcjkjaaGreatP4
section
namespace GA
open Go Go.RowKit Go.Proofs
set_option pp.deepTerms true
set_option maxRecDepth 8000
set_option linter.unusedVariables false
set_option linter.unusedSimpArgs false

theorem ziL {n : Nat} (x : Int) : (AV.int .i64 x).low n = true := rfl
theorem idxf_zi (nl : Bool) (xs : List Int) (g : FuncId) (caps : List AV) (p : Int → Bool) (hl : lowL 0 caps = true) (hx : xs.length ≤ 100000) (hp : ∀ x ∈ xs, Comp Tryz.prog g ((AV.int .i64 x) :: caps) (.bool (p x))) :
    Comp Tryz.prog 107 [.sl nl (xs.map (AV.int .i64)), .fn g caps] (.int .i64 (idxR p xs)) := by
  refine Comp.body (T := tab) (res := [.tmp 4]) tab_ok [] Tryz.func107 rfl (by kernel_rfl) Tryz.ntmps107 rfl (by simp only [List.length_cons, List.length_nil]; decide) (by simp only [lowL, AV.low, lowI, hl]; rfl) ?_; conv => whnf
  refine Walk.loop tab_ok [] (fun i : Nat => i ≤ xs.length ∧ ∀ j, j < i → p (xs.getD j default) = false) (fun i => [(0, .sl nl (xs.map (AV.int .i64))), (1, .fn g caps), (7, .int .i64 xs.length), (8, .int .i64 i)]) (fun _ => []) (fun i => xs.length - i) 0 ⟨by omega, by omega⟩ rfl ⟨rfl, rfl, by simp only [List.length_map]; rfl, rfl, trivial⟩ ?_
  rintro i ⟨h2, h3⟩
  conv => whnf
  repeat' first | ((with_reducible first | refine XBr.y fun h => ?_ | refine XBr.n fun h => ?_ | refine XBr.dec (fun h => ?_) fun h => ?_) <;> conv => whnf) | (refine XIx.a ?_; conv => whnf) | fail
  · refine XCall.ret (hp _ (getD_mem (i := i) (d := default) (by omega))) ?_
    conv => whnf
    refine XBr.mk' ?_ ?_ <;> intro h4 <;> (conv => whnf)
    · refine XOut.int ?_
      simp only [idxR, find_some (d := default) (i := i) (by omega) h4 h3]
    · skip
      repeat' ((with_reducible refine XInt.a ?_); conv => whnf)
      refine XAgain.go (i + 1) ⟨by omega, fun j hj => ?_⟩ (by omega) rfl ⟨rfl, rfl, rfl, rfl, trivial⟩
      by_cases hji : j = i
      · subst hji; exact h4
      · exact h3 j (by omega)
  · refine XOut.int ?_
    simp only [idxR, find_none (d := default) fun j hj => h3 j (by omega)]
theorem contf_zi (nl : Bool) (xs : List Int) (g : FuncId) (caps : List AV) (p : Int → Bool) (hl : lowL 0 caps = true) (hx : xs.length ≤ 100000) (hp : ∀ x ∈ xs, Comp Tryz.prog g ((AV.int .i64 x) :: caps) (.bool (p x))) :
    Comp Tryz.prog 71 [.sl nl (xs.map (AV.int .i64)), .fn g caps] (.bool (xs.any p)) := by
  refine Comp.body (T := tab) (res := [.tmp 4]) tab_ok [] Tryz.func71 rfl (by kernel_rfl) Tryz.ntmps71 rfl (by simp only [List.length_cons, List.length_nil]; decide) (by simp only [lowL, AV.low, lowI, hl]; rfl) ?_; conv => whnf
  refine XCall.ret (idxf_zi nl xs g caps p hl hx hp) ?_
  conv => whnf
  refine XOut.bool ?_
  rw [Bool.eq_iff_iff, decide_eq_true_eq]; exact idxR_pos
theorem every1_zi (x : Int) (g : FuncId) (caps : List AV) (p : Int → Bool) (hl : lowL 0 caps = true) (hp : Comp Tryz.prog g ((AV.int .i64 x) :: caps) (.bool (p x))) :
    Comp Tryz.prog 86 [(AV.int .i64 x), .pim [.fn g caps]] (.bool (!p x)) := by
  refine Comp.body (T := tab) (res := [.tmp 3]) tab_ok [] Tryz.func86 rfl (by kernel_rfl) Tryz.ntmps86 rfl (by simp only [List.length_cons, List.length_nil]; decide) (by simp only [lowL, AV.low, ziL, hl]; rfl) ?_; conv => whnf
  refine XCall.ret hp ?_
  conv => whnf
  exact XOut.bool rfl
theorem every_zi (nl : Bool) (xs : List Int) (g : FuncId) (caps : List AV) (p : Int → Bool) (hl : lowL 0 caps = true) (hx : xs.length ≤ 100000) (hp : ∀ x ∈ xs, Comp Tryz.prog g ((AV.int .i64 x) :: caps) (.bool (p x))) :
    Comp Tryz.prog 43 [.sl nl (xs.map (AV.int .i64)), .fn g caps] (.bool (xs.all p)) := by
  refine Comp.body (T := tab) (res := [.tmp 4]) tab_ok [] Tryz.func43 rfl (by kernel_rfl) Tryz.ntmps43 rfl (by simp only [List.length_cons, List.length_nil]; decide) (by simp only [lowL, AV.low, lowI, hl]; rfl) ?_; conv => whnf
  refine XCall.ret (contf_zi nl xs 86 [.pim [.fn g caps]] (fun x => !p x) (by simp only [lowL, AV.low, hl]; rfl) hx fun x hm => every1_zi x g caps p hl (hp x hm)) ?_
  conv => whnf
  refine XOut.bool ?_
  rw [List.not_any_eq_all_not]; simp
theorem idxf_wy (nl : Bool) (xs : List Wy) (g : FuncId) (caps : List AV) (p : Wy → Bool) (hl : lowL 0 caps = true) (hx : xs.length ≤ 100000) (hp : ∀ x ∈ xs, Comp Tryz.prog g ((wyA x) :: caps) (.bool (p x))) :
    Comp Tryz.prog 87 [.sl nl (xs.map (wyA)), .fn g caps] (.int .i64 (idxR p xs)) := by
  refine Comp.body (T := tab) (res := [.tmp 4]) tab_ok [] Tryz.func87 rfl (by kernel_rfl) Tryz.ntmps87 rfl (by simp only [List.length_cons, List.length_nil]; decide) (by simp only [lowL, AV.low, lowWy, hl]; rfl) ?_; conv => whnf
  refine Walk.loop tab_ok [] (fun i : Nat => i ≤ xs.length ∧ ∀ j, j < i → p (xs.getD j default) = false) (fun i => [(0, .sl nl (xs.map (wyA))), (1, .fn g caps), (7, .int .i64 xs.length), (8, .int .i64 i)]) (fun _ => []) (fun i => xs.length - i) 0 ⟨by omega, by omega⟩ rfl ⟨rfl, rfl, by simp only [List.length_map]; rfl, rfl, trivial⟩ ?_
  rintro i ⟨h2, h3⟩
  conv => whnf
  repeat' first | ((with_reducible first | refine XBr.y fun h => ?_ | refine XBr.n fun h => ?_ | refine XBr.dec (fun h => ?_) fun h => ?_) <;> conv => whnf) | (refine XIx.a ?_; conv => whnf) | fail
  · refine XCall.ret (hp _ (getD_mem (i := i) (d := default) (by omega))) ?_
    conv => whnf
    refine XBr.mk' ?_ ?_ <;> intro h4 <;> (conv => whnf)
    · refine XOut.int ?_
      simp only [idxR, find_some (d := default) (i := i) (by omega) h4 h3]
    · skip
      repeat' ((with_reducible refine XInt.a ?_); conv => whnf)
      refine XAgain.go (i + 1) ⟨by omega, fun j hj => ?_⟩ (by omega) rfl ⟨rfl, rfl, rfl, rfl, trivial⟩
      by_cases hji : j = i
      · subst hji; exact h4
      · exact h3 j (by omega)
  · refine XOut.int ?_
    simp only [idxR, find_none (d := default) fun j hj => h3 j (by omega)]
theorem contf_wy (nl : Bool) (xs : List Wy) (g : FuncId) (caps : List AV) (p : Wy → Bool) (hl : lowL 0 caps = true) (hx : xs.length ≤ 100000) (hp : ∀ x ∈ xs, Comp Tryz.prog g ((wyA x) :: caps) (.bool (p x))) :
    Comp Tryz.prog 47 [.sl nl (xs.map (wyA)), .fn g caps] (.bool (xs.any p)) := by
  refine Comp.body (T := tab) (res := [.tmp 4]) tab_ok [] Tryz.func47 rfl (by kernel_rfl) Tryz.ntmps47 rfl (by simp only [List.length_cons, List.length_nil]; decide) (by simp only [lowL, AV.low, lowWy, hl]; rfl) ?_; conv => whnf
  refine XCall.ret (idxf_wy nl xs g caps p hl hx hp) ?_
  conv => whnf
  refine XOut.bool ?_
  rw [Bool.eq_iff_iff, decide_eq_true_eq]; exact idxR_pos
theorem every1_wy (x : Wy) (g : FuncId) (caps : List AV) (p : Wy → Bool) (hl : lowL 0 caps = true) (hp : Comp Tryz.prog g ((wyA x) :: caps) (.bool (p x))) :
    Comp Tryz.prog 83 [(wyA x), .pim [.fn g caps]] (.bool (!p x)) := by
  refine Comp.body (T := tab) (res := [.tmp 3]) tab_ok [] Tryz.func83 rfl (by kernel_rfl) Tryz.ntmps83 rfl (by simp only [List.length_cons, List.length_nil]; decide) (by simp only [lowL, AV.low, wyL, hl]; rfl) ?_; conv => whnf
  refine XCall.ret hp ?_
  conv => whnf
  exact XOut.bool rfl
theorem every_wy (nl : Bool) (xs : List Wy) (g : FuncId) (caps : List AV) (p : Wy → Bool) (hl : lowL 0 caps = true) (hx : xs.length ≤ 100000) (hp : ∀ x ∈ xs, Comp Tryz.prog g ((wyA x) :: caps) (.bool (p x))) :
    Comp Tryz.prog 39 [.sl nl (xs.map (wyA)), .fn g caps] (.bool (xs.all p)) := by
  refine Comp.body (T := tab) (res := [.tmp 4]) tab_ok [] Tryz.func39 rfl (by kernel_rfl) Tryz.ntmps39 rfl (by simp only [List.length_cons, List.length_nil]; decide) (by simp only [lowL, AV.low, lowWy, hl]; rfl) ?_; conv => whnf
  refine XCall.ret (contf_wy nl xs 83 [.pim [.fn g caps]] (fun x => !p x) (by simp only [lowL, AV.low, hl]; rfl) hx fun x hm => every1_wy x g caps p hl (hp x hm)) ?_
  conv => whnf
  refine XOut.bool ?_
  rw [List.not_any_eq_all_not]; simp
theorem idxf_rw (nl : Bool) (xs : List Rw) (g : FuncId) (caps : List AV) (p : Rw → Bool) (hl : lowL 0 caps = true) (hx : xs.length ≤ 100000) (hp : ∀ x ∈ xs, Comp Tryz.prog g ((rwA x) :: caps) (.bool (p x))) :
    Comp Tryz.prog 114 [.sl nl (xs.map (rwA)), .fn g caps] (.int .i64 (idxR p xs)) := by
  refine Comp.body (T := tab) (res := [.tmp 4]) tab_ok [] Tryz.func114 rfl (by kernel_rfl) Tryz.ntmps114 rfl (by simp only [List.length_cons, List.length_nil]; decide) (by simp only [lowL, AV.low, lowRk, hl]; rfl) ?_; conv => whnf
  refine Walk.loop tab_ok [] (fun i : Nat => i ≤ xs.length ∧ ∀ j, j < i → p (xs.getD j default) = false) (fun i => [(0, .sl nl (xs.map (rwA))), (1, .fn g caps), (7, .int .i64 xs.length), (8, .int .i64 i)]) (fun _ => []) (fun i => xs.length - i) 0 ⟨by omega, by omega⟩ rfl ⟨rfl, rfl, by simp only [List.length_map]; rfl, rfl, trivial⟩ ?_
  rintro i ⟨h2, h3⟩
  conv => whnf
  repeat' first | ((with_reducible first | refine XBr.y fun h => ?_ | refine XBr.n fun h => ?_ | refine XBr.dec (fun h => ?_) fun h => ?_) <;> conv => whnf) | (refine XIx.a ?_; conv => whnf) | fail
  · refine XCall.ret (hp _ (getD_mem (i := i) (d := default) (by omega))) ?_
    conv => whnf
    refine XBr.mk' ?_ ?_ <;> intro h4 <;> (conv => whnf)
    · refine XOut.int ?_
      simp only [idxR, find_some (d := default) (i := i) (by omega) h4 h3]
    · skip
      repeat' ((with_reducible refine XInt.a ?_); conv => whnf)
      refine XAgain.go (i + 1) ⟨by omega, fun j hj => ?_⟩ (by omega) rfl ⟨rfl, rfl, rfl, rfl, trivial⟩
      by_cases hji : j = i
      · subst hji; exact h4
      · exact h3 j (by omega)
  · refine XOut.int ?_
    simp only [idxR, find_none (d := default) fun j hj => h3 j (by omega)]
theorem contf_rw (nl : Bool) (xs : List Rw) (g : FuncId) (caps : List AV) (p : Rw → Bool) (hl : lowL 0 caps = true) (hx : xs.length ≤ 100000) (hp : ∀ x ∈ xs, Comp Tryz.prog g ((rwA x) :: caps) (.bool (p x))) :
    Comp Tryz.prog 84 [.sl nl (xs.map (rwA)), .fn g caps] (.bool (xs.any p)) := by
  refine Comp.body (T := tab) (res := [.tmp 4]) tab_ok [] Tryz.func84 rfl (by kernel_rfl) Tryz.ntmps84 rfl (by simp only [List.length_cons, List.length_nil]; decide) (by simp only [lowL, AV.low, lowRk, hl]; rfl) ?_; conv => whnf
  refine XCall.ret (idxf_rw nl xs g caps p hl hx hp) ?_
  conv => whnf
  refine XOut.bool ?_
  rw [Bool.eq_iff_iff, decide_eq_true_eq]; exact idxR_pos
theorem every1_rw (x : Rw) (g : FuncId) (caps : List AV) (p : Rw → Bool) (hl : lowL 0 caps = true) (hp : Comp Tryz.prog g ((rwA x) :: caps) (.bool (p x))) :
    Comp Tryz.prog 85 [(rwA x), .pim [.fn g caps]] (.bool (!p x)) := by
  refine Comp.body (T := tab) (res := [.tmp 3]) tab_ok [] Tryz.func85 rfl (by kernel_rfl) Tryz.ntmps85 rfl (by simp only [List.length_cons, List.length_nil]; decide) (by simp only [lowL, AV.low, rwL, hl]; rfl) ?_; conv => whnf
  refine XCall.ret hp ?_
  conv => whnf
  exact XOut.bool rfl
theorem every_rw (nl : Bool) (xs : List Rw) (g : FuncId) (caps : List AV) (p : Rw → Bool) (hl : lowL 0 caps = true) (hx : xs.length ≤ 100000) (hp : ∀ x ∈ xs, Comp Tryz.prog g ((rwA x) :: caps) (.bool (p x))) :
    Comp Tryz.prog 41 [.sl nl (xs.map (rwA)), .fn g caps] (.bool (xs.all p)) := by
  refine Comp.body (T := tab) (res := [.tmp 4]) tab_ok [] Tryz.func41 rfl (by kernel_rfl) Tryz.ntmps41 rfl (by simp only [List.length_cons, List.length_nil]; decide) (by simp only [lowL, AV.low, lowRk, hl]; rfl) ?_; conv => whnf
  refine XCall.ret (contf_rw nl xs 85 [.pim [.fn g caps]] (fun x => !p x) (by simp only [lowL, AV.low, hl]; rfl) hx fun x hm => every1_rw x g caps p hl (hp x hm)) ?_
  conv => whnf
  refine XOut.bool ?_
  rw [List.not_any_eq_all_not]; simp
theorem idxf_tr (nl : Bool) (xs : List Tru) (g : FuncId) (caps : List AV) (p : Tru → Bool) (hl : lowL 0 caps = true) (hx : xs.length ≤ 100000) (hp : ∀ x ∈ xs, Comp Tryz.prog g ((trA x) :: caps) (.bool (p x))) :
    Comp Tryz.prog 128 [.sl nl (xs.map (trA)), .fn g caps] (.int .i64 (idxR p xs)) := by
  refine Comp.body (T := tab) (res := [.tmp 4]) tab_ok [] Tryz.func128 rfl (by kernel_rfl) Tryz.ntmps128 rfl (by simp only [List.length_cons, List.length_nil]; decide) (by simp only [lowL, AV.low, lowTr, hl]; rfl) ?_; conv => whnf
  refine Walk.loop tab_ok [] (fun i : Nat => i ≤ xs.length ∧ ∀ j, j < i → p (xs.getD j default) = false) (fun i => [(0, .sl nl (xs.map (trA))), (1, .fn g caps), (7, .int .i64 xs.length), (8, .int .i64 i)]) (fun _ => []) (fun i => xs.length - i) 0 ⟨by omega, by omega⟩ rfl ⟨rfl, rfl, by simp only [List.length_map]; rfl, rfl, trivial⟩ ?_
  rintro i ⟨h2, h3⟩
  conv => whnf
  repeat' first | ((with_reducible first | refine XBr.y fun h => ?_ | refine XBr.n fun h => ?_ | refine XBr.dec (fun h => ?_) fun h => ?_) <;> conv => whnf) | (refine XIx.a ?_; conv => whnf) | fail
  · refine XCall.ret (hp _ (getD_mem (i := i) (d := default) (by omega))) ?_
    conv => whnf
    refine XBr.mk' ?_ ?_ <;> intro h4 <;> (conv => whnf)
    · refine XOut.int ?_
      simp only [idxR, find_some (d := default) (i := i) (by omega) h4 h3]
    · skip
      repeat' ((with_reducible refine XInt.a ?_); conv => whnf)
      refine XAgain.go (i + 1) ⟨by omega, fun j hj => ?_⟩ (by omega) rfl ⟨rfl, rfl, rfl, rfl, trivial⟩
      by_cases hji : j = i
      · subst hji; exact h4
      · exact h3 j (by omega)
  · refine XOut.int ?_
    simp only [idxR, find_none (d := default) fun j hj => h3 j (by omega)]
theorem contf_tr (nl : Bool) (xs : List Tru) (g : FuncId) (caps : List AV) (p : Tru → Bool) (hl : lowL 0 caps = true) (hx : xs.length ≤ 100000) (hp : ∀ x ∈ xs, Comp Tryz.prog g ((trA x) :: caps) (.bool (p x))) :
    Comp Tryz.prog 112 [.sl nl (xs.map (trA)), .fn g caps] (.bool (xs.any p)) := by
  refine Comp.body (T := tab) (res := [.tmp 4]) tab_ok [] Tryz.func112 rfl (by kernel_rfl) Tryz.ntmps112 rfl (by simp only [List.length_cons, List.length_nil]; decide) (by simp only [lowL, AV.low, lowTr, hl]; rfl) ?_; conv => whnf
  refine XCall.ret (idxf_tr nl xs g caps p hl hx hp) ?_
  conv => whnf
  refine XOut.bool ?_
  rw [Bool.eq_iff_iff, decide_eq_true_eq]; exact idxR_pos
theorem every1_tr (x : Tru) (g : FuncId) (caps : List AV) (p : Tru → Bool) (hl : lowL 0 caps = true) (hp : Comp Tryz.prog g ((trA x) :: caps) (.bool (p x))) :
    Comp Tryz.prog 113 [(trA x), .pim [.fn g caps]] (.bool (!p x)) := by
  refine Comp.body (T := tab) (res := [.tmp 3]) tab_ok [] Tryz.func113 rfl (by kernel_rfl) Tryz.ntmps113 rfl (by simp only [List.length_cons, List.length_nil]; decide) (by simp only [lowL, AV.low, trL, hl]; rfl) ?_; conv => whnf
  refine XCall.ret hp ?_
  conv => whnf
  exact XOut.bool rfl
theorem every_tr (nl : Bool) (xs : List Tru) (g : FuncId) (caps : List AV) (p : Tru → Bool) (hl : lowL 0 caps = true) (hx : xs.length ≤ 100000) (hp : ∀ x ∈ xs, Comp Tryz.prog g ((trA x) :: caps) (.bool (p x))) :
    Comp Tryz.prog 81 [.sl nl (xs.map (trA)), .fn g caps] (.bool (xs.all p)) := by
  refine Comp.body (T := tab) (res := [.tmp 4]) tab_ok [] Tryz.func81 rfl (by kernel_rfl) Tryz.ntmps81 rfl (by simp only [List.length_cons, List.length_nil]; decide) (by simp only [lowL, AV.low, lowTr, hl]; rfl) ?_; conv => whnf
  refine XCall.ret (contf_tr nl xs 113 [.pim [.fn g caps]] (fun x => !p x) (by simp only [lowL, AV.low, hl]; rfl) hx fun x hm => every1_tr x g caps p hl (hp x hm)) ?_
  conv => whnf
  refine XOut.bool ?_
  rw [List.not_any_eq_all_not]; simp
theorem staL {n : Nat} (x : Sta) : (staA x).low n = true := rfl
theorem lowSta {n : Nat} (xs : List Sta) : lowL n (xs.map staA) = true := lowL_map (fun _ => rfl) xs
theorem idxf_sg (nl : Bool) (xs : List (Int × Int)) (g : FuncId) (caps : List AV) (p : (Int × Int) → Bool) (hl : lowL 0 caps = true) (hx : xs.length ≤ 100000) (hp : ∀ x ∈ xs, Comp Tryz.prog g ((sgA x) :: caps) (.bool (p x))) :
    Comp Tryz.prog 141 [.sl nl (xs.map (sgA)), .fn g caps] (.int .i64 (idxR p xs)) := by
  refine Comp.body (T := tab) (res := [.tmp 4]) tab_ok [] Tryz.func141 rfl (by kernel_rfl) Tryz.ntmps141 rfl (by simp only [List.length_cons, List.length_nil]; decide) (by simp only [lowL, AV.low, lowSg, hl]; rfl) ?_; conv => whnf
  refine Walk.loop tab_ok [] (fun i : Nat => i ≤ xs.length ∧ ∀ j, j < i → p (xs.getD j default) = false) (fun i => [(0, .sl nl (xs.map (sgA))), (1, .fn g caps), (7, .int .i64 xs.length), (8, .int .i64 i)]) (fun _ => []) (fun i => xs.length - i) 0 ⟨by omega, by omega⟩ rfl ⟨rfl, rfl, by simp only [List.length_map]; rfl, rfl, trivial⟩ ?_
  rintro i ⟨h2, h3⟩
  conv => whnf
  repeat' first | ((with_reducible first | refine XBr.y fun h => ?_ | refine XBr.n fun h => ?_ | refine XBr.dec (fun h => ?_) fun h => ?_) <;> conv => whnf) | (refine XIx.a ?_; conv => whnf) | fail
  · refine XCall.ret (hp _ (getD_mem (i := i) (d := default) (by omega))) ?_
    conv => whnf
    refine XBr.mk' ?_ ?_ <;> intro h4 <;> (conv => whnf)
    · refine XOut.int ?_
      simp only [idxR, find_some (d := default) (i := i) (by omega) h4 h3]
    · skip
      repeat' ((with_reducible refine XInt.a ?_); conv => whnf)
      refine XAgain.go (i + 1) ⟨by omega, fun j hj => ?_⟩ (by omega) rfl ⟨rfl, rfl, rfl, rfl, trivial⟩
      by_cases hji : j = i
      · subst hji; exact h4
      · exact h3 j (by omega)
  · refine XOut.int ?_
    simp only [idxR, find_none (d := default) fun j hj => h3 j (by omega)]
theorem contf_sg (nl : Bool) (xs : List (Int × Int)) (g : FuncId) (caps : List AV) (p : (Int × Int) → Bool) (hl : lowL 0 caps = true) (hx : xs.length ≤ 100000) (hp : ∀ x ∈ xs, Comp Tryz.prog g ((sgA x) :: caps) (.bool (p x))) :
    Comp Tryz.prog 136 [.sl nl (xs.map (sgA)), .fn g caps] (.bool (xs.any p)) := by
  refine Comp.body (T := tab) (res := [.tmp 4]) tab_ok [] Tryz.func136 rfl (by kernel_rfl) Tryz.ntmps136 rfl (by simp only [List.length_cons, List.length_nil]; decide) (by simp only [lowL, AV.low, lowSg, hl]; rfl) ?_; conv => whnf
  refine XCall.ret (idxf_sg nl xs g caps p hl hx hp) ?_
  conv => whnf
  refine XOut.bool ?_
  rw [Bool.eq_iff_iff, decide_eq_true_eq]; exact idxR_pos
theorem idxf_sta (nl : Bool) (xs : List Sta) (g : FuncId) (caps : List AV) (p : Sta → Bool) (hl : lowL 0 caps = true) (hx : xs.length ≤ 100000) (hp : ∀ x ∈ xs, Comp Tryz.prog g ((staA x) :: caps) (.bool (p x))) :
    Comp Tryz.prog 144 [.sl nl (xs.map (staA)), .fn g caps] (.int .i64 (idxR p xs)) := by
  refine Comp.body (T := tab) (res := [.tmp 4]) tab_ok [] Tryz.func144 rfl (by kernel_rfl) Tryz.ntmps144 rfl (by simp only [List.length_cons, List.length_nil]; decide) (by simp only [lowL, AV.low, lowSta, hl]; rfl) ?_; conv => whnf
  refine Walk.loop tab_ok [] (fun i : Nat => i ≤ xs.length ∧ ∀ j, j < i → p (xs.getD j default) = false) (fun i => [(0, .sl nl (xs.map (staA))), (1, .fn g caps), (7, .int .i64 xs.length), (8, .int .i64 i)]) (fun _ => []) (fun i => xs.length - i) 0 ⟨by omega, by omega⟩ rfl ⟨rfl, rfl, by simp only [List.length_map]; rfl, rfl, trivial⟩ ?_
  rintro i ⟨h2, h3⟩
  conv => whnf
  repeat' first | ((with_reducible first | refine XBr.y fun h => ?_ | refine XBr.n fun h => ?_ | refine XBr.dec (fun h => ?_) fun h => ?_) <;> conv => whnf) | (refine XIx.a ?_; conv => whnf) | fail
  · refine XCall.ret (hp _ (getD_mem (i := i) (d := default) (by omega))) ?_
    conv => whnf
    refine XBr.mk' ?_ ?_ <;> intro h4 <;> (conv => whnf)
    · refine XOut.int ?_
      simp only [idxR, find_some (d := default) (i := i) (by omega) h4 h3]
    · skip
      repeat' ((with_reducible refine XInt.a ?_); conv => whnf)
      refine XAgain.go (i + 1) ⟨by omega, fun j hj => ?_⟩ (by omega) rfl ⟨rfl, rfl, rfl, rfl, trivial⟩
      by_cases hji : j = i
      · subst hji; exact h4
      · exact h3 j (by omega)
  · refine XOut.int ?_
    simp only [idxR, find_none (d := default) fun j hj => h3 j (by omega)]
theorem contf_sta (nl : Bool) (xs : List Sta) (g : FuncId) (caps : List AV) (p : Sta → Bool) (hl : lowL 0 caps = true) (hx : xs.length ≤ 100000) (hp : ∀ x ∈ xs, Comp Tryz.prog g ((staA x) :: caps) (.bool (p x))) :
    Comp Tryz.prog 142 [.sl nl (xs.map (staA)), .fn g caps] (.bool (xs.any p)) := by
  refine Comp.body (T := tab) (res := [.tmp 4]) tab_ok [] Tryz.func142 rfl (by kernel_rfl) Tryz.ntmps142 rfl (by simp only [List.length_cons, List.length_nil]; decide) (by simp only [lowL, AV.low, lowSta, hl]; rfl) ?_; conv => whnf
  refine XCall.ret (idxf_sta nl xs g caps p hl hx hp) ?_
  conv => whnf
  refine XOut.bool ?_
  rw [Bool.eq_iff_iff, decide_eq_true_eq]; exact idxR_pos
theorem everyb1_sta (x : Sta) (g : FuncId) (fs : List AV) (p : Sta → Bool) (hl : lowL 0 fs = true) (hp : Comp Tryz.prog g (fs ++ [(staA x)]) (.bool (p x))) :
    Comp Tryz.prog 143 [(staA x), .pim [.bf g fs]] (.bool (!p x)) := by
  refine Comp.body (T := tab) (res := [.tmp 3]) tab_ok [] Tryz.func143 rfl (by kernel_rfl) Tryz.ntmps143 rfl (by simp only [List.length_cons, List.length_nil]; decide) (by simp only [lowL, AV.low, staL, hl]; rfl) ?_; conv => whnf
  refine XCall.ret hp ?_
  conv => whnf
  exact XOut.bool rfl
theorem everyb_sta (nl : Bool) (xs : List Sta) (g : FuncId) (fs : List AV) (p : Sta → Bool) (hl : lowL 0 fs = true) (hx : xs.length ≤ 100000) (hp : ∀ x ∈ xs, Comp Tryz.prog g (fs ++ [(staA x)]) (.bool (p x))) :
    Comp Tryz.prog 139 [.sl nl (xs.map (staA)), .bf g fs] (.bool (xs.all p)) := by
  refine Comp.body (T := tab) (res := [.tmp 4]) tab_ok [] Tryz.func139 rfl (by kernel_rfl) Tryz.ntmps139 rfl (by simp only [List.length_cons, List.length_nil]; decide) (by simp only [lowL, AV.low, lowSta, hl]; rfl) ?_; conv => whnf
  refine XCall.ret (contf_sta nl xs 143 [.pim [.bf g fs]] (fun x => !p x) (by simp only [lowL, AV.low, hl]; rfl) hx fun x hm => everyb1_sta x g fs p hl (hp x hm)) ?_
  conv => whnf
  refine XOut.bool ?_
  rw [List.not_any_eq_all_not]; simp
end GA
end

section
namespace GA
open Go Go.RowKit Go.Proofs
set_option pp.deepTerms true
set_option maxRecDepth 8000
set_option linter.unusedVariables false
set_option linter.unusedSimpArgs false

theorem fdIn_c (n lo hi : Int) : Comp Tryz.prog 38 [.int .i64 n, .int .i64 lo, .int .i64 hi] (.bool (inZ n lo hi)) := by
  refine Comp.body (T := tab) (res := [.tmp 6]) tab_ok [] Tryz.func38 rfl (by kernel_rfl) Tryz.ntmps38 rfl (by simp only [List.length_cons, List.length_nil]; decide) (by rfl) ?_; conv => whnf
  repeat' ((with_reducible first | apply XBr.tt | apply XBr.ff | refine XBr.y fun h => ?_ | refine XBr.n fun h => ?_ | refine XBr.dec (fun h => ?_) fun h => ?_) <;> conv => whnf)
  all_goals (refine XOut.bool ?_; rw [Bool.eq_iff_iff]; simp [inZ]; try omega)
theorem place_c (s : Sn) (p : Int) (h1 : 1 ≤ s.places) (h2 : s.places ≤ 5) : Comp Tryz.prog 45 [snA s, .int .i64 p] (.bool (plB s p)) := by
  refine Comp.body (T := tab) (res := [.tmp 4]) tab_ok [] Tryz.func45 rfl (by kernel_rfl) Tryz.ntmps45 rfl (by simp only [List.length_cons, List.length_nil]; decide) (by simp only [lowL, snL]; rfl) ?_; conv => whnf
  repeat' first | ((first | (with_reducible refine XInt.a ?_) | (refine XCall.ret (fdIn_c _ _ _) ?_)); conv => whnf) | fail
  exact XOut.bool rfl
def pvO (l : List (Int × Int)) : Nat → Option Int
  | 0 => none
  | k + 1 => some (l.getD k default).2
theorem spans_c (s : Sn) (nl : Bool) (l : List (Int × Int)) (hl : l.length ≤ 100000) (q2 : s.last ≤ 60) : Comp Tryz.prog 49 [snA s, .sl nl (l.map sgA)] (.int .i64 (spE s.last none l)) := by
  have e1 : ((l.map sgA).length : Int) = l.length := by rw [List.length_map]
  refine Comp.body (T := tab) (res := [.tmp 4]) tab_ok [] Tryz.func49 rfl (by kernel_rfl) Tryz.ntmps49 rfl (by simp only [List.length_cons, List.length_nil]; decide) (by simp only [lowL, AV.low, snL, lowSg]; rfl) ?_; conv => whnf
  skip
  refine Walk.loopGK tab_ok [] [(1, _), (2, _), (7, _), (8, _)] ⟨rfl, rfl, rfl, rfl, trivial⟩ (fun k : Nat => k ≤ l.length ∧ spE s.last none l = spE s.last (pvO l k) (l.drop k) ∧ ∀ j, j < k → (l.getD j default).2 ≤ 60 ∧ 0 ≤ (l.getD j default).2) (fun k => [(9, natA k)]) (fun _ => []) (fun k => l.length - k) 0 ⟨Nat.zero_le _, rfl, fun j hj => by omega⟩ rfl ⟨rfl, trivial⟩ ?_ (fun _ _ => Nat.le_refl _) ?_
  · intro k _
    refine ⟨by simp, fun z hz => ?_⟩
    simp only [List.cons_append, List.nil_append, List.mem_cons, List.not_mem_nil, or_false] at hz
    rcases hz with rfl | rfl | rfl | rfl | rfl <;> first | rfl | exact lowSg _ | exact snL s | exact snCL s
  rintro k ⟨hk, hs, hb⟩
  conv => whnf
  by_cases hlt : k < l.length
  · rw [drop_next hlt, spE] at hs
    have hok : (inZ (l.getD k default).1 0 s.last && inZ (l.getD k default).2 (l.getD k default).1 s.last) = true → ∀ j, j < k + 1 → (l.getD j default).2 ≤ 60 ∧ 0 ≤ (l.getD j default).2 := fun h j hj => by
      by_cases e : j = k
      · subst e; rw [Bool.and_eq_true, inZ_iff, inZ_iff] at h; omega
      · exact hb j (by omega)
    rcases Nat.eq_zero_or_pos k with rfl | hk0
    · have hq : spBad (pvO l 0) (l.getD 0 default).1 = false := rfl
      rw [hq] at hs
      repeat' first | ((with_reducible first | apply XBr.tt | apply XBr.ff | refine XBr.y fun h => ?_ | refine XBr.n fun h => ?_ | refine XBr.dec (fun h => ?_) fun h => ?_ | refine XInt.a ?_ | apply Chk.go | apply ChkA.go | apply ChkF.go | apply ChkB.go | apply XNext.mk) <;> conv => whnf) | (refine XIx.a ?_; conv => whnf) | (with_reducible first | apply XBr.not | apply XAnd.mk | exact trivial) | (exact XSame.mk rfl rfl) | (apply Walk.drawN (id := 6) tab_ok mixed_ok [] [] (hsU _) [_, _, _, _, _, _, _, _, _, _, _, _, _, _] (by kernel_rfl) rfl) | ((refine XCall.ret (fdIn_c _ _ _) ?_); conv => whnf) | ((with_reducible refine XBr.mk' (fun h => ?_) fun h => ?_) <;> conv => whnf) | fail
      all_goals first
        | (refine XOut.int ?_; rw [hs, if_pos (by simp_all)]; done)
        | (refine XAgainG.go 1 [.cells (sgA (l.getD 0 default)).cells] ⟨by omega, ?_, hok (by simp_all)⟩ (by omega) rfl ⟨rfl, rfl, rfl, rfl, rfl, trivial⟩; rw [hs, if_neg (by simp_all), if_neg (by simp)]; rfl)
    · have hp := hb ((k : Int) - 1).toNat (by omega)
      have hq : spBad (pvO l k) (l.getD k default).1 = decide ((l.getD k default).1 ≤ (l.getD ((k : Int) - 1).toNat default).2 + 1) := by
        obtain ⟨q, rfl⟩ : ∃ q, k = q + 1 := ⟨k - 1, by omega⟩
        rw [show (((q + 1 : Nat) : Int) - 1).toNat = q by omega]; rfl
      rw [hq] at hs
      repeat' first | ((with_reducible first | apply XBr.tt | apply XBr.ff | refine XBr.y fun h => ?_ | refine XBr.n fun h => ?_ | refine XBr.dec (fun h => ?_) fun h => ?_ | refine XInt.a ?_ | apply Chk.go | apply ChkA.go | apply ChkF.go | apply ChkB.go | apply XNext.mk) <;> conv => whnf) | ((first | refine XIx.a ?_ | refine XIx.b ?_); conv => whnf) | (with_reducible first | apply XBr.not | apply XAnd.mk | exact trivial) | (exact XSame.mk rfl rfl) | (apply Walk.drawN (id := 6) tab_ok mixed_ok [] [] (hsU _) [_, _, _, _, _, _, _, _, _, _, _, _, _, _] (by kernel_rfl) rfl) | ((refine XCall.ret (fdIn_c _ _ _) ?_); conv => whnf) | ((with_reducible refine XBr.mk' (fun h => ?_) fun h => ?_) <;> conv => whnf) | fail
      all_goals first
        | (refine XOut.int ?_; rw [hs, if_pos (by simp_all)]; done)
        | (refine XOut.int ?_; rw [hs, if_neg (by simp_all), if_pos (by simp_all)]; done)
        | (refine XAgainG.go (k + 1) [.cells (sgA (l.getD k default)).cells] ⟨by omega, ?_, hok (by simp_all)⟩ (by omega) rfl ⟨rfl, rfl, rfl, rfl, rfl, trivial⟩; rw [hs, if_neg (by simp_all), if_neg (by simp_all)]; rfl)
  obtain rfl : k = l.length := by omega
  rw [List.drop_length, spE] at hs
  repeat' ((with_reducible first | refine XBr.y fun h => ?_ | refine XBr.n fun h => ?_ | refine XBr.dec (fun h => ?_) fun h => ?_) <;> conv => whnf)
  exact XOut.int hs.symm
theorem cnt1_c (s : Sn) (n : Int) : Comp Tryz.prog 79 [.int .i64 n, .pim (snC s)] (.bool (n == s.places)) := by
  refine Comp.body (T := tab) (res := [.tmp 3]) tab_ok [] Tryz.func79 rfl (by kernel_rfl) Tryz.ntmps79 rfl (by simp only [List.length_cons, List.length_nil]; decide) (by simp only [lowL, AV.low, snCL]; rfl) ?_; conv => whnf
  skip
  all_goals (refine XOut.bool ?_; first | rfl | (simp_all; done))
theorem cnt2_c (s : Sn) (r : Rw) : Comp Tryz.prog 80 [rwA r, .pim [.fn 79 [.pim (snC s)]]] (.bool (decide ((r.2.length : Int) = s.places))) := by
  have e : ((ints r.2).length : Int) = r.2.length := by rw [ints_len]
  refine Comp.body (T := tab) (res := [.tmp 3]) tab_ok [] Tryz.func80 rfl (by kernel_rfl) Tryz.ntmps80 rfl (by simp only [List.length_cons, List.length_nil]; decide) (by simp only [lowL, AV.low, snCL, rwL]; rfl) ?_; conv => whnf
  repeat' ((refine XCall.ret (cnt1_c s _) ?_); conv => whnf)
  exact XOut.bool (by rw [e]; rfl)
theorem cnt3_c (s : Sn) (t : Tru) : Comp Tryz.prog 82 [trA t, .pim [.fn 79 [.pim (snC s)]]] (.bool (decide ((t.2.length : Int) = s.places))) := by
  have e : ((t.2.map spsA).length : Int) = t.2.length := by rw [List.length_map]
  refine Comp.body (T := tab) (res := [.tmp 3]) tab_ok [] Tryz.func82 rfl (by kernel_rfl) Tryz.ntmps82 rfl (by simp only [List.length_cons, List.length_nil]; decide) (by simp only [lowL, AV.low, snCL, trL]; rfl) ?_; conv => whnf
  repeat' ((refine XCall.ret (cnt1_c s _) ?_); conv => whnf)
  exact XOut.bool (by rw [e]; rfl)
structure SnB (s : Sn) : Prop where
  w : s.ways.length ≤ 1000
  k : s.looks.length ≤ 1000
  t : s.truths.length ≤ 1000
  kl : ∀ r ∈ s.looks, r.2.length ≤ 1000
  tl : ∀ t ∈ s.truths, t.2.length ≤ 1000
  sl : ∀ t ∈ s.truths, ∀ r ∈ t.2, r.2.length ≤ 1000
theorem counted_c (s : Sn) (hb : SnB s) : Comp Tryz.prog 37 [snA s] (.bool (cntB s)) := by
  have b1 := hb.w; have b2 := hb.k; have b3 := hb.t
  have e1 : ((s.ways.map wyA).length : Int) = s.ways.length := by rw [List.length_map]
  have e2 : ((s.looks.map rwA).length : Int) = s.looks.length := by rw [List.length_map]
  have e3 : ((s.truths.map trA).length : Int) = s.truths.length := by rw [List.length_map]
  have c1 := every_rw s.nk s.looks 80 [.pim [.fn 79 [.pim (snC s)]]] (fun r => decide ((r.2.length : Int) = s.places)) (by simp only [lowL, AV.low, snCL]; rfl) (by omega) fun r _ => cnt2_c s r
  have c2 := every_tr s.nt s.truths 82 [.pim [.fn 79 [.pim (snC s)]]] (fun t => decide ((t.2.length : Int) = s.places)) (by simp only [lowL, AV.low, snCL]; rfl) (by omega) fun t _ => cnt3_c s t
  have hcn : cntB s = (inZ s.places 1 5 && inZ s.truths.length 1 4 && decide ((s.ways.length : Int) ≤ 10) && decide ((s.looks.length : Int) = s.truths.length) && s.looks.all (fun l => decide ((l.2.length : Int) = s.places)) && s.truths.all (fun t => decide ((t.2.length : Int) = s.places))) := rfl
  generalize s.looks.all (fun l => decide ((l.2.length : Int) = s.places)) = r1 at c1 hcn
  generalize s.truths.all (fun t => decide ((t.2.length : Int) = s.places)) = r2 at c2 hcn
  rw [hcn]
  refine Comp.body (T := tab) (res := [.tmp 2]) tab_ok [] Tryz.func37 rfl (by kernel_rfl) Tryz.ntmps37 rfl (by simp only [List.length_cons, List.length_nil]; decide) (by simp only [lowL, snL]; rfl) ?_; conv => whnf
  skip
  refine Walk.norm tab_ok [] [(1, _), (3, _)] ⟨rfl, rfl, trivial⟩ ?_
  conv => whnf
  repeat' first | ((with_reducible first | apply XBr.tt | apply XBr.ff | refine XBr.y fun h => ?_ | refine XBr.n fun h => ?_ | refine XBr.dec (fun h => ?_) fun h => ?_ | refine XBr.y1 fun h => ?_ | refine XBr.n1 fun h => ?_ | refine XBr.beq (fun h => ?_) fun h => ?_) <;> conv => whnf) | ((first | refine XCall.ret (fdIn_c _ _ _) ?_ | (refine XCall.lend c1 (.cons (.low (lowRk _)) (.cons (Froz.fn (.cons (Froz.ptr rfl (one1 rfl) (.cons (Froz.fn (.low (by simp only [lowL, AV.low, snCL]; rfl))) .nil)) .nil)) .nil)) rfl ?_) | (refine XCall.lend c2 (.cons (.low (lowTr _)) (.cons (Froz.fn (.cons (Froz.ptr rfl (one1 rfl) (.cons (Froz.fn (.low (by simp only [lowL, AV.low, snCL]; rfl))) .nil)) .nil)) .nil)) rfl ?_)); conv => whnf) | ((with_reducible refine XBr.mk' (fun h => ?_) fun h => ?_) <;> conv => whnf) | fail
  all_goals (refine XOut.bool ?_; clear hcn c1 c2; simp only [List.length_map] at *; simp_all <;> omega)
theorem chk1_c (w : Wy) : Comp Tryz.prog 40 [wyA w] (.bool (inZ w.2.2 1 20)) := by
  refine Comp.body (T := tab) (res := [.tmp 2]) tab_ok [] Tryz.func40 rfl (by kernel_rfl) Tryz.ntmps40 rfl (by simp only [List.length_cons, List.length_nil]; decide) (by rfl) ?_; conv => whnf
  repeat' ((first | refine XArr.at _ (by omega) (by omega) rfl ?_ | refine XCall.ret (fdIn_c _ _ _) ?_); conv => whnf)
  exact XOut.bool rfl
theorem chk21_c (n : Int) : Comp Tryz.prog 44 [.int .i64 n] (.bool (inZ n 0 3)) := by
  refine Comp.body (T := tab) (res := [.tmp 2]) tab_ok [] Tryz.func44 rfl (by kernel_rfl) Tryz.ntmps44 rfl (by simp only [List.length_cons, List.length_nil]; decide) (by rfl) ?_; conv => whnf
  repeat' ((refine XCall.ret (fdIn_c _ _ _) ?_); conv => whnf)
  exact XOut.bool rfl
theorem chk2_c (r : Rw) (h : r.2.length ≤ 100000) : Comp Tryz.prog 42 [rwA r] (.bool (r.2.all fun n => inZ n 0 3)) := by
  have c := every_zi r.1 r.2 44 [] (fun n => inZ n 0 3) rfl h fun n _ => chk21_c n
  refine Comp.body (T := tab) (res := [.tmp 2]) tab_ok [] Tryz.func42 rfl (by kernel_rfl) Tryz.ntmps42 rfl (by simp only [List.length_cons, List.length_nil]; decide) (by simp only [lowL, rwL]; rfl) ?_; conv => whnf
  repeat' ((refine XCall.ret c ?_); conv => whnf)
  exact XOut.bool rfl
theorem chk3_c (s : Sn) (w : Wy) (h1 : 1 ≤ s.places) (h2 : s.places ≤ 5) : Comp Tryz.prog 46 [wyA w, .pim (snC s)] (.bool (plB s w.1 && plB s w.2.1)) := by
  refine Comp.body (T := tab) (res := [.tmp 3]) tab_ok [] Tryz.func46 rfl (by kernel_rfl) Tryz.ntmps46 rfl (by simp only [List.length_cons, List.length_nil]; decide) (by simp only [lowL, AV.low, snCL]; rfl) ?_; conv => whnf
  repeat' first | ((first | (with_reducible first | apply XBr.tt | apply XBr.ff) | (first | (with_reducible apply XArr.pim0) | (with_reducible apply XArr.pim1) | refine XCall.ret (place_c s _ h1 h2) ?_)); conv => whnf) | ((with_reducible refine XBr.mk' (fun h => ?_) fun h => ?_) <;> conv => whnf) | fail
  all_goals (refine XOut.bool ?_; simp_all)
theorem chk4_c (x w : Wy) : Comp Tryz.prog 48 [wyA x, .pim [.int .i64 w.1, .int .i64 w.2.1, .int .i64 w.2.2]] (.bool (leadB x w.1 w.2.1)) := by
  refine Comp.body (T := tab) (res := [.tmp 3]) tab_ok [] Tryz.func48 rfl (by kernel_rfl) Tryz.ntmps48 rfl (by simp only [List.length_cons, List.length_nil]; decide) (by rfl) ?_; conv => whnf
  refine Walk.norm tab_ok [] [(1, _), (2, _)] ⟨rfl, rfl, trivial⟩ ?_
  conv => whnf
  repeat' first | ((with_reducible first | apply XBr.tt | apply XBr.ff | refine XBr.y1 fun h => ?_ | refine XBr.n1 fun h => ?_ | refine XBr.beq (fun h => ?_) fun h => ?_) <;> conv => whnf) | ((first | (with_reducible apply XArr.pim0) | (with_reducible apply XArr.pim1)); conv => whnf) | fail
  all_goals (refine XOut.bool ?_; unfold leadB; simp_all)
theorem snE_1 {s : Sn} (h : cntB s = false) : snE s = 2 := by unfold snE; rw [if_pos h]
theorem snE_2 {s : Sn} (h : cntB s = true) (h2 : inZ s.last 1 60 = false ∨ s.ways.all (fun w => inZ w.2.2 1 20) = false) : snE s = 3 := by unfold snE; rw [if_neg (by rw [h]; simp), if_pos h2]
theorem snE_3 {s : Sn} (h : cntB s = true) (h2 : ¬ (inZ s.last 1 60 = false ∨ s.ways.all (fun w => inZ w.2.2 1 20) = false)) (h3 : s.looks.all (fun l => l.2.all fun n => inZ n 0 3) = false) : snE s = 3 := by unfold snE; rw [if_neg (by rw [h]; simp), if_neg h2, if_pos h3]
theorem snE_4 {s : Sn} (h : cntB s = true) (h2 : ¬ (inZ s.last 1 60 = false ∨ s.ways.all (fun w => inZ w.2.2 1 20) = false)) (h3 : s.looks.all (fun l => l.2.all fun n => inZ n 0 3) = true) (h4 : plB s s.home = false ∨ plB s s.bed = false ∨ s.ways.all (fun w => plB s w.1 && plB s w.2.1) = false) : snE s = 1 := by
  unfold snE; rw [if_neg (by rw [h]; simp), if_neg h2, if_neg (by rw [h3]; simp), if_pos h4]
theorem snE_5 {s : Sn} (h : cntB s = true) (h2 : ¬ (inZ s.last 1 60 = false ∨ s.ways.all (fun w => inZ w.2.2 1 20) = false)) (h3 : s.looks.all (fun l => l.2.all fun n => inZ n 0 3) = true) (h4 : ¬ (plB s s.home = false ∨ plB s s.bed = false ∨ s.ways.all (fun w => plB s w.1 && plB s w.2.1) = false)) (h5 : s.home = s.bed) : snE s = 5 := by
  unfold snE; rw [if_neg (by rw [h]; simp), if_neg h2, if_neg (by rw [h3]; simp), if_neg h4, if_pos h5]
theorem snE_6 {s : Sn} (h : cntB s = true) (h2 : ¬ (inZ s.last 1 60 = false ∨ s.ways.all (fun w => inZ w.2.2 1 20) = false)) (h3 : s.looks.all (fun l => l.2.all fun n => inZ n 0 3) = true) (h4 : ¬ (plB s s.home = false ∨ plB s s.bed = false ∨ s.ways.all (fun w => plB s w.1 && plB s w.2.1) = false)) (h5 : s.home ≠ s.bed) (h6 : agnB s = true) : snE s = 5 := by
  unfold snE; rw [if_neg (by rw [h]; simp), if_neg h2, if_neg (by rw [h3]; simp), if_neg h4, if_neg h5, if_pos h6]
theorem snE_7 {s : Sn} (h : cntB s = true) (h2 : ¬ (inZ s.last 1 60 = false ∨ s.ways.all (fun w => inZ w.2.2 1 20) = false)) (h3 : s.looks.all (fun l => l.2.all fun n => inZ n 0 3) = true) (h4 : ¬ (plB s s.home = false ∨ plB s s.bed = false ∨ s.ways.all (fun w => plB s w.1 && plB s w.2.1) = false)) (h5 : s.home ≠ s.bed) (h6 : agnB s = false) : snE s = firstE (s.truths.map (trE s)) := by
  unfold snE; rw [if_neg (by rw [h]; simp), if_neg h2, if_neg (by rw [h3]; simp), if_neg h4, if_neg h5, if_neg (by rw [h6]; simp)]
theorem firstE_at {α : Type} {f : α → Int} {l : List α} {d : α} {k : Nat} (hk : k < l.length) (h0 : ∀ j, j < k → f (l.getD j d) = 0) (h : f (l.getD k d) ≠ 0) : firstE (l.map f) = f (l.getD k d) := by
  induction l generalizing k with
  | nil => simp at hk
  | cons x l ih =>
    rw [List.map_cons, firstE]
    cases k with
    | zero => exact if_pos h
    | succ k =>
      have hx : f x = 0 := h0 0 (by omega)
      rw [if_neg (by rw [hx]; simp)]
      exact ih (by simpa using hk) (fun j hj => h0 (j + 1) (by omega)) h
theorem firstE_none {α : Type} {f : α → Int} {l : List α} {d : α} (h : ∀ j, j < l.length → f (l.getD j d) = 0) : firstE (l.map f) = 0 := by
  rw [firstE_iff]
  intro e he
  obtain ⟨x, hx, rfl⟩ := List.mem_map.1 he
  obtain ⟨j, hj, rfl⟩ := List.mem_iff_getElem.1 hx
  have := h j hj
  rwa [List.getD_eq_getElem?_getD, List.getElem?_eq_getElem hj] at this
theorem wyOne (w : Wy) : ∀ x ∈ [AV.int .i64 w.1, .int .i64 w.2.1, .int .i64 w.2.2], x.one = true := by simp [AV.one]
theorem fdCheck_c (s : Sn) (hb : SnB s) : Comp Tryz.prog 9 [snA s] (.int .i64 (snE s)) := by
  have b1 := hb.w; have b2 := hb.k; have b3 := hb.t
  have e1 : ((s.ways.map wyA).length : Int) = s.ways.length := by rw [List.length_map]
  have e3 : ((s.truths.map trA).length : Int) = s.truths.length := by rw [List.length_map]
  have k1 := counted_c s hb
  have k2 := every_wy s.nw s.ways 40 [] (fun w => inZ w.2.2 1 20) rfl (by omega) fun w _ => chk1_c w
  have k3 := every_rw s.nk s.looks 42 [] (fun l => l.2.all fun n => inZ n 0 3) rfl (by omega) fun r hr => chk2_c r (by have := hb.kl r hr; omega)
  cases q1 : cntB s
  · rw [q1] at k1
    rw [snE_1 q1]
    refine Comp.body (T := tab) (res := [.tmp 2]) tab_ok [] Tryz.func9 rfl (by kernel_rfl) Tryz.ntmps9 rfl (by simp only [List.length_cons, List.length_nil]; decide) (by simp only [lowL, snL]; rfl) ?_; conv => whnf
    repeat' first | ((with_reducible apply XBr.ff); conv => whnf) | with_reducible apply XBr.not | ((refine XCall.ret k1 ?_); conv => whnf) | fail
    exact XOut.int rfl
  have p1 : 1 ≤ s.places ∧ s.places ≤ 5 := by
    unfold cntB at q1
    simp only [Bool.and_eq_true, inZ_iff] at q1
    exact q1.1.1.1.1.1
  have k4 := every_wy s.nw s.ways 46 [.pim (snC s)] (fun w => plB s w.1 && plB s w.2.1) (by simp only [lowL, AV.low, snCL]; rfl) (by omega) fun w _ => chk3_c s w p1.1 p1.2
  have k5 := fun p => place_c s p p1.1 p1.2
  rw [q1] at k1
  cases q2 : inZ s.last 1 60
  · rw [snE_2 q1 (.inl q2)]
    refine Comp.body (T := tab) (res := [.tmp 2]) tab_ok [] Tryz.func9 rfl (by kernel_rfl) Tryz.ntmps9 rfl (by simp only [List.length_cons, List.length_nil]; decide) (by simp only [lowL, snL]; rfl) ?_; conv => whnf
    repeat' first | ((with_reducible first | apply XBr.tt | apply XBr.ff); conv => whnf) | with_reducible apply XBr.not | ((first | (refine XCall.ret k1 ?_) | ((refine XCall.ret (fdIn_c _ _ _) ?_); rw [q2])); conv => whnf) | fail
    exact XOut.int rfl
  cases q3 : s.ways.all (fun w => inZ w.2.2 1 20)
  · rw [q3] at k2
    rw [snE_2 q1 (.inr q3)]
    refine Comp.body (T := tab) (res := [.tmp 2]) tab_ok [] Tryz.func9 rfl (by kernel_rfl) Tryz.ntmps9 rfl (by simp only [List.length_cons, List.length_nil]; decide) (by simp only [lowL, snL]; rfl) ?_; conv => whnf
    repeat' first | ((with_reducible first | apply XBr.tt | apply XBr.ff); conv => whnf) | with_reducible apply XBr.not | ((first | (refine XCall.ret k1 ?_) | ((refine XCall.ret (fdIn_c _ _ _) ?_); rw [q2]) | (refine XCall.ret k2 ?_)); conv => whnf) | fail
    exact XOut.int rfl
  rw [q3] at k2
  have n2 : ¬ (inZ s.last 1 60 = false ∨ s.ways.all (fun w => inZ w.2.2 1 20) = false) := by rw [q2, q3]; simp
  cases q4 : s.looks.all (fun l => l.2.all fun n => inZ n 0 3)
  · rw [q4] at k3
    rw [snE_3 q1 n2 q4]
    refine Comp.body (T := tab) (res := [.tmp 2]) tab_ok [] Tryz.func9 rfl (by kernel_rfl) Tryz.ntmps9 rfl (by simp only [List.length_cons, List.length_nil]; decide) (by simp only [lowL, snL]; rfl) ?_; conv => whnf
    repeat' first | ((with_reducible first | apply XBr.tt | apply XBr.ff); conv => whnf) | with_reducible apply XBr.not | ((first | (refine XCall.ret k1 ?_) | ((refine XCall.ret (fdIn_c _ _ _) ?_); rw [q2]) | (first | refine XCall.ret k2 ?_ | refine XCall.ret k3 ?_)); conv => whnf) | fail
    exact XOut.int rfl
  rw [q4] at k3
  by_cases q5 : plB s s.home = false ∨ plB s s.bed = false ∨ s.ways.all (fun w => plB s w.1 && plB s w.2.1) = false
  · rw [snE_4 q1 n2 q4 q5]
    generalize s.ways.all (fun w => plB s w.1 && plB s w.2.1) = r5 at q5 k4
    refine Comp.body (T := tab) (res := [.tmp 2]) tab_ok [] Tryz.func9 rfl (by kernel_rfl) Tryz.ntmps9 rfl (by simp only [List.length_cons, List.length_nil]; decide) (by simp only [lowL, snL]; rfl) ?_; conv => whnf
    repeat' first | ((with_reducible first | apply XBr.tt | apply XBr.ff | refine XBr.y1 fun h => ?_ | refine XBr.n1 fun h => ?_ | refine XBr.beq (fun h => ?_) fun h => ?_) <;> conv => whnf) | with_reducible apply XBr.not | ((first | (refine XCall.ret k1 ?_) | ((refine XCall.ret (fdIn_c _ _ _) ?_); rw [q2]) | (first | refine XCall.ret k2 ?_ | refine XCall.ret k3 ?_ | refine XCall.ret (k5 _) ?_ | refine XCall.ret k4 ?_)); conv => whnf) | ((with_reducible refine XBr.mk' (fun h => ?_) fun h => ?_) <;> conv => whnf) | fail
    all_goals first | exact XOut.int rfl | (exfalso; simp_all; done)
  have q51 : plB s s.home = true := by cases h : plB s s.home with | true => rfl | false => exact absurd (.inl h) q5
  have q52 : plB s s.bed = true := by cases h : plB s s.bed with | true => rfl | false => exact absurd (.inr (.inl h)) q5
  have q53 : s.ways.all (fun w => plB s w.1 && plB s w.2.1) = true := by cases h : s.ways.all (fun w => plB s w.1 && plB s w.2.1) with | true => rfl | false => exact absurd (.inr (.inr h)) q5
  rw [q53] at k4
  have k51 := k5 s.home
  have k52 := k5 s.bed
  rw [q51] at k51
  rw [q52] at k52
  by_cases q6 : s.home = s.bed
  · rw [snE_5 q1 n2 q4 q5 q6]
    refine Comp.body (T := tab) (res := [.tmp 2]) tab_ok [] Tryz.func9 rfl (by kernel_rfl) Tryz.ntmps9 rfl (by simp only [List.length_cons, List.length_nil]; decide) (by simp only [lowL, snL]; rfl) ?_; conv => whnf
    repeat' first | ((with_reducible first | apply XBr.tt | apply XBr.ff | refine XBr.y1 fun h => ?_ | refine XBr.n1 fun h => ?_ | refine XBr.beq (fun h => ?_) fun h => ?_) <;> conv => whnf) | with_reducible apply XBr.not | ((first | (refine XCall.ret k1 ?_) | ((refine XCall.ret (fdIn_c _ _ _) ?_); rw [q2]) | (first | refine XCall.ret k2 ?_ | refine XCall.ret k3 ?_ | (first | refine XCall.ret k51 ?_ | refine XCall.ret k52 ?_) | refine XCall.ret k4 ?_)); conv => whnf) | fail
    exact XOut.int rfl
  refine Comp.body (T := tab) (res := [.tmp 2]) tab_ok [] Tryz.func9 rfl (by kernel_rfl) Tryz.ntmps9 rfl (by simp only [List.length_cons, List.length_nil]; decide) (by simp only [lowL, snL]; rfl) ?_; conv => whnf
  repeat' first | ((with_reducible first | apply XBr.tt | apply XBr.ff | refine XBr.y1 fun h => ?_ | refine XBr.n1 fun h => ?_ | refine XBr.beq (fun h => ?_) fun h => ?_) <;> conv => whnf) | with_reducible apply XBr.not | ((first | (refine XCall.ret k1 ?_) | ((refine XCall.ret (fdIn_c _ _ _) ?_); rw [q2]) | (first | refine XCall.ret k2 ?_ | refine XCall.ret k3 ?_ | (first | refine XCall.ret k51 ?_ | refine XCall.ret k52 ?_) | refine XCall.ret k4 ?_)); conv => whnf) | fail
  refine Walk.loopGK tab_ok [] [(1, _), (57, _), (58, _)] ⟨rfl, rfl, rfl, trivial⟩ (fun k : Nat => k ≤ s.ways.length ∧ ∀ j, j < k → agnI s j = false) (fun k => [(59, natA k)]) (fun _ => []) (fun k => s.ways.length - k) 0 ⟨Nat.zero_le _, fun j hj => by omega⟩ rfl ⟨rfl, trivial⟩ ?_ (fun _ _ => Nat.le_refl _) ?_
  · intro k _
    refine ⟨by simp, fun z hz => ?_⟩
    simp only [List.cons_append, List.nil_append, List.mem_cons, List.not_mem_nil, or_false] at hz
    rcases hz with rfl | rfl | rfl | rfl <;> first | rfl | exact lowWy _ | exact snCL s
  rintro k ⟨hk, hs⟩
  conv => whnf
  by_cases hlt : k < s.ways.length
  · have hag : agnI s k = ((s.ways.getD k default).1 == (s.ways.getD k default).2.1 || (s.ways.take k).any fun x => leadB x (s.ways.getD k default).1 (s.ways.getD k default).2.1) := rfl
    have hE : agnI s k = true → snE s = 5 := fun h => snE_6 q1 n2 q4 q5 q6 (by unfold agnB; rw [List.any_eq_true]; exact ⟨k, List.mem_range.2 hlt, h⟩)
    have hgo : agnI s k = false → ∀ j, j < k + 1 → agnI s j = false := fun h j hj => by
      by_cases e : j = k
      · subst e; exact h
      · exact hs j (by omega)
    have k6 := contf_wy s.nw (s.ways.take k) 48 [.pim [.int .i64 (s.ways.getD k default).1, .int .i64 (s.ways.getD k default).2.1, .int .i64 (s.ways.getD k default).2.2]] (fun x => leadB x (s.ways.getD k default).1 (s.ways.getD k default).2.1) rfl (by rw [List.length_take]; omega) fun x _ => chk4_c x _
    generalize hany : (s.ways.take k).any (fun x => leadB x (s.ways.getD k default).1 (s.ways.getD k default).2.1) = r at k6 hag
    have hsl : List.take ((k : Int) - 0).toNat (List.drop (Int.toNat 0) (s.ways.map wyA)) = (s.ways.take k).map wyA := by
      rw [show ((k : Int) - 0).toNat = k by omega, show Int.toNat 0 = 0 from rfl, List.drop_zero, List.map_take]
    repeat' first | ((with_reducible first | apply XBr.tt | apply XBr.ff | refine XBr.y fun h => ?_ | refine XBr.n fun h => ?_ | refine XBr.dec (fun h => ?_) fun h => ?_ | refine XBr.y1 fun h => ?_ | refine XBr.n1 fun h => ?_ | refine XBr.beq (fun h => ?_) fun h => ?_ | refine XInt.a ?_) <;> conv => whnf) | ((first | (first | refine XHold.a ?_ | refine XIx.a ?_) | ((with_reducible refine XArr.ptr ?_ ?_ ?_); omega; omega)); conv => whnf) | (rw [hsl]; (refine XCall.lend k6 (.cons (.low (lowWy _)) (.cons (Froz.fn (.cons (Froz.ptr rfl (wyOne _) (.low rfl)) .nil)) .nil)) rfl ?_); conv => whnf) | ((with_reducible refine XBr.mk' (fun h => ?_) fun h => ?_) <;> conv => whnf) | fail
    all_goals first
      | (refine XOut.int (hE ?_).symm; rw [hag]; simp_all; done)
      | exact XAgainG.go (k + 1) [.cells (wyA (s.ways.getD k default)).cells] ⟨by omega, hgo (by rw [hag]; simp_all)⟩ (by omega) rfl ⟨rfl, rfl, rfl, rfl, trivial⟩
  obtain rfl : k = s.ways.length := by omega
  have q7 : agnB s = false := by
    unfold agnB
    rw [List.any_eq_false]
    intro i hi
    rw [hs i (List.mem_range.1 hi)]; simp
  rw [snE_7 q1 n2 q4 q5 q6 q7]
  clear hs
  repeat' ((with_reducible first | refine XBr.y fun h => ?_ | refine XBr.n fun h => ?_ | refine XBr.dec (fun h => ?_) fun h => ?_) <;> conv => whnf)
  refine Walk.loopGK tab_ok [] [(1, _), (79, _), (80, _)] ⟨rfl, rfl, rfl, trivial⟩ (fun k : Nat => k ≤ s.truths.length ∧ ∀ j, j < k → trE s (s.truths.getD j default) = 0) (fun k => [(81, natA k)]) (fun _ => []) (fun k => s.truths.length - k) 0 ⟨Nat.zero_le _, fun j hj => by omega⟩ rfl ⟨rfl, trivial⟩ ?_ (fun _ _ => Nat.le_refl _) ?_
  · intro k _
    refine ⟨by simp, fun z hz => ?_⟩
    simp only [List.cons_append, List.nil_append, List.mem_cons, List.not_mem_nil, or_false] at hz
    rcases hz with rfl | rfl | rfl | rfl <;> first | rfl | exact lowTr _ | exact snCL s
  rintro k ⟨hk, hs⟩
  conv => whnf
  by_cases hlt : k < s.truths.length
  · have hmem : s.truths.getD k default ∈ s.truths := getD_mem hlt
    have htl := hb.tl _ hmem
    have hE : trE s (s.truths.getD k default) ≠ 0 → firstE (s.truths.map (trE s)) = trE s (s.truths.getD k default) := firstE_at hlt hs
    have hgo : trE s (s.truths.getD k default) = 0 → ∀ j, j < k + 1 → trE s (s.truths.getD j default) = 0 := fun h j hj => by
      by_cases e : j = k
      · subst e; exact h
      · exact hs j (by omega)
    have hsl := hb.sl _ hmem
    have e4 : (((s.truths.getD k default).2.map spsA).length : Int) = (s.truths.getD k default).2.length := by rw [List.length_map]
    repeat' first | ((with_reducible first | refine XBr.y fun h => ?_ | refine XBr.n fun h => ?_ | refine XBr.dec (fun h => ?_) fun h => ?_) <;> conv => whnf) | (refine XIx.a ?_; conv => whnf) | fail
    refine Walk.loopK tab_ok [] [(1, _), (79, _), (80, _), (81, _), (86, _), (87, _)] ⟨rfl, rfl, rfl, rfl, rfl, rfl, trivial⟩ (fun j : Nat => j ≤ (s.truths.getD k default).2.length ∧ ∀ i, i < j → spE s.last none ((s.truths.getD k default).2.getD i default).2 = 0) (fun j => [(88, natA j)]) (fun _ => [.cells [.sl (s.truths.getD k default).1 ((s.truths.getD k default).2.map spsA)]]) (fun j => (s.truths.getD k default).2.length - j) 0 ⟨Nat.zero_le _, fun j hj => by omega⟩ rfl ⟨rfl, trivial⟩ ?_
    rintro j ⟨hj, hjs⟩
    conv => whnf
    by_cases hlt2 : j < (s.truths.getD k default).2.length
    · have hmem2 : (s.truths.getD k default).2.getD j default ∈ (s.truths.getD k default).2 := getD_mem hlt2
      have hc := spans_c s ((s.truths.getD k default).2.getD j default).1 ((s.truths.getD k default).2.getD j default).2 (by have := hsl _ hmem2; omega) (by rw [inZ_iff] at q2; omega)
      have hE2 : spE s.last none ((s.truths.getD k default).2.getD j default).2 ≠ 0 → trE s (s.truths.getD k default) = spE s.last none ((s.truths.getD k default).2.getD j default).2 := fun h => firstE_at (f := fun r : Sps => spE s.last none r.2) hlt2 hjs h
      have hgo2 : spE s.last none ((s.truths.getD k default).2.getD j default).2 = 0 → ∀ i, i < j + 1 → spE s.last none ((s.truths.getD k default).2.getD i default).2 = 0 := fun h i hi => by
        by_cases e : i = j
        · subst e; exact h
        · exact hjs i (by omega)
      generalize spE s.last none ((s.truths.getD k default).2.getD j default).2 = v at hc hE2 hgo2
      repeat' first | ((with_reducible first | refine XBr.y fun h => ?_ | refine XBr.n fun h => ?_ | refine XBr.dec (fun h => ?_) fun h => ?_ | refine XBr.y2 fun h => ?_ | refine XBr.n2 fun h => ?_ | refine XBr.bne (fun h => ?_) fun h => ?_ | refine XInt.a ?_) <;> conv => whnf) | ((first | refine XIx.a ?_ | refine XCall.ret hc ?_); conv => whnf) | fail
      · exact XOut.int (((hE (by rw [hE2 (by assumption)]; assumption)).trans (hE2 (by assumption))).symm)
      · exact XAgain.go (j + 1) ⟨by omega, hgo2 (by assumption)⟩ (by omega) rfl ⟨rfl, rfl, rfl, rfl, rfl, rfl, rfl, trivial⟩
    obtain rfl : j = (s.truths.getD k default).2.length := by omega
    repeat' ((with_reducible first | refine XBr.y fun h => ?_ | refine XBr.n fun h => ?_ | refine XBr.dec (fun h => ?_) fun h => ?_ | refine XInt.a ?_) <;> conv => whnf)
    exact XAgainG.go (k + 1) [.cells (trA (s.truths.getD k default)).cells] ⟨by omega, hgo (firstE_none (f := fun r : Sps => spE s.last none r.2) hjs)⟩ (by omega) rfl ⟨rfl, rfl, rfl, rfl, trivial⟩
  obtain rfl : k = s.truths.length := by omega
  repeat' ((with_reducible first | refine XBr.y fun h => ?_ | refine XBr.n fun h => ?_ | refine XBr.dec (fun h => ?_) fun h => ?_) <;> conv => whnf)
  exact XOut.int (firstE_none hs).symm
end GA
end

section
namespace GA
open Go Go.RowKit Go.Proofs
set_option maxRecDepth 8000
set_option linter.unusedVariables false
set_option linter.unusedSimpArgs false

def sgs (l : List (Int × Int)) : List AV := l.map sgA
theorem sgs_low {n : Nat} (l : List (Int × Int)) : lowL n (sgs l) = true := lowSg l
theorem sgs_len (l : List (Int × Int)) : (sgs l).length = l.length := List.length_map _
def esF (s : Sn) (p : Nat) : List (Int × AV) := (List.range p).map fun q : Nat => ((q : Int), AV.sl false (sgs (waysL s q)))
theorem esF_succ (s : Sn) (p : Nat) : esF s (p + 1) = esF s p ++ [((p : Int), .sl false (sgs (waysL s p)))] := by unfold esF; rw [List.range_succ, List.map_append]; rfl
theorem esF_keys (s : Sn) (p : Nat) : ∀ x ∈ esF s p, ∃ q : Nat, q < p ∧ x.1 = q := fun x hx => by
  obtain ⟨q, hq, rfl⟩ := List.mem_map.1 hx
  exact ⟨q, List.mem_range.1 hq, rfl⟩
theorem mget_app {n : Int} {fs : List (Int × AV)} : ∀ {es : List (Int × AV)}, (∀ x ∈ es, x.1 ≠ n) → mget n (es ++ fs) = mget n fs
  | [], _ => rfl
  | (m, v) :: l, h => by
    show (if m = n then some v else mget n (l ++ fs)) = _
    rw [if_neg (h _ List.mem_cons_self)]
    exact mget_app fun x hx => h x (List.mem_cons_of_mem _ hx)
theorem mput_app {n : Int} {v : AV} {fs : List (Int × AV)} : ∀ {es : List (Int × AV)}, (∀ x ∈ es, x.1 ≠ n) → mput n v (es ++ fs) = es ++ mput n v fs
  | [], _ => rfl
  | (m, u) :: l, h => by
    show (if m = n then (m, v) :: (l ++ fs) else (m, u) :: mput n v (l ++ fs)) = _
    rw [if_neg (h _ List.mem_cons_self), mput_app fun x hx => h x (List.mem_cons_of_mem _ hx)]; rfl
theorem esF_ne (s : Sn) (p : Nat) : ∀ x ∈ esF s p, x.1 ≠ (p : Int) := fun x hx => by obtain ⟨q, h1, h2⟩ := esF_keys s p x hx; omega
def esW (s : Sn) (p : Nat) (R : List (Int × Int)) : List (Int × AV) := esF s p ++ if R.isEmpty = true then [] else [((p : Int), .gr 2 R.length)]
theorem esW_get (s : Sn) (p : Nat) (R : List (Int × Int)) : mget (p : Int) (esW s p R) = if (sgs R).isEmpty = true then none else some (.gr 2 (sgs R).length) := by
  unfold esW
  rw [mget_app (esF_ne s p), sgs_len, show (sgs R).isEmpty = R.isEmpty by cases R <;> rfl]
  by_cases h : R.isEmpty = true
  · rw [if_pos h, if_pos h]; rfl
  · rw [if_neg h, if_neg h]
    show (if (p : Int) = p then _ else _) = _
    rw [if_pos rfl]
theorem esW_put (s : Sn) (p : Nat) (R : List (Int × Int)) (x : Int × Int) : mput (p : Int) (.gr 2 (R.length + 1)) (esW s p R) = esW s p (R ++ [x]) := by
  unfold esW
  rw [mput_app (esF_ne s p), if_neg (show ¬ (R ++ [x]).isEmpty = true by simp), List.length_append]
  by_cases h : R.isEmpty = true
  · rw [if_pos h]; rfl
  · rw [if_neg h]
    show _ ++ (if (p : Int) = p then _ else _) = _
    rw [if_pos rfl]; rfl
theorem esW_nil (s : Sn) (p : Nat) : esW s p [] = esF s p := by unfold esW; rw [if_pos (show ([] : List (Int × Int)).isEmpty = true from rfl), List.append_nil]
theorem esF_low {n : Nat} (s : Sn) (p : Nat) : lowL n ((esF s p).map (·.2)) = true := by
  unfold esF
  rw [List.map_map]
  exact lowL_map (f := fun q : Nat => AV.sl false (sgs (waysL s q))) (fun _ => sgs_low _) _
theorem lowL_app {n : Nat} : ∀ {a b : List AV}, lowL n a = true → lowL n b = true → lowL n (a ++ b) = true
  | [], _, _, h => h
  | x :: l, b, h1, h2 => by
    have h1' : (x.low n && lowL n l) = true := h1
    rw [Bool.and_eq_true] at h1'
    show (x.low n && lowL n (l ++ b)) = true
    rw [h1'.1, lowL_app h1'.2 h2]; rfl
theorem esW_low (s : Sn) (p : Nat) (R : List (Int × Int)) : lowL 3 ((esW s p R).map (·.2)) = true := by
  unfold esW
  rw [List.map_append]
  refine lowL_app (esF_low s p) ?_
  split <;> rfl
theorem esF_get (s : Sn) : ∀ (n p : Nat), p < n → mget (p : Int) (esF s n) = some (.sl false (sgs (waysL s p)))
  | 0, p, h => by omega
  | n + 1, p, h => by
    rw [esF_succ]
    by_cases e : p < n
    · have ih := esF_get s n p e
      clear h
      generalize esF s n = es at ih
      induction es with
      | nil => cases ih
      | cons x l ihl =>
        obtain ⟨m, v⟩ := x
        have ih' : (if m = (p : Int) then some v else mget p l) = _ := ih
        show (if m = (p : Int) then some v else mget p (l ++ _)) = _
        by_cases hm : m = (p : Int)
        · rw [if_pos hm] at ih' ⊢; exact ih'
        · rw [if_neg hm] at ih' ⊢; exact ihl ih'
    · have e : p = n := by omega
      subst e
      rw [mget_app (esF_ne s p)]
      show (if (p : Int) = p then _ else _) = _
      rw [if_pos rfl]
theorem waysQ_self {s : Sn} {p : Nat} : ((p : Int), (1 : Int)) ∈ waysQ s p p := by unfold waysQ; rw [if_pos rfl]; simp
theorem waysK_mem {s : Sn} {p : Nat} {t : Int × Int} : ∀ {k : Nat}, t ∈ waysK s p k ↔ ∃ q, q < k ∧ t ∈ waysQ s p q
  | 0 => by simp [waysK]
  | k + 1 => by
    rw [waysK, List.mem_append, waysK_mem]
    constructor
    · rintro (⟨q, h1, h2⟩ | h)
      · exact ⟨q, by omega, h2⟩
      · exact ⟨k, by omega, h⟩
    · rintro ⟨q, h1, h2⟩
      by_cases e : q = k
      · subst e; exact .inr h2
      · exact .inl ⟨q, by omega, h2⟩
theorem waysL_ne {s : Sn} {p : Nat} (h : (p : Int) < s.places) : waysL s p ≠ [] := fun e => by
  have : ((p : Int), (1 : Int)) ∈ waysL s p := waysK_mem.2 ⟨p, by omega, waysQ_self⟩
  rw [e] at this; cases this
def dryC (s : Sn) : List AV := nvs 305 (dryG s.truths.length (dryV s s.truths.length 0 0))
def keyF (s : Sn) : List Int := (esF s s.places.toNat).map (·.1)
def dskFC (s : Sn) : List AV := snC s ++ (dryC s ++ [.im (keyF s) ((esF s s.places.toNat).map (·.2))])
def dskFA (s : Sn) : AV := .pim (dskFC s)
theorem dskFL {n : Nat} (s : Sn) : (dskFA s).low n = true := lowL_app (snCL s) (lowL_app (nvs_low _ _) (by
  show (lowL n ((esF s s.places.toNat).map (·.2)) && true) = true
  rw [esF_low]; rfl))
end GA
end

section
namespace GA
open Go Go.RowKit Go.Proofs
set_option maxRecDepth 8000
set_option linter.unusedVariables false
set_option linter.unusedSimpArgs false

theorem foldl_congr' {α β : Type} {f g : β → α → β} : ∀ {l : List α} {b : β}, (∀ b, ∀ x ∈ l, f b x = g b x) → l.foldl f b = l.foldl g b
  | [], _, _ => rfl
  | x :: l, b, h => by rw [List.foldl_cons, List.foldl_cons, h b x List.mem_cons_self]; exact foldl_congr' fun b y hy => h b y (List.mem_cons_of_mem _ hy)
theorem minL_congr {f g : Sta → Int} {l : List Sta} (h : ∀ x ∈ l, f x = g x) : minL f l = minL g l := by
  cases l with
  | nil => rfl
  | cons x l =>
    show l.foldl (fun n y => min n (f y)) (f x) = l.foldl (fun n y => min n (g y)) (g x)
    rw [h x List.mem_cons_self]
    exact foldl_congr' fun b y hy => by rw [h y (List.mem_cons_of_mem _ hy)]
theorem bestZ_congr {s : Sn} {f g : Sta → Int} {x : Sta} (h : ∀ t ∈ stepsS s x, ∀ y ∈ afterS s x t, f y = g y) : bestZ s f x = bestZ s g x := by
  unfold bestZ
  split
  · refine foldl_congr' fun b t ht => ?_
    unfold gainZ
    rw [minL_congr (h t ht)]
  · rfl
theorem afterS_mem {s : Sn} {x y : Sta} {t : Int × Int} (h : y ∈ afterS s x t) : y.p = t.1.toNat ∧ (y.m : Int) = x.m + t.2 ∧ (y.m : Int) ≤ s.last ∧ t ∈ waysL s x.p ∧ y.l ∈ partsL s t.1.toNat x.l ∧ safeB s y = true ∧ safeB s x = true := by
  unfold afterS at h
  split at h
  · rename_i hc
    obtain ⟨h1, h2, h3, h4⟩ := hc
    have hy := List.all_eq_true.1 h4 y h
    unfold outS at h
    obtain ⟨l, hl, rfl⟩ := List.mem_map.1 h
    rw [inZ_iff] at h2
    exact ⟨rfl, by show (((x.m + t.2).toNat : Nat) : Int) = _; omega, by show (((x.m + t.2).toNat : Nat) : Int) ≤ _; omega, List.contains_iff_mem.1 h3, hl, hy, h1⟩
  · cases h
theorem waysL_pos {s : Sn} (ok : SnOk s) {p : Nat} {t : Int × Int} (h : t ∈ waysL s p) : 1 ≤ t.2 ∧ t.2 ≤ 20 ∧ 0 ≤ t.1 ∧ t.1 < s.places := by
  obtain ⟨q, hq, hm⟩ := waysK_mem.1 h
  have p1 := ok.p1
  unfold waysQ at hm
  rcases List.mem_append.1 hm with h1 | h1
  · split at h1
    · rename_i e
      rw [List.mem_singleton] at h1
      subst h1
      dsimp only
      omega
    · cases h1
  · obtain ⟨w, hw, rfl⟩ := List.mem_map.1 h1
    have := ok.wm w (List.mem_filter.1 hw).1
    dsimp only
    omega
theorem afterS_later {s : Sn} (ok : SnOk s) {x y : Sta} {t : Int × Int} (h : y ∈ afterS s x t) : x.m < y.m ∧ (y.m : Int) ≤ s.last := by
  obtain ⟨-, h2, h3, h4, -⟩ := afterS_mem h
  have := waysL_pos ok h4
  omega
theorem worthK_eq {s : Sn} (ok : SnOk s) : ∀ (d k k' : Nat) (x : Sta), (s.last + 1 - x.m).toNat ≤ d → (s.last + 1 - x.m).toNat ≤ k → (s.last + 1 - x.m).toNat ≤ k' → (x.m : Int) ≤ s.last → worthK s k x = worthK s k' x
  | 0, k, k', x, h, _, _, hx => by omega
  | d + 1, k, k', x, h, h1, h2, hx => by
    obtain ⟨k, rfl⟩ : ∃ j, k = j + 1 := ⟨k - 1, by omega⟩
    obtain ⟨k', rfl⟩ : ∃ j, k' = j + 1 := ⟨k' - 1, by omega⟩
    rw [worthK, worthK]
    refine bestZ_congr fun t _ y hy => ?_
    obtain ⟨h3, h4⟩ := afterS_later ok hy
    exact worthK_eq ok d k k' y (by omega) (by omega) (by omega) h4
theorem worthZ_eq {s : Sn} (ok : SnOk s) {x : Sta} (hx : (x.m : Int) ≤ s.last) : worthZ s x = bestZ s (worthZ s) x := by
  obtain ⟨k, hk⟩ : ∃ k, (s.last + 1 - x.m).toNat = k + 1 := ⟨(s.last - x.m).toNat, by omega⟩
  unfold worthZ
  rw [hk, worthK]
  refine bestZ_congr fun t _ y hy => ?_
  obtain ⟨h3, h4⟩ := afterS_later ok hy
  exact worthK_eq ok _ _ _ y (Nat.le_refl _) (by omega) (by omega) h4
theorem foldl_min_prop {α : Type} {f : α → Int} : ∀ {l : List α} {b : Int}, (l.foldl (fun n t => min n (f t)) b = b ∨ ∃ t ∈ l, l.foldl (fun n t => min n (f t)) b = f t) ∧ l.foldl (fun n t => min n (f t)) b ≤ b ∧ ∀ t ∈ l, l.foldl (fun n t => min n (f t)) b ≤ f t
  | [], b => ⟨.inl rfl, Int.le_refl _, fun t ht => by cases ht⟩
  | x :: l, b => by
    obtain ⟨h1, h2, h3⟩ := foldl_min_prop (f := f) (l := l) (b := min b (f x))
    rw [List.foldl_cons]
    refine ⟨?_, by omega, fun t ht => ?_⟩
    · rcases h1 with h1 | ⟨t, ht, h1⟩
      · by_cases h : b ≤ f x
        · left; rw [h1]; omega
        · right; exact ⟨x, List.mem_cons_self, by rw [h1]; omega⟩
      · right; exact ⟨t, List.mem_cons_of_mem _ ht, h1⟩
    · rcases List.mem_cons.1 ht with rfl | ht
      · omega
      · exact h3 t ht
theorem minL_mem {f : Sta → Int} {l : List Sta} (h : l ≠ []) : (∃ y ∈ l, minL f l = f y) ∧ ∀ y ∈ l, minL f l ≤ f y := by
  cases l with
  | nil => exact absurd rfl h
  | cons x l =>
    obtain ⟨h1, h2, h3⟩ := foldl_min_prop (f := f) (l := l) (b := f x)
    refine ⟨?_, fun y hy => ?_⟩
    · rcases h1 with h1 | ⟨t, ht, h1⟩
      · exact ⟨x, List.mem_cons_self, h1⟩
      · exact ⟨t, List.mem_cons_of_mem _ ht, h1⟩
    · rcases List.mem_cons.1 hy with rfl | hy
      · exact h2
      · exact h3 y hy
theorem foldl_max_prop {α : Type} {f : α → Int} : ∀ {l : List α} {b : Int}, (l.foldl (fun n t => max n (f t)) b = b ∨ ∃ t ∈ l, l.foldl (fun n t => max n (f t)) b = f t) ∧ b ≤ l.foldl (fun n t => max n (f t)) b ∧ ∀ t ∈ l, f t ≤ l.foldl (fun n t => max n (f t)) b
  | [], b => ⟨.inl rfl, Int.le_refl _, fun t ht => by cases ht⟩
  | x :: l, b => by
    obtain ⟨h1, h2, h3⟩ := foldl_max_prop (f := f) (l := l) (b := max b (f x))
    rw [List.foldl_cons]
    refine ⟨?_, by omega, fun t ht => ?_⟩
    · rcases h1 with h1 | ⟨t, ht, h1⟩
      · by_cases h : f x ≤ b
        · left; rw [h1]; omega
        · right; exact ⟨x, List.mem_cons_self, by rw [h1]; omega⟩
      · right; exact ⟨t, List.mem_cons_of_mem _ ht, h1⟩
    · rcases List.mem_cons.1 ht with rfl | ht
      · omega
      · exact h3 t ht
theorem stepsS_mem {s : Sn} {x : Sta} {t : Int × Int} : t ∈ stepsS s x ↔ afterS s x t ≠ [] := by
  unfold stepsS
  rw [List.mem_filter]
  constructor
  · rintro ⟨-, h⟩ e
    rw [e] at h; cases h
  · intro h
    refine ⟨?_, by cases e : afterS s x t with | nil => exact absurd e h | cons _ _ => rfl⟩
    obtain ⟨y, hy⟩ := List.exists_mem_of_ne_nil _ h
    exact (afterS_mem hy).2.2.2.1
end GA
end

section
namespace GA
open Go Go.RowKit Go.Proofs
set_option maxRecDepth 8000
set_option linter.unusedVariables false
set_option linter.unusedSimpArgs false

theorem renMap_low {ρ : Nat → Nat} {n : Nat} (h : ∀ i, i < n → ρ i = i) : ∀ {l : List AV}, lowL n l = true → l.map (AV.ren ρ) = l
  | [], _ => rfl
  | a :: l, hl => by
    have hl' : (a.low n && lowL n l) = true := hl
    rw [Bool.and_eq_true] at hl'
    rw [List.map_cons, AV.ren_low h hl'.1, renMap_low h hl'.2]
theorem ACall.pre {P : Program} {f : FuncId} {rs : List AV} {H1 X : List Blk} {k1 K : AV → List Blk → Prop} (x : ACall P f rs H1 k1) (lo : ∀ x ∈ H1, x.low H1.length = true) (lor : lowL H1.length rs = true)
    (hk : ∀ r H1', k1 r H1' → H1'.length = H1.length ∧ (∀ x ∈ H1', x.low H1.length = true) ∧ r.low H1.length = true ∧ K r (H1' ++ X)) : ACall P f rs (H1 ++ X) K := by
  have hid : ∀ i, i < H1.length → (fun i : Nat => i) i = i := fun _ _ => rfl
  have e := ACall.frame (ρ := fun i => i) (H := H1 ++ X) (k := K) x (fun i j _ _ h => h) ?_ lo lor ?_
  · rwa [renMap_low hid lor] at e
  · intro i x1 hi
    have hl := (List.getElem?_eq_some_iff.1 hi).1
    rw [Blk.ren_low hid (lo x1 (List.mem_of_getElem? hi)), List.getElem?_append_left hl]; exact hi
  · intro r1 H1' h1
    obtain ⟨h2, h3, h4, h5⟩ := hk r1 H1' h1
    refine ⟨h2, H1' ++ X, by rw [List.length_append, List.length_append, h2], fun i x1 hi => ?_, fun j hj => ?_, ?_⟩
    · have hl := (List.getElem?_eq_some_iff.1 hi).1
      rw [Blk.ren_low hid (h3 x1 (List.mem_of_getElem? hi)), List.getElem?_append_left hl]; exact hi
    · have : H1.length ≤ j := by
        refine Classical.byContradiction fun h => ?_
        exact hj j (by omega) rfl
      rw [List.getElem?_append_right (by omega), List.getElem?_append_right this, h2]
    · rw [AV.ren_low hid h4]; exact h5
theorem XCall.pre {P : Program} {f : FuncId} {rs : List AV} {H1 : List Blk} {k1 K : AV → List Blk → Prop} (X : List Blk) (x : ACall P f rs H1 k1) {H : List Blk} (hH : H = H1 ++ X) (lo : ∀ x ∈ H1, x.low H1.length = true) (lor : lowL H1.length rs = true)
    (hk : ∀ r H1', k1 r H1' → H1'.length = H1.length ∧ (∀ x ∈ H1', x.low H1.length = true) ∧ r.low H1.length = true ∧ K r (H1' ++ X)) : XCall P f rs H K := by
  subst hH
  exact ⟨.pre x lo lor hk⟩
def IterF (P : Program) (i : Nat) (K : List Blk → Prop) {α : Type} (v : α → List AV) : List α → List Blk → Prop
  | [], H => K H
  | c :: cs, H => XYield P i (v c) H fun r H' => (r = .bool true ∧ IterF P i K v cs H') ∨ (r = .bool false ∧ K H')
theorem IterF.run {P : Program} {i : Nat} {K : List Blk → Prop} {α S : Type} {v : α → List AV} (upd : S → List Blk) (I : S → List α → Prop)
    (x : ∀ s c cs, I s (c :: cs) → XYield P i (v c) (upd s) fun r H' => (r = .bool true ∧ ∃ s', I s' cs ∧ H' = upd s') ∨ (r = .bool false ∧ K H')) (hk : ∀ s, I s [] → K (upd s)) :
    ∀ (cs : List α) (s : S), I s cs → IterF P i K v cs (upd s)
  | [], s, hI => hk s hI
  | c :: cs, s, hI => by
    refine ⟨yieldMono (x s c cs hI).o ?_⟩
    rintro r H' (⟨rfl, s', h1, rfl⟩ | ⟨rfl, h1⟩)
    · exact .inl ⟨rfl, IterF.run upd I x hk cs s' h1⟩
    · exact .inr ⟨rfl, h1⟩
theorem IterF.go {P : Program} {i : Nat} {K : List Blk → Prop} {α S : Type} {v : α → List AV} {H : List Blk} (upd : S → List Blk) (I : S → List α → Prop) (s0 : S) (cs : List α) (hI : I s0 cs) (hH : upd s0 = H)
    (x : ∀ s c cs, I s (c :: cs) → XYield P i (v c) (upd s) fun r H' => (r = .bool true ∧ ∃ s', I s' cs ∧ H' = upd s') ∨ (r = .bool false ∧ K H')) (hk : ∀ s, I s [] → K (upd s)) : IterF P i K v cs H := by
  subst hH
  exact IterF.run upd I x hk cs s0 hI
def zvs (W : Nat) (F : Nat → Int) : List AV := (vecF W F).map (AV.int .i64)
def tvs (W : Nat) (F : Nat → Bool) : List AV := (vecF W F).map AV.bool
theorem zvs_low {n : Nat} (W : Nat) (F : Nat → Int) : lowL n (zvs W F) = true := vec_low fun _ => rfl
theorem tvs_low {n : Nat} (W : Nat) (F : Nat → Bool) : lowL n (tvs W F) = true := vec_low fun _ => rfl
theorem zvs0 (W : Nat) : List.replicate W (AV.int .i64 0) = zvs W fun _ => 0 := by unfold zvs; rw [vecF_replicate, List.map_replicate]
theorem tvs0 (W : Nat) : List.replicate W (AV.bool false) = tvs W fun _ => false := by unfold tvs; rw [vecF_replicate, List.map_replicate]
theorem zvs_one (W : Nat) (F : Nat → Int) : ∀ x ∈ zvs W F, x.one = true := fun x hx => by obtain ⟨y, -, rfl⟩ := List.mem_map.1 hx; rfl
abbrev T3 (α : Type) := Nat → Nat → Nat → α
def G3 {α : Type} (W : T3 α) (j : Nat) : α := W (j / 976) (j / 16 % 61) (j % 16)
def upd3 {α : Type} (W : T3 α) (p m l : Nat) (v : α) : T3 α := fun p' m' l' => if p' = p ∧ m' = m ∧ l' = l then v else W p' m' l'
theorem G3_at {α : Type} (W : T3 α) {p m l : Nat} (hm : m < 61) (hl : l < 16) : G3 W (976 * p + 16 * m + l) = W p m l := by
  unfold G3
  rw [show (976 * p + 16 * m + l) / 976 = p by omega, show (976 * p + 16 * m + l) / 16 % 61 = m by omega, show (976 * p + 16 * m + l) % 16 = l by omega]
theorem G3_set {α : Type} (W : T3 α) {p m l : Nat} (v : α) (hm : m < 61) (hl : l < 16) : updV (G3 W) (976 * p + 16 * m + l) v = G3 (upd3 W p m l v) := by
  funext j
  unfold updV G3 upd3
  by_cases h : j = 976 * p + 16 * m + l
  · rw [if_pos h, if_pos ⟨by omega, by omega, by omega⟩]
  · rw [if_neg h, if_neg (fun e => h (by omega))]
theorem upd3_at {α : Type} (W : T3 α) (p m l : Nat) (v : α) : upd3 W p m l v p m l = v := if_pos ⟨rfl, rfl, rfl⟩
theorem upd3_ne {α : Type} (W : T3 α) {p m l p' m' l' : Nat} (v : α) (h : ¬ (p' = p ∧ m' = m ∧ l' = l)) : upd3 W p m l v p' m' l' = W p' m' l' := if_neg h
structure WSt where
  K : T3 Bool
  D : T3 Bool
def vld (s : Sn) (x : Sta) : Prop := (x.p : Int) < s.places ∧ (x.m : Int) ≤ s.last ∧ x.l ≤ allN s
def wNum (s : Sn) (D : T3 Bool) : T3 Int := fun p m l => if D p m l = true then worthZ s ⟨p, m, l⟩ else 0
structure WInv (s : Sn) (c : Nat) (g : WSt) : Prop where
  v : ∀ p m l, g.K p m l = true → vld s ⟨p, m, l⟩
  k : ∀ p m l, g.D p m l = true → g.K p m l = true
  d : ∀ p m l, c ≤ m → g.D p m l = g.K p m l
structure WRel (c : Nat) (g g' : WSt) : Prop where
  s : ∀ p m l, m < c → g'.K p m l = g.K p m l ∧ g'.D p m l = g.D p m l
  k : ∀ p m l, g.K p m l = true → g'.K p m l = true
theorem WInv.up {s : Sn} {c c' : Nat} {g : WSt} (h : WInv s c g) (hc : c ≤ c') : WInv s c' g := ⟨h.v, h.k, fun p m l hm => h.d p m l (by omega)⟩
theorem WRel.rfl' {c : Nat} {g : WSt} : WRel c g g := ⟨fun _ _ _ _ => ⟨rfl, rfl⟩, fun _ _ _ h => h⟩
theorem WRel.trans {c : Nat} {g g' g'' : WSt} (h : WRel c g g') (h' : WRel c g' g'') : WRel c g g'' :=
  ⟨fun p m l hm => ⟨((h'.s p m l hm).1).trans (h.s p m l hm).1, ((h'.s p m l hm).2).trans (h.s p m l hm).2⟩, fun p m l e => h'.k p m l (h.k p m l e)⟩
theorem WRel.down {c c' : Nat} {g g' : WSt} (h : WRel c g g') (hc : c' ≤ c) : WRel c' g g' := ⟨fun p m l hm => h.s p m l (by omega), h.k⟩
theorem WInv.back {s : Sn} {c c' : Nat} {g g' : WSt} (h : WInv s c g) (h' : WInv s c' g') (r : WRel c' g g') : WInv s c g' :=
  ⟨h'.v, h'.k, fun p m l hm => by
    by_cases e : c' ≤ m
    · exact h'.d p m l e
    · have := r.s p m l (by omega)
      rw [this.1, this.2, h.d p m l hm]⟩
def setK (g : WSt) (x : Sta) : WSt := ⟨upd3 g.K x.p x.m x.l true, g.D⟩
def setD (g : WSt) (x : Sta) : WSt := ⟨g.K, upd3 g.D x.p x.m x.l true⟩
theorem WInv.setK {s : Sn} {g : WSt} {x : Sta} (h : WInv s x.m g) (hv : vld s x) : WInv s (x.m + 1) (GA.setK g x) :=
  ⟨fun p m l e => by
    by_cases h1 : p = x.p ∧ m = x.m ∧ l = x.l
    · obtain ⟨rfl, rfl, rfl⟩ := h1; exact hv
    · exact h.v p m l (by rw [← e]; exact (upd3_ne g.K true h1).symm),
   fun p m l e => by
    by_cases h1 : p = x.p ∧ m = x.m ∧ l = x.l
    · obtain ⟨rfl, rfl, rfl⟩ := h1; exact upd3_at _ _ _ _ _
    · exact (upd3_ne g.K true h1).trans (h.k p m l e),
   fun p m l hm => by
    have h1 : ¬ (p = x.p ∧ m = x.m ∧ l = x.l) := fun e => by omega
    exact (h.d p m l (by omega)).trans (upd3_ne g.K true h1).symm⟩
theorem WInv.setD {s : Sn} {g g1 : WSt} {x : Sta} (h : WInv s x.m g) (h1 : WInv s (x.m + 1) g1) (r : WRel (x.m + 1) (GA.setK g x) g1) : WInv s x.m (GA.setD g1 x) ∧ WRel x.m g (GA.setD g1 x) ∧ (GA.setD g1 x).K x.p x.m x.l = true := by
  have hx : g1.K x.p x.m x.l = true := r.k _ _ _ (upd3_at _ _ _ _ _)
  refine ⟨⟨h1.v, fun p m l e => ?_, fun p m l hm => ?_⟩, ⟨fun p m l hm => ?_, fun p m l e => ?_⟩, hx⟩
  · by_cases h2 : p = x.p ∧ m = x.m ∧ l = x.l
    · obtain ⟨rfl, rfl, rfl⟩ := h2; exact hx
    · exact h1.k p m l (by rw [← e]; exact (upd3_ne g1.D true h2).symm)
  · by_cases h2 : p = x.p ∧ m = x.m ∧ l = x.l
    · obtain ⟨rfl, rfl, rfl⟩ := h2; exact (upd3_at _ _ _ _ _).trans hx.symm
    · refine (upd3_ne g1.D true h2).trans ?_
      by_cases e : x.m + 1 ≤ m
      · exact h1.d p m l e
      · have hs := r.s p m l (by omega)
        exact hs.2.trans ((h.d p m l hm).trans (hs.1.trans (upd3_ne g.K true h2)).symm)
  · have h2 : ¬ (p = x.p ∧ m = x.m ∧ l = x.l) := fun e => by omega
    have hs := r.s p m l (by omega)
    exact ⟨hs.1.trans (upd3_ne g.K true h2), (upd3_ne g1.D true h2).trans hs.2⟩
  · refine r.k p m l ?_
    by_cases h2 : p = x.p ∧ m = x.m ∧ l = x.l
    · obtain ⟨rfl, rfl, rfl⟩ := h2; exact upd3_at _ _ _ _ _
    · exact (upd3_ne g.K true h2).trans e
theorem wNum_at {s : Sn} {D : T3 Bool} {p m l : Nat} (h : D p m l = true) : wNum s D p m l = worthZ s ⟨p, m, l⟩ := if_pos h
theorem wNum_set (s : Sn) (g : WSt) (x : Sta) : upd3 (wNum s g.D) x.p x.m x.l (worthZ s x) = wNum s (GA.setD g x).D := by
  funext p m l
  by_cases h : p = x.p ∧ m = x.m ∧ l = x.l
  · obtain ⟨rfl, rfl, rfl⟩ := h
    rw [upd3_at]; exact (wNum_at (D := (GA.setD g x).D) (upd3_at _ _ _ _ _)).symm
  · rw [upd3_ne _ _ h]
    unfold wNum
    rw [show (GA.setD g x).D p m l = g.D p m l from upd3_ne _ _ h]
theorem worthK_le (s : Sn) : ∀ (k : Nat) (x : Sta), worthK s k x ≤ k
  | 0, x => by show (-1 : Int) ≤ (0 : Nat); omega
  | k + 1, x => by
    rw [worthK]
    unfold bestZ
    split
    · rcases (foldl_max_prop (f := fun t => gainZ s (worthK s k) x t) (l := stepsS s x) (b := homeZ s x)).1 with h | ⟨t, ht, h⟩
      · rw [h]; unfold homeZ; split <;> omega
      · rw [h]
        obtain ⟨⟨y, hy, e⟩, -⟩ := minL_mem (f := worthK s k) (stepsS_mem.1 ht)
        have := worthK_le s k y
        unfold gainZ
        dsimp only
        rw [e]
        split <;> omega
    · omega
theorem worthZ_le (s : Sn) (x : Sta) (hx : (x.m : Int) ≤ s.last) : worthZ s x ≤ s.last + 1 - x.m := by
  have := worthK_le s (s.last + 1 - x.m).toNat x
  unfold worthZ
  omega
end GA
end

section
namespace GA
open Go Go.RowKit Go.Proofs
set_option maxRecDepth 8000
set_option linter.unusedVariables false
set_option linter.unusedSimpArgs false

theorem partN_bit (s : Sn) (p left n i : Nat) : (partN s p left n).testBit i = (decide (i < s.looks.length) && (lookZ s i p == n && left.testBit i)) := bsum_bit _ _ _
theorem partsK_mem {s : Sn} {p left l : Nat} : ∀ {k : Nat}, l ∈ partsK s p left k ↔ ∃ n, n < k ∧ l = partN s p left n ∧ l ≠ 0
  | 0 => by simp [partsK]
  | k + 1 => by
    rw [partsK, List.mem_append, partsK_mem]
    constructor
    · rintro (⟨n, h1, h2⟩ | h)
      · exact ⟨n, by omega, h2⟩
      · split at h
        · cases h
        · rename_i hne
          rw [List.mem_singleton] at h
          exact ⟨k, by omega, h, by rw [h]; exact hne⟩
    · rintro ⟨n, h1, h2, h3⟩
      by_cases e : n = k
      · subst e
        right
        rw [if_neg (by rw [← h2]; exact h3), List.mem_singleton]; exact h2
      · left; exact ⟨n, by omega, h2, h3⟩
theorem partsL_mem {s : Sn} {p left l : Nat} : l ∈ partsL s p left ↔ ∃ n, n < 4 ∧ l = partN s p left n ∧ l ≠ 0 := partsK_mem
theorem lookZ_b {s : Sn} (ok : SnOk s) {t p : Nat} (ht : t < s.looks.length) (hp : (p : Int) < s.places) : 0 ≤ lookZ s t p ∧ lookZ s t p ≤ 3 := by
  have hm : s.looks.getD t default ∈ s.looks := getD_mem ht
  have hl := ok.kl _ hm
  exact ok.kn _ hm _ (getD_mem (by omega))
theorem parts_has {s : Sn} (ok : SnOk s) {p left i : Nat} (hp : (p : Int) < s.places) (hi : i < s.looks.length) (hl : left.testBit i = true) : ∃ n : Nat, n < 4 ∧ lookZ s i p = n ∧ partN s p left n ∈ partsL s p left ∧ (partN s p left n).testBit i = true := by
  have hb := lookZ_b ok hi hp
  obtain ⟨n, hn⟩ : ∃ n : Nat, lookZ s i p = n := ⟨(lookZ s i p).toNat, by omega⟩
  have hbit : (partN s p left n).testBit i = true := by rw [partN_bit, hn, hl, decide_eq_true hi]; simp
  refine ⟨n, by omega, hn, partsL_mem.2 ⟨n, by omega, rfl, ne_zero_bit hbit⟩, hbit⟩
theorem drN_bit (s : Sn) (p m i : Nat) : (drN s p m).testBit i = (decide (i < s.truths.length) && dryT s i p m) := bsum_bit _ _ _
theorem safeB_iff {s : Sn} {x : Sta} : safeB s x = true ↔ x.l ≠ 0 ∧ ∀ i, x.l.testBit i = true → i < s.truths.length ∧ dryT s i x.p x.m = true := by
  unfold safeB
  rw [Bool.and_eq_true, beq_iff_eq, bne_iff_ne]
  constructor
  · rintro ⟨h1, h2⟩
    refine ⟨h2, fun i hi => ?_⟩
    have h := diff_bit x.l (drN s x.p x.m) i
    rw [h1, Nat.zero_testBit, hi, drN_bit] at h
    simpa using h.symm
  · rintro ⟨h1, h2⟩
    refine ⟨bit_ext fun i => ?_, h1⟩
    rw [diff_bit, Nat.zero_testBit, drN_bit]
    cases hi : x.l.testBit i with
    | false => rfl
    | true =>
      obtain ⟨h3, h4⟩ := h2 i hi
      rw [decide_eq_true h3, h4]; rfl
theorem afterS_eq {s : Sn} {x : Sta} {t : Int × Int} (h : afterS s x t ≠ []) : afterS s x t = outS s x t := by
  unfold afterS at h ⊢
  split
  · rfl
  · rename_i hc; rw [if_neg hc] at h; exact absurd rfl h
theorem outS_mem {s : Sn} {x y : Sta} {t : Int × Int} : y ∈ outS s x t ↔ y.p = t.1.toNat ∧ y.m = (x.m + t.2).toNat ∧ y.l ∈ partsL s t.1.toNat x.l := by
  unfold outS
  rw [List.mem_map]
  constructor
  · rintro ⟨l, hl, rfl⟩; exact ⟨rfl, rfl, hl⟩
  · rintro ⟨h1, h2, h3⟩
    refine ⟨y.l, h3, ?_⟩
    cases y; dsimp only at h1 h2 ⊢; rw [h1, h2]
theorem minL_ge {f : Sta → Int} {c : Int} {l : List Sta} (h : l ≠ []) (hf : ∀ y ∈ l, c ≤ f y) : c ≤ minL f l := by
  obtain ⟨⟨y, hy, e⟩, -⟩ := minL_mem (f := f) h
  rw [e]; exact hf y hy
theorem bestZ_ge {s : Sn} (f : Sta → Int) (x : Sta) : -1 ≤ bestZ s f x := by
  unfold bestZ
  split
  · have := (foldl_max_prop (f := fun t => gainZ s f x t) (l := stepsS s x) (b := homeZ s x)).2.1
    have : -1 ≤ homeZ s x := by unfold homeZ; split <;> omega
    omega
  · omega
theorem worthK_ge (s : Sn) : ∀ k x, -1 ≤ worthK s k x
  | 0, _ => Int.le_refl _
  | k + 1, x => by rw [worthK]; exact bestZ_ge _ _
theorem worthZ_ge (s : Sn) (x : Sta) : -1 ≤ worthZ s x := worthK_ge s _ x
theorem bestZ_step {s : Sn} {f : Sta → Int} {x : Sta} (hs : safeB s x = true) : homeZ s x ≤ bestZ s f x ∧ (∀ t, afterS s x t ≠ [] → gainZ s f x t ≤ bestZ s f x) ∧ (bestZ s f x = homeZ s x ∨ ∃ t, afterS s x t ≠ [] ∧ bestZ s f x = gainZ s f x t) := by
  have h := foldl_max_prop (f := fun t => gainZ s f x t) (l := stepsS s x) (b := homeZ s x)
  unfold bestZ
  rw [if_pos hs]
  refine ⟨h.2.1, fun t ht => h.2.2 t (stepsS_mem.2 ht), ?_⟩
  rcases h.1 with h | ⟨t, ht, h⟩
  · exact .inl h
  · exact .inr ⟨t, stepsS_mem.1 ht, h⟩
structure Emb (s u : Sn) (π τ : Nat → Nat) (R : Nat → Prop) : Prop where
  last : s.last = u.last
  pl : ∀ p : Nat, (p : Int) < s.places → (π p : Int) < u.places
  home : ∀ p : Nat, (p : Int) = s.home → (π p : Int) = u.home
  bed : ∀ p : Nat, (p : Int) = s.bed → (π p : Int) = u.bed
  ways : ∀ (p : Nat) t, (p : Int) < s.places → t ∈ waysL s p → ((π t.1.toNat : Int), t.2) ∈ waysL u (π p)
  tr : ∀ i, R i → i < s.truths.length ∧ τ i < u.truths.length
  dry : ∀ i p m, R i → dryT s i p m = true → dryT u (τ i) (π p) m = true
  look : ∀ i j p, R i → R j → lookZ u (τ i) (π p) = lookZ u (τ j) (π p) → lookZ s i p = lookZ s j p
theorem worth_mono {s u : Sn} (oks : SnOk s) (oku : SnOk u) {π τ : Nat → Nat} {R : Nat → Prop} (E : Emb s u π τ R) : ∀ (d p m B A : Nat), (s.last + 1 - m).toNat ≤ d → (m : Int) ≤ s.last → (p : Int) < s.places → A ≠ 0 → (∀ i, B.testBit i = true → R i) → (∀ j, A.testBit j = true → ∃ i, B.testBit i = true ∧ τ i = j) → worthZ s ⟨p, m, B⟩ ≤ worthZ u ⟨π p, m, A⟩
  | 0, p, m, B, A, hd, hm, _, _, _, _ => by omega
  | d + 1, p, m, B, A, hd, hm, hp, hA, hB, hAB => by
    have hum : (m : Int) ≤ u.last := by rw [← E.last]; exact hm
    have ih := worth_mono oks oku E d
    rw [worthZ_eq oks hm, worthZ_eq oku hum]
    cases hs : safeB s ⟨p, m, B⟩ with
    | false =>
      have : bestZ s (worthZ s) ⟨p, m, B⟩ = -1 := by unfold bestZ; rw [if_neg (by rw [hs]; simp)]
      rw [this]; exact bestZ_ge _ _
    | true =>
      obtain ⟨hs1, hs2⟩ := safeB_iff.1 hs
      have hu : safeB u ⟨π p, m, A⟩ = true := safeB_iff.2 ⟨hA, fun j hj => by
        obtain ⟨i, hi, rfl⟩ := hAB j hj
        exact ⟨(E.tr i (hB i hi)).2, E.dry i p m (hB i hi) (hs2 i hi).2⟩⟩
      obtain ⟨u1, u2, -⟩ := bestZ_step (f := worthZ u) hu
      obtain ⟨-, -, h3⟩ := bestZ_step (f := worthZ s) hs
      rcases h3 with h3 | ⟨t, ht, h3⟩
      · rw [h3]
        refine Int.le_trans ?_ u1
        unfold homeZ
        split
        · rename_i e; rw [if_pos (E.home p e)]; exact Int.le_refl _
        · split <;> omega
      · rw [h3]
        have hae := afterS_eq ht
        obtain ⟨y0, hy0⟩ := List.exists_mem_of_ne_nil _ ht
        obtain ⟨-, m1, m2, hway, -, -, -⟩ := afterS_mem hy0
        dsimp only at m1 m2 hway
        obtain ⟨w1, w2, w3, w4⟩ := waysL_pos oks hway
        have htp : ((t.1.toNat : Nat) : Int) < s.places := by omega
        have hway' := E.ways p t hp hway
        -- each truth that is left, at the place that the step comes to
        have hall : ∀ i, B.testBit i = true → ∃ y ∈ afterS s ⟨p, m, B⟩ t, y.p = t.1.toNat ∧ y.m = ((m : Int) + t.2).toNat ∧ y.l.testBit i = true ∧ safeB s y = true ∧ (∀ k, y.l.testBit k = true ↔ B.testBit k = true ∧ lookZ s k t.1.toNat = lookZ s i t.1.toNat) := fun i hi => by
          have hti : i < s.looks.length := by rw [oks.k1]; exact (E.tr i (hB i hi)).1
          obtain ⟨n, hn, hl, hpm, hb⟩ := parts_has oks htp hti hi
          have hy : (⟨t.1.toNat, ((m : Int) + t.2).toNat, partN s t.1.toNat B n⟩ : Sta) ∈ afterS s ⟨p, m, B⟩ t := by rw [hae, outS_mem]; exact ⟨rfl, rfl, hpm⟩
          refine ⟨_, hy, rfl, rfl, hb, (afterS_mem hy).2.2.2.2.2.1, fun k => ?_⟩
          show (partN s t.1.toNat B n).testBit k = true ↔ _
          rw [partN_bit, hl]
          constructor
          · intro h
            simp only [Bool.and_eq_true, beq_iff_eq, decide_eq_true_eq] at h
            exact ⟨h.2.2, h.2.1⟩
          · rintro ⟨h1, h2⟩
            have : k < s.looks.length := by rw [oks.k1]; exact (E.tr k (hB k h1)).1
            simp only [Bool.and_eq_true, beq_iff_eq, decide_eq_true_eq]
            exact ⟨this, h2, h1⟩
        -- what the step comes to there
        have hout : ∀ y' ∈ outS u ⟨π p, m, A⟩ ((π t.1.toNat : Int), t.2), safeB u y' = true ∧ gainZ s (worthZ s) ⟨p, m, B⟩ t ≤ gainZ s (worthZ s) ⟨p, m, B⟩ t ∧ minL (worthZ s) (afterS s ⟨p, m, B⟩ t) ≤ worthZ u y' := fun y' hy' => by
          obtain ⟨q1, q2, q3⟩ := outS_mem.1 hy'
          rw [Int.toNat_natCast] at q1 q3
          obtain ⟨n', hn', hl', hne⟩ := partsL_mem.1 q3
          have hbits : ∀ j, y'.l.testBit j = true → A.testBit j = true ∧ lookZ u j (π t.1.toNat) = n' := fun j hj => by
            rw [hl', partN_bit] at hj
            simp only [Bool.and_eq_true, beq_iff_eq, decide_eq_true_eq] at hj
            exact ⟨hj.2.2, hj.2.1⟩
          have hsafe : safeB u y' = true := safeB_iff.2 ⟨hne, fun j hj => by
            obtain ⟨i, hi, rfl⟩ := hAB j (hbits j hj).1
            obtain ⟨y, hy, y1, y2, y3, y4, -⟩ := hall i hi
            have h4 := ((safeB_iff.1 y4).2 i y3).2
            rw [y1, y2] at h4
            have q2' : y'.m = ((m : Int) + t.2).toNat := q2
            rw [q1, q2']
            exact ⟨(E.tr i (hB i hi)).2, E.dry i _ _ (hB i hi) h4⟩⟩
          refine ⟨hsafe, Int.le_refl _, ?_⟩
          obtain ⟨j, hj⟩ : ∃ j, y'.l.testBit j = true := by
            refine Classical.byContradiction fun h => hne (bit_ext fun j => ?_)
            rw [Nat.zero_testBit]
            cases hb : y'.l.testBit j with
            | false => rfl
            | true => exact absurd ⟨j, hb⟩ h
          obtain ⟨i, hi, hij⟩ := hAB j (hbits j hj).1
          obtain ⟨y, hy, y1, y2, y3, y4, y5⟩ := hall i hi
          have hmin := (minL_mem (f := worthZ s) ht).2 y hy
          refine Int.le_trans hmin ?_
          have hc := ih t.1.toNat y.m y.l y'.l (by omega) (by omega) htp hne (fun k hk => hB k ((y5 k).1 hk).1) fun j2 hj2 => by
            obtain ⟨i2, hi2, hij2⟩ := hAB j2 (hbits j2 hj2).1
            refine ⟨i2, (y5 i2).2 ⟨hi2, ?_⟩, hij2⟩
            refine E.look i2 i _ (hB i2 hi2) (hB i hi) ?_
            rw [hij2, hij, (hbits j2 hj2).2, (hbits j hj).2]
          have e1 : y = ⟨t.1.toNat, y.m, y.l⟩ := by cases y; dsimp only at y1 ⊢; rw [y1]
          have e2 : y' = ⟨π t.1.toNat, y.m, y'.l⟩ := by
            have q2' : y'.m = y.m := by rw [y2]; exact q2
            cases y'; dsimp only at q1 q2' ⊢; rw [q1, q2']
          rw [e1, e2]; exact hc
        have hne : outS u ⟨π p, m, A⟩ ((π t.1.toNat : Int), t.2) ≠ [] := by
          obtain ⟨j, hj⟩ : ∃ j, A.testBit j = true := by
            refine Classical.byContradiction fun h => hA (bit_ext fun j => ?_)
            rw [Nat.zero_testBit]
            cases hb : A.testBit j with
            | false => rfl
            | true => exact absurd ⟨j, hb⟩ h
          obtain ⟨i, hi, hij⟩ := hAB j hj
          have hju : j < u.looks.length := by rw [oku.k1, ← hij]; exact (E.tr i (hB i hi)).2
          obtain ⟨n, -, -, h, -⟩ := parts_has oku (E.pl _ htp) hju hj
          exact List.ne_nil_of_mem (outS_mem.2 ⟨rfl, rfl, by rw [Int.toNat_natCast]; exact h⟩ : (⟨_, _, _⟩ : Sta) ∈ _)
        have hafu : afterS u ⟨π p, m, A⟩ ((π t.1.toNat : Int), t.2) = outS u ⟨π p, m, A⟩ ((π t.1.toNat : Int), t.2) := by
          unfold afterS
          rw [if_pos ⟨hu, inZ_iff.2 ⟨by show 0 ≤ (m : Int) + t.2; omega, by show (m : Int) + t.2 ≤ u.last; rw [← E.last]; omega⟩, List.contains_iff_mem.2 hway', List.all_eq_true.2 fun y hy => (hout y hy).1⟩]
        have hg := u2 _ (by rw [hafu]; exact hne)
        refine Int.le_trans ?_ hg
        have hge := minL_ge (f := worthZ u) (c := minL (worthZ s) (afterS s ⟨p, m, B⟩ t)) (l := afterS u ⟨π p, m, A⟩ ((π t.1.toNat : Int), t.2)) (by rw [hafu]; exact hne) (fun y hy => by rw [hafu] at hy; exact (hout y hy).2.2)
        have hge1 := minL_ge (f := worthZ s) (c := -1) ht fun y _ => worthZ_ge s y
        unfold gainZ
        dsimp only
        split
        · rename_i h
          rw [if_pos ⟨by omega, E.bed p h.2.1, E.bed _ (by omega)⟩]; omega
        · split <;> omega
end GA
end

section
namespace GA
open Go Go.RowKit Go.Proofs
set_option maxRecDepth 8000
set_option linter.unusedVariables false
set_option linter.unusedSimpArgs false

theorem leadB_iff {w : Wy} {p q : Int} : leadB w p q = true ↔ (w.1 = p ∧ w.2.1 = q) ∨ (w.1 = q ∧ w.2.1 = p) := by
  unfold leadB
  simp only [Bool.or_eq_true, Bool.and_eq_true, beq_iff_eq]
end GA
end

section
namespace GA
open Go Go.RowKit Go.Proofs
set_option pp.deepTerms true
set_option maxRecDepth 8000
set_option linter.unusedVariables false
set_option linter.unusedSimpArgs false

theorem FrozL.app {P : Program} {H : List Blk} : ∀ {us us' bs bs' : List AV}, FrozL P H us us' → FrozL P H bs bs' → FrozL P H (us ++ bs) (us' ++ bs')
  | us, us', bs, bs', h1, h2 => by
    refine ⟨by rw [List.length_append, List.length_append, h1.1, h2.1], fun j x e => ?_⟩
    by_cases h : j < us'.length
    · rw [List.getElem?_append_left h] at e
      rw [List.getElem?_append_left (by rw [← h1.1]; exact h)]
      exact h1.2 j x e
    · rw [List.getElem?_append_right (by omega)] at e
      rw [List.getElem?_append_right (by rw [← h1.1]; omega), ← h1.1]
      exact h2.2 _ x e
theorem dskFOne (s : Sn) : ∀ x ∈ dskFC s, x.one = true := fun x hx => by
  unfold dskFC dryC at hx
  rcases List.mem_append.1 hx with h | h
  · exact snOne s x h
  · rcases List.mem_append.1 h with h | h
    · obtain ⟨y, -, rfl⟩ := List.mem_map.1 h; rfl
    · rw [List.mem_singleton] at h; subst h; rfl
theorem esW_frz {s : Sn} {p : Nat} {R : List (Int × Int)} (hR : R = waysL s p) (hne : waysL s p ≠ []) : FrzE 2 R.length R.isEmpty (sgs R) (esW s p R) (esF s (p + 1)) := by
  subst hR
  have he : (waysL s p).isEmpty = false := by cases h : waysL s p with | nil => exact absurd h hne | cons _ _ => rfl
  unfold esW
  rw [if_neg (by rw [he]; simp), esF_succ, he]
  refine ⟨by rw [List.map_append, List.map_append]; rfl, fun j q x' e => ?_⟩
  by_cases h : j < (esF s p).length
  · rw [List.getElem?_append_left h] at e ⊢
    exact ⟨x', e, .inl rfl⟩
  · rw [List.getElem?_append_right (by omega)] at e ⊢
    cases h2 : j - (esF s p).length with
    | zero =>
      rw [h2] at e
      simp only [List.getElem?_cons_zero, Option.some.injEq, Prod.mk.injEq] at e
      obtain ⟨rfl, rfl⟩ := e
      exact ⟨_, rfl, .inr ⟨rfl, rfl⟩⟩
    | succ n => rw [h2] at e; simp at e
theorem XInt.shl {i : Nat} {k : AV → Prop} (hi : i ≤ 62) (h : k (natA (2 ^ i))) : XInt .i64 (1 * 2 ^ min (i : Int).toNat IntKind.i64.bits) k := by
  rw [shl_nat (by omega)]
  have h1 : 2 ^ i ≤ 2 ^ 62 := Nat.pow_le_pow_right (by omega) hi
  have h2 : (2 : Nat) ^ 62 = 4611686018427387904 := by decide
  rw [h2] at h1
  generalize 2 ^ i = q at h h1
  exact XInt.i64 (by omega) (by omega) h
def dkC (s : Sn) (F : Nat → Nat) (m : AV) : List AV := snC s ++ (nvs 305 F ++ [m])
theorem dkC_low {n : Nat} (s : Sn) (F : Nat → Nat) {m : AV} (h : m.low n = true) : lowL n (dkC s F m) = true := lowL_app (snCL s) (lowL_app (nvs_low _ _) (by show (m.low n && true) = true; rw [h]; rfl))
theorem dkC_at (s : Sn) (F : Nat → Nat) (m : AV) {j : Nat} (hj : j < 305) : (dkC s F m)[7 + j]? = some (natA (F j)) := by
  unfold dkC
  rw [List.getElem?_append_right (by show 7 ≤ 7 + j; omega), show 7 + j - (snC s).length = j by show 7 + j - 7 = j; omega, List.getElem?_append_left (by rw [nvs_len]; omega)]
  exact vec_at hj
theorem dkC_set (s : Sn) (F : Nat → Nat) (m : AV) {j v : Nat} (hj : j < 305) : (dkC s F m).set (7 + j) (natA v) = dkC s (updV F j v) m := by
  unfold dkC
  rw [List.set_append_right _ _ (by show 7 ≤ 7 + j; omega), show 7 + j - (snC s).length = j by show 7 + j - 7 = j; omega, List.set_append_left _ _ (by rw [nvs_len]; omega)]
  unfold nvs
  rw [← List.map_set, vecF_set]
theorem dkC_len (s : Sn) (F : Nat → Nat) (m : AV) : (dkC s F m).length = 313 := by unfold dkC; rw [List.length_append, List.length_append, nvs_len]; rfl
theorem xspl_at {v : AV} : ∀ {c : List AV} {o : Nat} {k : List AV → Prop}, o < c.length → k (c.set o v) → xspl c o [v] k
  | [], o, k, h, _ => by simp at h
  | x :: c, 0, k, h, hk => by
    show xspl c 0 [] fun l => k (v :: l)
    cases c <;> exact hk
  | x :: c, o + 1, k, h, hk => xspl_at (c := c) (o := o) (k := fun l => k (x :: l)) (by simpa using h) hk
theorem xspl_dk {s : Sn} {F : Nat → Nat} {m v : AV} {o : Nat} {k : List AV → Prop} (j v' : Nat) (ho : o = 7 + j) (hj : j < 305) (hv : v = natA v') (h : k (dkC s (updV F j v') m)) : xspl (dkC s F m) o [v] k := by
  subst ho hv
  refine xspl_at (by rw [dkC_len]; omega) ?_
  rw [dkC_set _ _ _ hj]; exact h
theorem xdrop_dk {s : Sn} {F : Nat → Nat} {m : AV} {o : Nat} {k : List AV → Prop} (j : Nat) (ho : o = 7 + j) (hj : j < 305) (h : k (natA (F j) :: (dkC s F m).drop (o + 1))) : xdrop o (dkC s F m) k := by
  subst ho
  exact xdrop_at _ (dkC_at s F m hj) h
def rowW (s : Sn) (p q w : Nat) : List (Int × Int) := waysK s p q ++ ((if p = q then [((p : Int), (1 : Int))] else []) ++ ((s.ways.take w).filter fun w => leadB w p q).map fun w => ((q : Int), w.2.2))
theorem rowW_0 (s : Sn) (p q : Nat) : rowW s p q 0 = waysK s p q ++ if p = q then [((p : Int), (1 : Int))] else [] := by unfold rowW; rw [List.take_zero, List.filter_nil, List.map_nil, List.append_nil]
theorem rowW_end (s : Sn) (p q : Nat) : rowW s p q s.ways.length = waysK s p (q + 1) := by unfold rowW; rw [List.take_length]; rfl
theorem rowW_next {s : Sn} {p q w : Nat} (h : w < s.ways.length) : rowW s p q (w + 1) = if leadB (s.ways.getD w default) p q = true then rowW s p q w ++ [((q : Int), (s.ways.getD w default).2.2)] else rowW s p q w := by
  unfold rowW
  rw [take_next h, List.filter_append, List.map_append]
  by_cases hl : leadB (s.ways.getD w default) p q = true
  · rw [if_pos hl, List.filter_cons, if_pos hl]; simp
  · rw [if_neg hl, List.filter_cons, if_neg hl]; simp
theorem waysK_len (s : Sn) (p : Nat) : ∀ q, (waysK s p q).length ≤ q * (1 + s.ways.length)
  | 0 => by simp [waysK]
  | q + 1 => by
    have h := waysK_len s p q
    have h2 : (s.ways.filter fun w => leadB w p q).length ≤ s.ways.length := List.length_filter_le _ _
    rw [waysK, List.length_append, Nat.add_mul]
    unfold waysQ
    rw [List.length_append, List.length_map]
    split <;> simp only [List.length_cons, List.length_nil] <;> omega
theorem rowW_len (s : Sn) (p q w : Nat) : (rowW s p q w).length ≤ (q + 1) * (1 + s.ways.length) := by
  have h := waysK_len s p q
  have h2 : ((s.ways.take w).filter fun w => leadB w p q).length ≤ s.ways.length := Nat.le_trans (List.length_filter_le _ _) (by rw [List.length_take]; omega)
  unfold rowW
  rw [List.length_append, List.length_append, List.length_map, Nat.add_mul]
  split <;> simp only [List.length_cons, List.length_nil] <;> omega
def rwB (R : List (Int × Int)) : Blk := .grow 143 R.isEmpty (sgs R)
theorem sgs_nil (R : List (Int × Int)) : R.isEmpty = (sgs R).isEmpty := by cases R <;> rfl
theorem rwB_app (R : List (Int × Int)) (x : Int × Int) : rwB (R ++ [x]) = .grow 143 (R.isEmpty && false) (sgs R ++ [sgA x]) := by
  unfold rwB sgs; rw [isEmpty_app, List.map_append]; rfl
set_option maxHeartbeats 4000000 in
theorem fdOpened_c (s : Sn) (hb : SnB s) (ok : SnOk s) : Comp Tryz.prog 50 [snA s] (.tup [dskFA s, .int .i64 0]) := by
  have hc := fdCheck_c s hb
  rw [snE_iff.2 ok] at hc
  have p1 := ok.p1; have p2 := ok.p2; have t1 := ok.t1; have t2 := ok.t2; have l1 := ok.l1; have l2 := ok.l2; have w1 := ok.w1
  have e3 : ((s.truths.map trA).length : Int) = s.truths.length := by rw [List.length_map]
  refine Comp.body (T := tab) (res := [.tmp 2, .tmp 3]) tab_ok [25] Tryz.func50 rfl (by kernel_rfl) Tryz.ntmps50 rfl (by simp only [List.length_cons, List.length_nil]; decide) (by simp only [lowL, snL]; rfl) ?_; conv => whnf
  repeat' first | ((with_reducible first | refine XBr.y2 fun h => ?_ | refine XBr.n2 fun h => ?_ | refine XBr.bne (fun h => ?_) fun h => ?_) <;> conv => whnf) | ((refine XCall.ret hc ?_); conv => whnf) | fail
  refine Walk.loopGK tab_ok [] [(1, _), (2, _), (3, _), (5, _), (27, _), (28, _)] ⟨rfl, rfl, rfl, rfl, rfl, rfl, trivial⟩ (fun i : Nat => i ≤ s.truths.length) (fun i => [(29, natA i)]) (fun i => [.map [], .cells (dkC s (dryG s.truths.length (dryV s i 0 0)) (.mp 0))]) (fun i => s.truths.length - i) 0 (Nat.zero_le _) (by show [Blk.map [], Blk.cells (dkC s (dryG s.truths.length (dryV s 0 0 0)) (.mp 0))] = _; rw [dryG_beg]; unfold dkC; rw [← nvs0]; rfl) ⟨rfl, trivial⟩ ?_ (fun _ _ => (show (2 : Nat) ≤ 2 from Nat.le_refl 2)) ?_
  · intro i _
    refine ⟨fun z hz => ?_, fun z hz => ?_⟩
    · simp only [List.mem_cons, List.not_mem_nil, or_false] at hz
      rcases hz with rfl | rfl <;> first | rfl | exact dkC_low s _ rfl
    · simp only [List.cons_append, List.nil_append, List.mem_cons, List.not_mem_nil, or_false] at hz
      rcases hz with rfl | rfl | rfl | rfl | rfl | rfl | rfl <;> first | rfl | exact lowTr _ | exact snCL s
  intro i hi
  conv => whnf
  by_cases hlt : i < s.truths.length
  · have hmem : s.truths.getD i default ∈ s.truths := getD_mem hlt
    have htl := ok.tl _ hmem
    have e4 : (((s.truths.getD i default).2.map spsA).length : Int) = (s.truths.getD i default).2.length := by rw [List.length_map]
    repeat' first | ((with_reducible first | refine XBr.y fun h => ?_ | refine XBr.n fun h => ?_ | refine XBr.dec (fun h => ?_) fun h => ?_) <;> conv => whnf) | (refine XIx.a ?_; conv => whnf) | fail
    refine Walk.loopK tab_ok [] [(1, _), (2, _), (3, _), (5, _), (6, _), (27, _), (28, _), (29, _), (35, _), (36, _)] ⟨rfl, rfl, rfl, rfl, rfl, rfl, rfl, rfl, rfl, rfl, trivial⟩ (fun p : Nat => p ≤ (s.truths.getD i default).2.length) (fun p => [(37, natA p)]) (fun p => [.map [], .cells (dkC s (dryG s.truths.length (dryV s i p 0)) (.mp 0)), .cells [.sl (s.truths.getD i default).1 ((s.truths.getD i default).2.map spsA)]]) (fun p => (s.truths.getD i default).2.length - p) 0 (Nat.zero_le _) rfl ⟨rfl, trivial⟩ ?_
    intro p hp
    conv => whnf
    by_cases hlt2 : p < (s.truths.getD i default).2.length
    · have hmem2 : (s.truths.getD i default).2.getD p default ∈ (s.truths.getD i default).2 := getD_mem hlt2
      have hsp := spE_ok (ok.sp _ hmem _ hmem2)
      have hlen := hb.sl _ hmem _ hmem2
      have e5 : ((((s.truths.getD i default).2.getD p default).2.map sgA).length : Int) = ((s.truths.getD i default).2.getD p default).2.length := by rw [List.length_map]
      repeat' first | ((with_reducible first | refine XBr.y fun h => ?_ | refine XBr.n fun h => ?_ | refine XBr.dec (fun h => ?_) fun h => ?_) <;> conv => whnf) | (refine XIx.a ?_; conv => whnf) | fail
      refine Walk.loopGK tab_ok [] [(1, _), (2, _), (3, _), (5, _), (6, _), (8, _), (27, _), (28, _), (29, _), (35, _), (36, _), (37, _), (42, _), (43, _)] ⟨rfl, rfl, rfl, rfl, rfl, rfl, rfl, rfl, rfl, rfl, rfl, rfl, rfl, rfl, trivial⟩ (fun k : Nat => k ≤ ((s.truths.getD i default).2.getD p default).2.length) (fun k => [(44, natA k)]) (fun k => [.map [], .cells (dkC s (dryG s.truths.length (dryV s i p k)) (.mp 0)), .cells [.sl (s.truths.getD i default).1 ((s.truths.getD i default).2.map spsA)]]) (fun k => ((s.truths.getD i default).2.getD p default).2.length - k) 0 (Nat.zero_le _) rfl ⟨rfl, trivial⟩ ?_ (fun _ _ => (show (3 : Nat) ≤ 3 from Nat.le_refl 3)) ?_
      · intro k _
        refine ⟨fun z hz => ?_, fun z hz => ?_⟩
        · simp only [List.mem_cons, List.not_mem_nil, or_false] at hz
          rcases hz with rfl | rfl | rfl <;> first | rfl | exact dkC_low s _ rfl | (simp only [Blk.low, lowL, AV.low, lowSps]; rfl)
        · simp only [List.cons_append, List.nil_append, List.mem_cons, List.not_mem_nil, or_false] at hz
          rcases hz with rfl | rfl | rfl | rfl | rfl | rfl | rfl | rfl | rfl | rfl | rfl | rfl | rfl | rfl | rfl <;> first | rfl | exact lowTr _ | exact snCL s | exact lowSps _ | exact lowSg _
      intro k hk
      conv => whnf
      by_cases hlt3 : k < ((s.truths.getD i default).2.getD p default).2.length
      · have hx := hsp _ (getD_mem hlt3 (d := default))
        obtain ⟨lo, hlo⟩ : ∃ lo : Nat, (((s.truths.getD i default).2.getD p default).2.getD k default).1 = lo := ⟨(((s.truths.getD i default).2.getD p default).2.getD k default).1.toNat, by omega⟩
        obtain ⟨hh, hhi⟩ : ∃ hh : Nat, (((s.truths.getD i default).2.getD p default).2.getD k default).2 = hh := ⟨(((s.truths.getD i default).2.getD p default).2.getD k default).2.toNat, by omega⟩
        repeat' first | ((with_reducible first | refine XBr.y fun h => ?_ | refine XBr.n fun h => ?_ | refine XBr.dec (fun h => ?_) fun h => ?_) <;> conv => whnf) | (refine XIx.a ?_; conv => whnf) | fail
        refine Walk.loopK tab_ok [] [(1, _), (2, _), (3, _), (5, _), (6, _), (8, _), (11, _), (27, _), (28, _), (29, _), (35, _), (36, _), (37, _), (42, _), (43, _), (44, _)] ⟨rfl, rfl, rfl, rfl, rfl, rfl, rfl, rfl, rfl, rfl, rfl, rfl, rfl, rfl, rfl, rfl, trivial⟩ (fun m : Nat => lo ≤ m ∧ m ≤ hh + 1) (fun m => [(12, natA m)]) (fun m => [.map [], .cells (dkC s (dryG s.truths.length (dryW s i p k m)) (.mp 0)), .cells [.sl (s.truths.getD i default).1 ((s.truths.getD i default).2.map spsA)], .cells (sgA (((s.truths.getD i default).2.getD p default).2.getD k default)).cells]) (fun m => hh + 1 - m) lo ⟨Nat.le_refl _, by omega⟩ ?_ ⟨congrArg (fun z => some (AV.int .i64 z)) hlo, trivial⟩ ?_
        · have hbeg : dryW s i p k (lo : Int) = dryV s i p k := by unfold dryV; rw [show (spX s i p k).1 = (lo : Int) from hlo]
          show [Blk.map [], Blk.cells (dkC s (dryG s.truths.length (dryW s i p k (lo : Int))) (.mp 0)), _, _] = _
          rw [hbeg]; rfl
        rintro m ⟨hm1, hm2⟩
        conv => whnf
        by_cases hlt4 : m < hh + 1
        · have hpow : 2 ^ i ≤ 2 ^ 4 := Nat.pow_le_pow_right (by omega) (by omega)
          have hdl : dryG s.truths.length (dryW s i p k m) (61 * p + m) < 2 ^ s.truths.length := bsum_lt _ _
          have hdl2 : 2 ^ s.truths.length ≤ 2 ^ 4 := Nat.pow_le_pow_right (by omega) (by omega)
          repeat' first | ((with_reducible first | refine XBr.y fun h => ?_ | refine XBr.n fun h => ?_ | refine XBr.dec (fun h => ?_) fun h => ?_ | refine XInt.a ?_ | apply Chk.go | apply ChkA.go | apply ChkF.go | apply ChkB.go | apply XNext.mk) <;> conv => whnf) | (refine XHold.a ?_; conv => whnf) | (with_reducible first | apply XAnd.mk | exact trivial) | (exact XSame.mk rfl rfl) | (((with_reducible refine XArr.ptr ?_ ?_ ?_); omega; omega); conv => whnf) | (apply Walk.drawN (id := 17) tab_ok mixed_ok [25] [15] (hsC [_, _]) [_, _, _, _, _, _, _, _, _, _, _, _, _, _, _, _] (by kernel_rfl) rfl) | ((first | refine xdrop_dk (61 * p + m) (by omega) (by omega) ?_ | refine XInt.shl (by omega) ?_ | refine xspl_dk (61 * p + m) (dryG s.truths.length (dryW s i p k m) (61 * p + m) ||| 2 ^ i) (by omega) (by omega) (congrArg (AV.int .i64) (ior_nat (by omega) (by omega))) ?_); conv => whnf) | fail
          refine XAgain.go (m + 1) ⟨by omega, by omega⟩ (by omega) ?_ ⟨rfl, rfl, rfl, rfl, rfl, rfl, rfl, rfl, rfl, rfl, rfl, rfl, rfl, rfl, rfl, rfl, rfl, trivial⟩
          have hset := dryG_set (T := s.truths.length) (i := i) (p := p) (m := m) (F := dryW s i p k m) (F' := dryW s i p k ((m + 1 : Nat) : Int)) hlt (by omega) (fun t q n => by
            have := dryW_min (s := s) (i := i) (p := p) (k := k) (m := m) (by unfold spX; omega) (by unfold spX; omega) t q n
            rwa [show ((m : Int) + 1) = ((m + 1 : Nat) : Int) by omega] at this)
          show [Blk.map [], Blk.cells (dkC s (dryG s.truths.length (dryW s i p k ((m + 1 : Nat) : Int))) (.mp 0)), _, _] = _
          rw [hset]; rfl
        obtain rfl : m = hh + 1 := by omega
        repeat' ((with_reducible first | refine XBr.y fun h => ?_ | refine XBr.n fun h => ?_ | refine XBr.dec (fun h => ?_) fun h => ?_ | refine XInt.a ?_) <;> conv => whnf)
        refine XAgainG.go (k + 1) [.cells (sgA (((s.truths.getD i default).2.getD p default).2.getD k default)).cells] (by omega) (by omega) ?_ ⟨rfl, rfl, rfl, rfl, rfl, rfl, rfl, rfl, rfl, rfl, rfl, rfl, rfl, rfl, rfl, trivial⟩
        have hspan := dryV_span (s := s) (i := i) (p := p) hlt3
        rw [show (spX s i p k).2 + 1 = ((hh + 1 : Nat) : Int) by unfold spX; omega] at hspan
        rw [hspan]; rfl
      obtain rfl : k = ((s.truths.getD i default).2.getD p default).2.length := by omega
      rw [dryV_row]
      repeat' ((with_reducible first | refine XBr.y fun h => ?_ | refine XBr.n fun h => ?_ | refine XBr.dec (fun h => ?_) fun h => ?_ | refine XInt.a ?_) <;> conv => whnf)
      exact XAgain.go (p + 1) (by omega) (by omega) rfl ⟨rfl, rfl, rfl, rfl, rfl, rfl, rfl, rfl, rfl, rfl, rfl, trivial⟩
    obtain rfl : p = (s.truths.getD i default).2.length := by omega
    rw [dryV_truth]
    repeat' ((with_reducible first | refine XBr.y fun h => ?_ | refine XBr.n fun h => ?_ | refine XBr.dec (fun h => ?_) fun h => ?_ | refine XInt.a ?_) <;> conv => whnf)
    exact XAgainG.go (i + 1) [.cells [.sl (s.truths.getD i default).1 ((s.truths.getD i default).2.map spsA)]] (by omega) (by omega) rfl ⟨rfl, rfl, rfl, rfl, rfl, rfl, rfl, trivial⟩
  obtain rfl : i = s.truths.length := by omega
  clear hi
  generalize hF : dryG s.truths.length (dryV s s.truths.length 0 0) = F
  obtain ⟨P0, hP0⟩ : ∃ P0 : Nat, s.places = P0 := ⟨s.places.toNat, by omega⟩
  repeat' ((with_reducible first | refine XBr.y fun h => ?_ | refine XBr.n fun h => ?_ | refine XBr.dec (fun h => ?_) fun h => ?_) <;> conv => whnf)
  refine Walk.loopGK tab_ok [] [(1, _), (2, _), (3, _), (5, _), (75, _)] ⟨rfl, rfl, rfl, rfl, rfl, trivial⟩ (fun p : Nat => p ≤ P0) (fun p => [(76, natA p)]) (fun p => [.map (esF s p), .cells (dkC s F (.mp 0))]) (fun p => P0 - p) 0 (Nat.zero_le _) rfl ⟨rfl, trivial⟩ ?_ (fun _ _ => (show (2 : Nat) ≤ 2 from Nat.le_refl 2)) ?_
  · intro p _
    refine ⟨fun z hz => ?_, fun z hz => ?_⟩
    · simp only [List.mem_cons, List.not_mem_nil, or_false] at hz
      rcases hz with rfl | rfl <;> first | exact esF_low s p | exact dkC_low s _ rfl
    · simp only [List.cons_append, List.nil_append, List.mem_cons, List.not_mem_nil, or_false] at hz
      rcases hz with rfl | rfl | rfl | rfl | rfl | rfl <;> first | rfl | exact snCL s
  intro p hp
  conv => whnf
  by_cases hlt : p < P0
  · skip
    repeat' ((with_reducible first | refine XBr.y fun h => ?_ | refine XBr.n fun h => ?_ | refine XBr.dec (fun h => ?_) fun h => ?_) <;> conv => whnf)
    refine Walk.nilrow 143 ?_
    refine Walk.thenDo ?_
    refine Walk.loopGK tab_ok [] [(1, _), (2, _), (3, _), (5, _), (13, _), (75, _), (76, _), (80, _)] ⟨rfl, rfl, rfl, rfl, rfl, rfl, rfl, rfl, trivial⟩ (fun q : Nat => q ≤ P0) (fun q => [(81, natA q)]) (fun q => [.map (esW s p (waysK s p q)), .cells (dkC s F (.mp 0)), rwB (waysK s p q)]) (fun q => P0 - q) 0 (Nat.zero_le _) (by show [Blk.map (esW s p []), _, rwB []] = _; rw [esW_nil]; rfl) ⟨rfl, trivial⟩ ?_ (fun _ _ => (show (3 : Nat) ≤ 3 from Nat.le_refl 3)) ?_
    · intro q _
      refine ⟨fun z hz => ?_, fun z hz => ?_⟩
      · simp only [List.mem_cons, List.not_mem_nil, or_false] at hz
        rcases hz with rfl | rfl | rfl <;> first | exact esW_low s p _ | exact dkC_low s _ rfl | exact sgs_low _
      · simp only [List.cons_append, List.nil_append, List.mem_cons, List.not_mem_nil, or_false] at hz
        rcases hz with rfl | rfl | rfl | rfl | rfl | rfl | rfl | rfl | rfl <;> first | rfl | exact snCL s
    intro q hq
    conv => whnf
    by_cases hlt2 : q < P0
    · by_cases hpq : p = q
      · subst hpq
        have hlen := waysK_len s p p
        have hlen2 : p * (1 + s.ways.length) ≤ 5 * 11 := Nat.mul_le_mul (by omega) (by omega)
        have hst : [Blk.map (esW s p (rowW s p p 0)), Blk.cells (dkC s F (.mp 0)), rwB (rowW s p p 0)] = [.map (mput (p : Int) (.gr 2 ((waysK s p p).length + 1)) (esW s p (waysK s p p))), .cells (dkC s F (.mp 0)), .grow 143 ((waysK s p p).isEmpty && false) (sgs (waysK s p p) ++ [sgA ((p : Int), (1 : Int))])] := by
          rw [rowW_0, if_pos rfl, ← esW_put, rwB_app]
        generalize waysK s p p = R at hlen hst
        have hsR : (sgs R).length = R.length := sgs_len R
        rw [← hsR] at hst
        repeat' first | ((with_reducible first | refine XBr.y fun h => ?_ | refine XBr.n fun h => ?_ | refine XBr.dec (fun h => ?_) fun h => ?_ | refine XBr.y1 fun h => ?_ | refine XBr.n1 fun h => ?_ | refine XBr.beq (fun h => ?_) fun h => ?_ | apply Chk.go | apply ChkA.go | apply ChkF.go | apply ChkB.go | apply XNext.mk) <;> conv => whnf) | (refine XHold.a ?_; conv => whnf) | (with_reducible first | apply XAnd.mk | exact trivial) | (exact XSame.mk rfl rfl) | (apply Walk.drawN (id := 28) tab_ok mixed_ok [25] [14, 15] (hsC [_, _, _]) [_, _, _, _, _, _, _, _, _, _, _, _, _, _, _, _] (by kernel_rfl) rfl) | ((first | refine xdrop_app (a := nvs 305 F) (b := [.mp 0]) (nvs_len _ _) ?_ | refine XGetM.row 2 rfl (sgs_nil _) (esW_get s p _) ?_); conv => whnf) | fail
        refine Walk.loopGK tab_ok [] [(1, _), (2, _), (3, _), (5, _), (13, _), (14, _), (75, _), (76, _), (80, _), (81, _), (103, _), (104, _)] ⟨rfl, rfl, rfl, rfl, rfl, rfl, rfl, rfl, rfl, rfl, rfl, rfl, trivial⟩ (fun w : Nat => w ≤ s.ways.length) (fun w => [(105, natA w)]) (fun w => [.map (esW s p (rowW s p p w)), .cells (dkC s F (.mp 0)), rwB (rowW s p p w)]) (fun w => s.ways.length - w) 0 (Nat.zero_le _) hst ⟨rfl, trivial⟩ ?_ (fun _ _ => (show (3 : Nat) ≤ 3 from Nat.le_refl 3)) ?_
        · intro w _
          refine ⟨fun z hz => ?_, fun z hz => ?_⟩
          · simp only [List.mem_cons, List.not_mem_nil, or_false] at hz
            rcases hz with rfl | rfl | rfl <;> first | exact esW_low s p _ | exact dkC_low s _ rfl | exact sgs_low _
          · simp only [List.cons_append, List.nil_append, List.mem_cons, List.not_mem_nil, or_false] at hz
            rcases hz with rfl | rfl | rfl | rfl | rfl | rfl | rfl | rfl | rfl | rfl | rfl | rfl | rfl <;> first | rfl | exact snCL s | exact lowWy _
        intro w hw
        conv => whnf
        by_cases hlt3 : w < s.ways.length
        · have hnx := rowW_next (p := p) (q := p) hlt3
          have hlen := rowW_len s p p w
          have hlen2 : (p + 1) * (1 + s.ways.length) ≤ 5 * 11 := Nat.mul_le_mul (by omega) (by omega)
          have hld : leadB (s.ways.getD w default) p p = true ↔ ((s.ways.getD w default).1 = (p : Int) ∧ (s.ways.getD w default).2.1 = (p : Int)) ∨ ((s.ways.getD w default).1 = (p : Int) ∧ (s.ways.getD w default).2.1 = (p : Int)) := leadB_iff
          generalize rowW s p p w = R at hnx hlen
          have hsR : (sgs R).length = R.length := sgs_len R
          repeat' first | ((with_reducible first | apply XBr.tt | apply XBr.ff | refine XBr.y fun h => ?_ | refine XBr.n fun h => ?_ | refine XBr.dec (fun h => ?_) fun h => ?_ | refine XBr.y1 fun h => ?_ | refine XBr.n1 fun h => ?_ | refine XBr.beq (fun h => ?_) fun h => ?_ | refine XInt.a ?_ | apply Chk.go | apply ChkA.go | apply ChkF.go | apply ChkB.go | apply XNext.mk) <;> conv => whnf) | ((first | refine XHold.a ?_ | refine XIx.a ?_); conv => whnf) | (with_reducible first | apply XAnd.mk | exact trivial) | (exact XSame.mk rfl rfl) | (((with_reducible refine XArr.ptr ?_ ?_ ?_); omega; omega); conv => whnf) | (apply Walk.drawN (id := 33) tab_ok mixed_ok [25] [16, 17] (hsC [_, _, _]) [_, _, _, _, _, _, _, _, _, _, _, _, _, _, _, _, _, _] (by kernel_rfl) rfl) | ((first | refine Walk.norm tab_ok [] [(1, _), (2, _), (3, _), (5, _), (13, _), (14, _), (16, _), (75, _), (76, _), (80, _), (81, _), (103, _), (104, _), (105, _)] ⟨rfl, rfl, rfl, rfl, rfl, rfl, rfl, rfl, rfl, rfl, rfl, rfl, rfl, rfl, trivial⟩ ?_ | refine xdrop_app (a := nvs 305 F) (b := [.mp 0]) (nvs_len _ _) ?_ | refine XGetM.row 2 rfl (sgs_nil _) (esW_get s p _) ?_); conv => whnf) | fail
          all_goals first
            | (have hx : rowW s p p (w + 1) = R ++ [((p : Int), (s.ways.getD w default).2.2)] := by rw [hnx, if_pos (hld.2 (by omega))]
               refine XAgainG.go (w + 1) [.cells (wyA (s.ways.getD w default)).cells] (by omega) (by omega) ?_ ⟨rfl, rfl, rfl, rfl, rfl, rfl, rfl, rfl, rfl, rfl, rfl, rfl, rfl, trivial⟩
               show [Blk.map (esW s p (rowW s p p (w + 1))), _, rwB (rowW s p p (w + 1)), _] = _
               rw [hx, ← esW_put, rwB_app, ← hsR]; rfl)
            | (have hx : rowW s p p (w + 1) = R := by rw [hnx, if_neg (fun h => by have := hld.1 h; omega)]
               refine XAgainG.go (w + 1) [.cells (wyA (s.ways.getD w default)).cells] (by omega) (by omega) ?_ ⟨rfl, rfl, rfl, rfl, rfl, rfl, rfl, rfl, rfl, rfl, rfl, rfl, rfl, trivial⟩
               show [Blk.map (esW s p (rowW s p p (w + 1))), _, rwB (rowW s p p (w + 1)), _] = _
               rw [hx]; rfl)
        obtain rfl : w = s.ways.length := by omega
        rw [rowW_end]
        repeat' ((with_reducible first | refine XBr.y fun h => ?_ | refine XBr.n fun h => ?_ | refine XBr.dec (fun h => ?_) fun h => ?_ | refine XInt.a ?_) <;> conv => whnf)
        exact XAgainG.go (p + 1) [] (by omega) (by omega) rfl ⟨rfl, rfl, rfl, rfl, rfl, rfl, rfl, rfl, rfl, trivial⟩
      · have hst : [Blk.map (esW s p (rowW s p q 0)), Blk.cells (dkC s F (.mp 0)), rwB (rowW s p q 0)] = [.map (esW s p (waysK s p q)), .cells (dkC s F (.mp 0)), rwB (waysK s p q)] := by
          rw [rowW_0, if_neg hpq, List.append_nil]
        repeat' ((with_reducible first | refine XBr.y fun h => ?_ | refine XBr.n fun h => ?_ | refine XBr.dec (fun h => ?_) fun h => ?_ | refine XBr.y1 fun h => ?_ | refine XBr.n1 fun h => ?_ | refine XBr.beq (fun h => ?_) fun h => ?_) <;> conv => whnf)
        refine Walk.loopGK tab_ok [] [(1, _), (2, _), (3, _), (5, _), (13, _), (14, _), (75, _), (76, _), (80, _), (81, _), (103, _), (104, _)] ⟨rfl, rfl, rfl, rfl, rfl, rfl, rfl, rfl, rfl, rfl, rfl, rfl, trivial⟩ (fun w : Nat => w ≤ s.ways.length) (fun w => [(105, natA w)]) (fun w => [.map (esW s p (rowW s p q w)), .cells (dkC s F (.mp 0)), rwB (rowW s p q w)]) (fun w => s.ways.length - w) 0 (Nat.zero_le _) hst ⟨rfl, trivial⟩ ?_ (fun _ _ => (show (3 : Nat) ≤ 3 from Nat.le_refl 3)) ?_
        · intro w _
          refine ⟨fun z hz => ?_, fun z hz => ?_⟩
          · simp only [List.mem_cons, List.not_mem_nil, or_false] at hz
            rcases hz with rfl | rfl | rfl <;> first | exact esW_low s p _ | exact dkC_low s _ rfl | exact sgs_low _
          · simp only [List.cons_append, List.nil_append, List.mem_cons, List.not_mem_nil, or_false] at hz
            rcases hz with rfl | rfl | rfl | rfl | rfl | rfl | rfl | rfl | rfl | rfl | rfl | rfl | rfl <;> first | rfl | exact snCL s | exact lowWy _
        intro w hw
        conv => whnf
        by_cases hlt3 : w < s.ways.length
        · have hnx := rowW_next (p := p) (q := q) hlt3
          have hlen := rowW_len s p q w
          have hlen2 : (q + 1) * (1 + s.ways.length) ≤ 5 * 11 := Nat.mul_le_mul (by omega) (by omega)
          have hld : leadB (s.ways.getD w default) p q = true ↔ ((s.ways.getD w default).1 = (p : Int) ∧ (s.ways.getD w default).2.1 = (q : Int)) ∨ ((s.ways.getD w default).1 = (q : Int) ∧ (s.ways.getD w default).2.1 = (p : Int)) := leadB_iff
          generalize rowW s p q w = R at hnx hlen
          have hsR : (sgs R).length = R.length := sgs_len R
          repeat' first | ((with_reducible first | apply XBr.tt | apply XBr.ff | refine XBr.y fun h => ?_ | refine XBr.n fun h => ?_ | refine XBr.dec (fun h => ?_) fun h => ?_ | refine XBr.y1 fun h => ?_ | refine XBr.n1 fun h => ?_ | refine XBr.beq (fun h => ?_) fun h => ?_ | refine XInt.a ?_ | apply Chk.go | apply ChkA.go | apply ChkF.go | apply ChkB.go | apply XNext.mk) <;> conv => whnf) | ((first | refine XHold.a ?_ | refine XIx.a ?_); conv => whnf) | (with_reducible first | apply XAnd.mk | exact trivial) | (exact XSame.mk rfl rfl) | (((with_reducible refine XArr.ptr ?_ ?_ ?_); omega; omega); conv => whnf) | (apply Walk.drawN (id := 33) tab_ok mixed_ok [25] [16, 17] (hsC [_, _, _]) [_, _, _, _, _, _, _, _, _, _, _, _, _, _, _, _, _, _] (by kernel_rfl) rfl) | ((first | refine Walk.norm tab_ok [] [(1, _), (2, _), (3, _), (5, _), (13, _), (14, _), (16, _), (75, _), (76, _), (80, _), (81, _), (103, _), (104, _), (105, _)] ⟨rfl, rfl, rfl, rfl, rfl, rfl, rfl, rfl, rfl, rfl, rfl, rfl, rfl, rfl, trivial⟩ ?_ | refine xdrop_app (a := nvs 305 F) (b := [.mp 0]) (nvs_len _ _) ?_ | refine XGetM.row 2 rfl (sgs_nil _) (esW_get s p _) ?_); conv => whnf) | fail
          all_goals first
            | (have hx : rowW s p q (w + 1) = R ++ [((q : Int), (s.ways.getD w default).2.2)] := by rw [hnx, if_pos (hld.2 (by omega))]
               refine XAgainG.go (w + 1) [.cells (wyA (s.ways.getD w default)).cells] (by omega) (by omega) ?_ ⟨rfl, rfl, rfl, rfl, rfl, rfl, rfl, rfl, rfl, rfl, rfl, rfl, rfl, trivial⟩
               show [Blk.map (esW s p (rowW s p q (w + 1))), _, rwB (rowW s p q (w + 1)), _] = _
               rw [hx, ← esW_put, rwB_app, ← hsR]; rfl)
            | (have hx : rowW s p q (w + 1) = R := by rw [hnx, if_neg (fun h => by have := hld.1 h; omega)]
               refine XAgainG.go (w + 1) [.cells (wyA (s.ways.getD w default)).cells] (by omega) (by omega) ?_ ⟨rfl, rfl, rfl, rfl, rfl, rfl, rfl, rfl, rfl, rfl, rfl, rfl, rfl, trivial⟩
               show [Blk.map (esW s p (rowW s p q (w + 1))), _, rwB (rowW s p q (w + 1)), _] = _
               rw [hx]; rfl)
        obtain rfl : w = s.ways.length := by omega
        rw [rowW_end]
        repeat' ((with_reducible first | refine XBr.y fun h => ?_ | refine XBr.n fun h => ?_ | refine XBr.dec (fun h => ?_) fun h => ?_ | refine XInt.a ?_) <;> conv => whnf)
        exact XAgainG.go (q + 1) [] (by omega) (by omega) rfl ⟨rfl, rfl, rfl, rfl, rfl, rfl, rfl, rfl, rfl, trivial⟩
    obtain rfl : q = P0 := by omega
    have hq : waysK s p q = waysL s p := by unfold waysL; rw [hP0]; rfl
    repeat' ((with_reducible first | refine XBr.y fun h => ?_ | refine XBr.n fun h => ?_ | refine XBr.dec (fun h => ?_) fun h => ?_) <;> conv => whnf)
    refine XDo.freezeMap 0 2 (waysK s p q).length (esF s (p + 1)) rfl rfl (sgs_len _) (esW_frz hq (waysL_ne (by omega))) ?_
    refine XDo.run ?_
    conv => whnf
    repeat' ((with_reducible refine XInt.a ?_); conv => whnf)
    exact XAgainG.go (p + 1) [.dead] (by omega) (by omega) rfl ⟨rfl, rfl, rfl, rfl, rfl, rfl, trivial⟩
  obtain rfl : p = P0 := by omega
  have hp' : p = s.places.toNat := by omega
  repeat' ((with_reducible first | refine XBr.y fun h => ?_ | refine XBr.n fun h => ?_ | refine XBr.dec (fun h => ?_) fun h => ?_) <;> conv => whnf)
  subst hp' hF
  exact ⟨Froz.tup (.cons (Froz.ptr rfl (dskFOne s) (FrozL.app (.low (snCL s)) (FrozL.app (.low (nvs_low _ _)) (.cons (Froz.mp rfl (.low (esF_low s _))) .nil)))) (.cons (.low rfl) .nil))⟩
end GA
end

section
namespace GA
open Go Go.RowKit Go.Proofs
set_option pp.deepTerms true
set_option maxRecDepth 8000
set_option linter.unusedVariables false
set_option linter.unusedSimpArgs false

theorem dryC_at (s : Sn) (e : List AV) {p m : Nat} (hp : p < 5) (hm : m < 61) : (dryC s ++ e)[61 * p + m]? = some (natA (drN s p m)) := by
  have hl : (dryC s).length = 305 := nvs_len _ _
  rw [List.getElem?_append_left (by omega), ← dryG_end s hm]
  exact vec_at (show 61 * p + m < 305 by omega)
theorem XArr.dryP {s : Sn} {e : List AV} {p : Int} {k : AV → Prop} (q : Nat) (hq : p = q) (h1 : q < 5) (h : k (.pim ((dryC s ++ e).drop (61 * q)))) : XArr (.pim (dryC s ++ e)) p 5 61 k := by
  subst hq
  refine XArr.pim (by omega) (by omega) ?_
  rwa [show (q : Int).toNat * 61 = 61 * q by omega]
theorem XArr.dryM {s : Sn} {e : List AV} {m : Int} {k : AV → Prop} {p : Nat} (q : Nat) (hq : m = q) (h1 : q < 61) (h2 : p < 5) (h : k (.pim (natA (drN s p q) :: ((dryC s ++ e).drop (61 * p)).drop (q * 1 + 1)))) : XArr (.pim ((dryC s ++ e).drop (61 * p))) m 61 1 k := by
  subst hq
  refine XArr.at _ (by omega) (by omega) ?_ h
  rw [List.getElem?_drop, show 61 * p + (q : Int).toNat * 1 = 61 * p + q by omega]
  exact dryC_at s e h2 h1
theorem drN_lt {s : Sn} (ok : SnOk s) (p m : Nat) : drN s p m < 16 := by
  have h : drN s p m < 2 ^ s.truths.length := bsum_lt _ _
  have h2 : 2 ^ s.truths.length ≤ 2 ^ 4 := Nat.pow_le_pow_right (by omega) ok.t2
  omega
theorem safe_c (s : Sn) (ok : SnOk s) (x : Sta) (h1 : x.p < 5) (h2 : x.m < 61) (h3 : x.l ≤ 1000) : Comp Tryz.prog 115 [dskFA s, staA x] (.bool (safeB s x)) := by
  have hd := drN_lt ok x.p x.m
  have hn : iandn .i64 (x.l : Int) (drN s x.p x.m : Int) = ((diff x.l (drN s x.p x.m) : Nat) : Int) := iandn_nat (by omega) (by omega)
  have hdef : safeB s x = (diff x.l (drN s x.p x.m) == 0 && x.l != 0) := rfl
  by_cases hv : iandn .i64 (x.l : Int) (drN s x.p x.m : Int) = 0
  · have hb : safeB s x = (x.l != 0) := by rw [hdef, show diff x.l (drN s x.p x.m) = 0 by omega]; simp
    rw [hb]
    refine Comp.body (T := tab) (res := [.tmp 4]) tab_ok [] Tryz.func115 rfl (by kernel_rfl) Tryz.ntmps115 rfl (by simp only [List.length_cons, List.length_nil]; decide) (by simp only [lowL, dskFL, staL]; rfl) ?_; conv => whnf
    repeat' first | ((with_reducible first | refine XBr.y1 fun h => ?_ | refine XBr.n1 fun h => ?_ | refine XBr.beq (fun h => ?_) fun h => ?_ | apply Chk.go | apply ChkA.go | apply ChkF.go | apply ChkB.go | apply XNext.mk) <;> conv => whnf) | (with_reducible first | apply XAnd.mk | exact trivial) | (exact XSame.mk rfl rfl) | (apply Walk.drawN (id := 1) tab_ok mixed_ok [] [] (hsU _) [_, _, _, _, _, _, _, _, _, _, _, _, _, _, _, _, _, _, _, _] (by kernel_rfl) rfl) | ((first | refine XArr.dryP x.p rfl h1 ?_ | refine XArr.dryM x.m rfl h2 h1 ?_); conv => whnf) | fail
    refine XOut.bool ?_
    rw [Bool.eq_iff_iff]; simp
  · have hb : safeB s x = false := by rw [hdef, beq_eq_false_iff_ne.2 (by omega)]; rfl
    rw [hb]
    refine Comp.body (T := tab) (res := [.tmp 4]) tab_ok [] Tryz.func115 rfl (by kernel_rfl) Tryz.ntmps115 rfl (by simp only [List.length_cons, List.length_nil]; decide) (by simp only [lowL, dskFL, staL]; rfl) ?_; conv => whnf
    repeat' first | ((with_reducible first | refine XBr.y1 fun h => ?_ | refine XBr.n1 fun h => ?_ | refine XBr.beq (fun h => ?_) fun h => ?_ | apply Chk.go | apply ChkA.go | apply ChkF.go | apply ChkB.go | apply XNext.mk) <;> conv => whnf) | (with_reducible first | apply XAnd.mk | exact trivial) | (exact XSame.mk rfl rfl) | (apply Walk.drawN (id := 1) tab_ok mixed_ok [] [] (hsU _) [_, _, _, _, _, _, _, _, _, _, _, _, _, _, _, _, _, _, _, _] (by kernel_rfl) rfl) | ((first | refine XArr.dryP x.p rfl h1 ?_ | refine XArr.dryM x.m rfl h2 h1 ?_); conv => whnf) | fail
    exact XOut.bool rfl
theorem fminute_c (s : Sn) (m : Int) : Comp Tryz.prog 135 [dskFA s, .int .i64 m] (.bool (inZ m 0 s.last)) := by
  refine Comp.body (T := tab) (res := [.tmp 4]) tab_ok [] Tryz.func135 rfl (by kernel_rfl) Tryz.ntmps135 rfl (by simp only [List.length_cons, List.length_nil]; decide) (by simp only [lowL, dskFL]; rfl) ?_; conv => whnf
  repeat' ((refine XCall.ret (fdIn_c _ _ _) ?_); conv => whnf)
  exact XOut.bool rfl
theorem fall_c (s : Sn) (ok : SnOk s) : Comp Tryz.prog 88 [dskFA s] (natA (allN s)) := by
  have t2 := ok.t2
  refine Comp.body (T := tab) (res := [.tmp 2]) tab_ok [] Tryz.func88 rfl (by kernel_rfl) Tryz.ntmps88 rfl (by simp only [List.length_cons, List.length_nil]; decide) (by simp only [lowL, dskFL]; rfl) ?_; conv => whnf
  have hp : 0 < 2 ^ s.truths.length := Nat.two_pow_pos _
  have hq : 2 ^ s.truths.length ≤ 2 ^ 4 := Nat.pow_le_pow_right (by omega) t2
  have hr : allN s = 2 ^ s.truths.length - 1 := rfl
  generalize hw : 2 ^ s.truths.length = q at hp hq hr
  repeat' first | ((with_reducible refine XInt.a ?_); conv => whnf) | (refine XHold.a ?_; conv => whnf) | (((rw [List.length_map]; refine XInt.shl (by omega) ?_); rw [hw]); conv => whnf) | fail
  exact XOut.int (by omega)
theorem fset_c (s : Sn) (ok : SnOk s) (n : Int) : Comp Tryz.prog 51 [dskFA s, .int .i64 n] (.bool (inZ n 1 (allN s))) := by
  refine Comp.body (T := tab) (res := [.tmp 4]) tab_ok [] Tryz.func51 rfl (by kernel_rfl) Tryz.ntmps51 rfl (by simp only [List.length_cons, List.length_nil]; decide) (by simp only [lowL, dskFL]; rfl) ?_; conv => whnf
  repeat' ((first | refine XCall.ret (fall_c s ok) ?_ | refine XCall.ret (fdIn_c _ _ _) ?_); conv => whnf)
  exact XOut.bool rfl
def nsA (l : List Nat) : AV := .sl l.isEmpty (l.map natA)
theorem nsL {n : Nat} (l : List Nat) : lowL n (l.map natA) = true := lowL_map (fun _ => rfl) l
def partI (s : Sn) (p left n i : Nat) : Nat := bsum (fun t => lookZ s t p == n && left.testBit t) i
theorem partI_lt (s : Sn) (p left n i : Nat) : partI s p left n i < 2 ^ i := bsum_lt _ _
theorem partI_hit {s : Sn} {p left n i : Nat} (h : lookZ s i p = n) : partI s p left n i ||| (2 ^ i &&& left) = partI s p left n (i + 1) := by
  refine bit_ext fun k => ?_
  unfold partI
  rw [Nat.testBit_or, Nat.testBit_and, bsum_bit, bsum_bit, Nat.testBit_two_pow]
  by_cases he : i = k
  · subst he; rw [h]; simp
  · simp [he, show k < i + 1 ↔ k < i by omega]
theorem partI_miss {s : Sn} {p left n i : Nat} (h : lookZ s i p ≠ n) : partI s p left n i = partI s p left n (i + 1) := by
  unfold partI
  rw [bsum, if_neg (by simp [h])]; rfl
theorem fparts_c (s : Sn) (ok : SnOk s) (p left : Nat) (hp : (p : Int) < s.places) (hl : left ≤ 1000) : Comp Tryz.prog 138 [dskFA s, natA p, natA left] (nsA (partsL s p left)) := by
  have p2 := ok.p2; have k1 := ok.k1; have t2 := ok.t2
  have e1 : ((s.looks.map rwA).length : Int) = s.looks.length := by rw [List.length_map]
  refine Comp.body (T := tab) (res := [.tmp 6]) tab_ok [] Tryz.func138 rfl (by kernel_rfl) Tryz.ntmps138 rfl (by simp only [List.length_cons, List.length_nil]; decide) (by simp only [lowL, AV.low, dskFL]; rfl) ?_; conv => whnf
  skip
  refine Walk.nilgr 7 3 rfl ?_
  refine Walk.loopGK tab_ok [] [(0, _), (1, _), (2, _), (6, _)] ⟨rfl, rfl, rfl, rfl, trivial⟩ (fun n : Nat => n ≤ 4) (fun n => [(7, .gr 0 (partsK s p left n).length), (12, natA n)]) (fun n => [.grow 3 (partsK s p left n).isEmpty ((partsK s p left n).map natA)]) (fun n => 4 - n) 0 (by omega) rfl ⟨rfl, rfl, trivial⟩ ?_ (fun _ _ => (show (1 : Nat) ≤ 1 from Nat.le_refl 1)) ?_
  · intro n _
    refine ⟨fun z hz => ?_, fun z hz => ?_⟩
    · rw [List.mem_singleton] at hz; subst hz; exact nsL _
    · simp only [List.cons_append, List.nil_append, List.mem_cons, List.not_mem_nil, or_false] at hz
      rcases hz with rfl | rfl | rfl | rfl | rfl | rfl <;> first | rfl | exact dskFL s
  intro n hn
  have hlen : (partsK s p left n).length ≤ n := by
    clear hn
    induction n with
    | zero => exact Nat.le_refl _
    | succ n ih => rw [partsK, List.length_append]; split <;> simp only [List.length_cons, List.length_nil] <;> omega
  have hnx : partsK s p left (n + 1) = partsK s p left n ++ if partN s p left n = 0 then [] else [partN s p left n] := rfl
  have hend : n = 4 → partsK s p left n = partsL s p left := fun h => by rw [h]; rfl
  generalize partsK s p left n = R at hlen hnx hend
  have hRl : (R.map natA).length = R.length := List.length_map _
  conv => whnf
  by_cases hlt : n < 4
  · skip
    repeat' ((with_reducible first | refine XBr.y fun h => ?_ | refine XBr.n fun h => ?_ | refine XBr.dec (fun h => ?_) fun h => ?_) <;> conv => whnf)
    refine Walk.loopK tab_ok [] [(0, _), (1, _), (2, _), (6, _), (7, _), (8, _), (12, _), (19, _), (20, _)] ⟨rfl, rfl, rfl, rfl, rfl, rfl, rfl, rfl, rfl, trivial⟩ (fun i : Nat => i ≤ s.looks.length) (fun i => [(9, natA (partI s p left n i)), (21, natA i)]) (fun _ => [.grow 3 R.isEmpty (R.map natA)]) (fun i => s.looks.length - i) 0 (Nat.zero_le _) rfl ⟨rfl, rfl, trivial⟩ ?_
    intro i hi
    conv => whnf
    by_cases hlt2 : i < s.looks.length
    · have hll := ok.kl _ (getD_mem (d := default) hlt2)
      have hlk : lookZ s i p = (s.looks.getD i default).2.getD p default := rfl
      have b1 := partI_lt s p left n i
      have b2 : 2 ^ i ≤ 2 ^ 4 := Nat.pow_le_pow_right (by omega) (by omega)
      have b3 : 2 ^ i &&& left ≤ left := Nat.and_le_right
      have a1 : iand .i64 ((2 ^ i : Nat) : Int) (left : Int) = ((2 ^ i &&& left : Nat) : Int) := iand_nat (by omega) (by omega)
      have a2 : ior .i64 (partI s p left n i : Int) ((2 ^ i &&& left : Nat) : Int) = ((partI s p left n i ||| (2 ^ i &&& left) : Nat) : Int) := ior_nat (by omega) (by omega)
      repeat' first | ((with_reducible first | refine XBr.y fun h => ?_ | refine XBr.n fun h => ?_ | refine XBr.dec (fun h => ?_) fun h => ?_ | refine XBr.y1 fun h => ?_ | refine XBr.n1 fun h => ?_ | refine XBr.beq (fun h => ?_) fun h => ?_ | refine XInt.a ?_) <;> conv => whnf) | ((first | refine XHold.a ?_ | refine XIx.a ?_ | refine XInt.shl (by omega) ?_); conv => whnf) | fail
      · exact XAgain.go (i + 1) (by omega) (by omega) rfl ⟨rfl, rfl, rfl, rfl, rfl, rfl, rfl, rfl, rfl, (by show some (AV.int .i64 (ior .i64 _ (iand .i64 _ _))) = _; rw [a1, a2, partI_hit (by assumption)]; rfl), rfl, trivial⟩
      · exact XAgain.go (i + 1) (by omega) (by omega) rfl ⟨rfl, rfl, rfl, rfl, rfl, rfl, rfl, rfl, rfl, (by show some (natA (partI s p left n i)) = _; rw [partI_miss (by assumption)]), rfl, trivial⟩
    obtain rfl : i = s.looks.length := by omega
    have hpN : partI s p left n s.looks.length = partN s p left n := rfl
    rw [hpN]
    generalize partN s p left n = v at hnx
    repeat' first | ((with_reducible first | refine XBr.y fun h => ?_ | refine XBr.n fun h => ?_ | refine XBr.dec (fun h => ?_) fun h => ?_ | refine XBr.y2 fun h => ?_ | refine XBr.n2 fun h => ?_ | refine XBr.bne (fun h => ?_) fun h => ?_ | refine XInt.a ?_) <;> conv => whnf) | (refine XHold.a ?_; conv => whnf) | fail
    · have hx : partsK s p left (n + 1) = R ++ [v] := by rw [hnx, if_neg (by omega)]
      refine XAgainG.go (n + 1) [] (by omega) (by omega) ?_ ⟨rfl, rfl, rfl, rfl, (by show some (AV.gr 0 (R.length + 1)) = _; rw [hx, List.length_append]; rfl), rfl, trivial⟩
      show [Blk.grow _ (partsK s p left (n + 1)).isEmpty ((partsK s p left (n + 1)).map natA)] ++ [] = _
      rw [hx, isEmpty_app, List.map_append]; rfl
    · have hx : partsK s p left (n + 1) = R := by rw [hnx, if_pos (by omega), List.append_nil]
      refine XAgainG.go (n + 1) [] (by omega) (by omega) ?_ ⟨rfl, rfl, rfl, rfl, (by rw [hx]; rfl), rfl, trivial⟩
      show [Blk.grow _ (partsK s p left (n + 1)).isEmpty ((partsK s p left (n + 1)).map natA)] ++ [] = _
      rw [hx]; rfl
  obtain rfl : n = 4 := by omega
  rw [← hend rfl]
  repeat' ((with_reducible first | refine XBr.y fun h => ?_ | refine XBr.n fun h => ?_ | refine XBr.dec (fun h => ?_) fun h => ?_) <;> conv => whnf)
  exact ⟨Froz.grow rfl hRl (nsL _)⟩
end GA
end

section
namespace GA
open Go Go.RowKit Go.Proofs
set_option pp.deepTerms true
set_option maxRecDepth 8000
set_option linter.unusedVariables false
set_option linter.unusedSimpArgs false

def stsA (l : List Sta) : AV := .sl l.isEmpty (l.map staA)
structure StOk (s : Sn) (x : Sta) : Prop where
  p : (x.p : Int) < s.places
  m : (x.m : Int) ≤ s.last
  l : x.l ≤ 1000
theorem after1_c (y t : Int × Int) : Comp Tryz.prog 137 [sgA y, .pim [.int .i64 t.1, .int .i64 t.2]] (.bool (y == t)) := by
  have hb : (y == t) = (y.1 == t.1 && y.2 == t.2) := rfl
  refine Comp.body (T := tab) (res := [.tmp 3]) tab_ok [] Tryz.func137 rfl (by kernel_rfl) Tryz.ntmps137 rfl (by simp only [List.length_cons, List.length_nil]; decide) (by rfl) ?_; conv => whnf
  repeat' ((refine XEqA.mk ⟨[y.1, y.2], [t.1, t.2], rfl, rfl, rfl, rfl, ?_⟩); conv => whnf)
  refine XOut.bool ?_
  rw [hb, Bool.eq_iff_iff]
  simp
theorem zip_fs : ∀ l : List (Int × AV), (l.map (·.1)).zip (l.map (·.2)) = l
  | [] => rfl
  | (a, b) :: l => by rw [List.map_cons, List.map_cons, List.zip_cons_cons, zip_fs l]
theorem partN_le {s : Sn} (ok : SnOk s) (p left n : Nat) : partN s p left n < 16 := by
  have h : partN s p left n < 2 ^ s.looks.length := bsum_lt _ _
  have h2 : 2 ^ s.looks.length ≤ 2 ^ 4 := Nat.pow_le_pow_right (by omega) (by have := ok.k1; have := ok.t2; omega)
  omega
theorem partsL_le {s : Sn} (ok : SnOk s) {p left l : Nat} (h : l ∈ partsL s p left) : l < 16 := by
  obtain ⟨n, -, e, -⟩ := partsL_mem.1 h
  rw [e]; exact partN_le ok _ _ _
theorem ways_any (l : List (Int × Int)) (t : Int × Int) : l.any (fun y => y == t) = l.contains t := by
  rw [Bool.eq_iff_iff, List.any_eq_true, List.contains_iff_mem]
  constructor
  · rintro ⟨y, hy, e⟩; rw [beq_iff_eq] at e; subst e; exact hy
  · intro h; exact ⟨t, h, by simp⟩
theorem afterS_nil {s : Sn} {x : Sta} {t : Int × Int} (h : safeB s x = false ∨ inZ (x.m + t.2) 0 s.last = false ∨ (waysL s x.p).contains t = false) : afterS s x t = [] := by
  unfold afterS
  rw [if_neg]
  rintro ⟨h1, h2, h3, -⟩
  rcases h with h | h | h
  · rw [h] at h1; cases h1
  · rw [h] at h2; cases h2
  · rw [h] at h3; cases h3
theorem wrap_le {z : Int} (h1 : -9223372036854775808 ≤ z) (h2 : z ≤ 9223372036854775807) : IntKind.i64.wrap z = z := by
  simp only [IntKind.wrap, IntKind.bits, IntKind.signed]; simp; omega
theorem wrap_gt {z : Int} (h1 : 9223372036854775807 < z) (h2 : z ≤ 9223372036854775807 + 100) : IntKind.i64.wrap z < 0 := by
  simp only [IntKind.wrap, IntKind.bits, IntKind.signed]; simp; omega
theorem inZ_wrap {z last : Int} (h1 : -9223372036854775808 ≤ z) (h2 : z ≤ 9223372036854775807 + 100) (h3 : last ≤ 60) : inZ (IntKind.i64.wrap z) 0 last = inZ z 0 last := by
  by_cases h : z ≤ 9223372036854775807
  · rw [wrap_le h1 h]
  · have := wrap_gt (by omega) h2
    rw [Bool.eq_iff_iff, inZ_iff, inZ_iff]
    omega
theorem XDrop.dskF {s : Sn} {k : List AV → Prop} (h : k [.im (keyF s) ((esF s s.places.toNat).map (·.2))]) : XDrop 312 (dskFC s) k := by
  have l : (snC s ++ dryC s).length = 312 := by rw [List.length_append, show (dryC s).length = 305 from nvs_len _ _]; rfl
  have e : dskFC s = (snC s ++ dryC s) ++ [.im (keyF s) ((esF s s.places.toNat).map (·.2))] := by unfold dskFC; rw [List.append_assoc]
  refine ⟨by rw [e, List.length_append, l]; omega, ?_⟩
  rw [e, List.drop_left' l]; exact h
theorem fafter_c (s : Sn) (ok : SnOk s) (x : Sta) (hx : StOk s x) (t : Int × Int) (ht1 : -9223372036854775808 ≤ t.2) (ht2 : t.2 ≤ 9223372036854775807) : Comp Tryz.prog 130 [dskFA s, staA x, sgA t] (stsA (afterS s x t)) := by
  have p1 := ok.p1; have p2 := ok.p2; have l1 := ok.l1; have l2 := ok.l2; have w1 := ok.w1
  have x1 := hx.p; have x2 := hx.m; have x3 := hx.l
  have hsf := safe_c s ok x (by omega) (by omega) (by omega)
  have hmn := fminute_c s (IntKind.i64.wrap (x.m + t.2))
  rw [inZ_wrap (by omega) (by omega) (by omega)] at hmn
  have hdl : (dryC s).length = 305 := nvs_len _ _
  have hct := contf_sg false (waysL s x.p) 137 [.pim [.int .i64 t.1, .int .i64 t.2]] (fun y => y == t) rfl (by
    have h := waysK_len s x.p s.places.toNat
    have h2 : s.places.toNat * (1 + s.ways.length) ≤ 5 * 11 := Nat.mul_le_mul (by omega) (by omega)
    show (waysK s x.p s.places.toNat).length ≤ 100000
    omega) fun y _ => after1_c y t
  rw [ways_any] at hct
  have hmg : mget (x.p : Int) ((keyF s).zip ((esF s s.places.toNat).map (·.2))) = some (.sl false (sgs (waysL s x.p))) := by
    unfold keyF; rw [zip_fs]; exact esF_get s _ _ (by omega)
  cases h1 : safeB s x with
  | false =>
    rw [afterS_nil (.inl h1)]
    rw [h1] at hsf
    refine Comp.body (T := tab) (res := [.tmp 6]) tab_ok [] Tryz.func130 rfl (by kernel_rfl) Tryz.ntmps130 rfl (by simp only [List.length_cons, List.length_nil]; decide) (by simp only [lowL, AV.low, dskFL, staL]; rfl) ?_; conv => whnf
    refine ⟨?_⟩
    conv => whnf
    repeat' first | ((with_reducible first | apply XBr.tt | apply XBr.ff | apply Chk.go | apply ChkA.go | apply ChkF.go | apply ChkB.go | apply XNext.mk); conv => whnf) | (with_reducible first | apply XBr.not | apply XAnd.mk | exact trivial) | (exact XSame.mk rfl rfl) | (apply Walk.drawN (id := 2) tab_ok mixed_ok [] [] (hsU _) [_, _, _, _, _, _, _, _, _, _, _, _, _, _, _, _, _, _, _, _, _, _] (by kernel_rfl) rfl) | ((refine XCall.ret hsf ?_); conv => whnf) | fail
    exact ⟨.low rfl⟩
  | true =>
    rw [h1] at hsf
    cases h2 : inZ (x.m + t.2) 0 s.last with
    | false =>
      rw [afterS_nil (.inr (.inl h2))]
      rw [h2] at hmn
      refine Comp.body (T := tab) (res := [.tmp 6]) tab_ok [] Tryz.func130 rfl (by kernel_rfl) Tryz.ntmps130 rfl (by simp only [List.length_cons, List.length_nil]; decide) (by simp only [lowL, AV.low, dskFL, staL]; rfl) ?_; conv => whnf
      refine ⟨?_⟩
      conv => whnf
      repeat' first | ((with_reducible first | apply XBr.tt | apply XBr.ff | apply Chk.go | apply ChkA.go | apply ChkF.go | apply ChkB.go | apply XNext.mk); conv => whnf) | (with_reducible first | apply XBr.not | apply XAnd.mk | exact trivial) | (exact XSame.mk rfl rfl) | (apply Walk.drawN (id := 2) tab_ok mixed_ok [] [] (hsU _) [_, _, _, _, _, _, _, _, _, _, _, _, _, _, _, _, _, _, _, _, _, _] (by kernel_rfl) rfl) | ((first | refine XCall.ret hsf ?_ | refine XCall.ret hmn ?_); conv => whnf) | fail
      exact ⟨.low rfl⟩
    | true =>
      rw [h2] at hmn
      cases h3 : (waysL s x.p).contains t with
      | false =>
        rw [afterS_nil (.inr (.inr h3))]
        rw [h3] at hct
        refine Comp.body (T := tab) (res := [.tmp 6]) tab_ok [] Tryz.func130 rfl (by kernel_rfl) Tryz.ntmps130 rfl (by simp only [List.length_cons, List.length_nil]; decide) (by simp only [lowL, AV.low, dskFL, staL]; rfl) ?_; conv => whnf
        refine ⟨?_⟩
        conv => whnf
        repeat' first | ((with_reducible first | apply XBr.tt | apply XBr.ff | apply Chk.go | apply ChkA.go | apply ChkF.go | apply ChkB.go | apply XNext.mk); conv => whnf) | (with_reducible first | apply XBr.not | apply XAnd.mk | exact trivial) | (exact XSame.mk rfl rfl) | (apply Walk.drawN (id := 2) tab_ok mixed_ok [] [] (hsU _) [_, _, _, _, _, _, _, _, _, _, _, _, _, _, _, _, _, _, _, _, _, _] (by kernel_rfl) rfl) | ((first | refine XCall.ret hsf ?_ | refine XCall.ret hmn ?_ | refine XDrop.dskF ?_ | refine XGetM.mk' hmg ?_ | refine XCall.ret hct ?_); conv => whnf) | fail
        exact ⟨.low rfl⟩
      | true =>
        rw [h3] at hct
        have hw := List.contains_iff_mem.1 h3
        obtain ⟨w1', w2', w3', w4'⟩ := waysL_pos ok hw
        obtain ⟨⟨q0, t2⟩, rfl⟩ : ∃ u : Int × Int, t = u := ⟨t, rfl⟩
        obtain ⟨q, rfl⟩ : ∃ q : Nat, q0 = q := ⟨q0.toNat, by dsimp only at w3'; omega⟩
        dsimp only at w1' w2' w3' w4' h2 h3 hct hmn ht1 ht2 ⊢
        obtain ⟨m', hm'⟩ : ∃ m' : Nat, (x.m : Int) + t2 = m' := ⟨((x.m : Int) + t2).toNat, by omega⟩
        have h2' := inZ_iff.1 h2
        have hout : outS s x ((q : Int), t2) = (partsL s q x.l).map fun l => (⟨q, m', l⟩ : Sta) := by
          unfold outS
          dsimp only
          rw [Int.toNat_natCast, show ((x.m : Int) + t2).toNat = m' by omega]
        have haf : afterS s x ((q : Int), t2) = if ((partsL s q x.l).map fun l => (⟨q, m', l⟩ : Sta)).all (safeB s) = true then (partsL s q x.l).map (fun l => (⟨q, m', l⟩ : Sta)) else [] := by
          unfold afterS
          rw [hout]
          by_cases ha : ((partsL s q x.l).map fun l => (⟨q, m', l⟩ : Sta)).all (safeB s) = true
          · rw [if_pos ⟨h1, h2, h3, ha⟩, if_pos ha]
          · rw [if_neg (fun h => ha h.2.2.2), if_neg ha]
        have hpt := fparts_c s ok q x.l (by omega) x3
        have hpl := fun l (h : l ∈ partsL s q x.l) => partsL_le ok h
        have hpn : (partsL s q x.l).length ≤ 4 := by
          unfold partsL
          have : ∀ k, (partsK s q x.l k).length ≤ k := fun k => by
            induction k with
            | zero => exact Nat.le_refl _
            | succ n ih => rw [partsK, List.length_append]; split <;> simp only [List.length_cons, List.length_nil] <;> omega
          exact this 4
        rw [haf]
        generalize partsL s q x.l = L at hpt hpl hpn
        have hev := everyb_sta ((L.map fun l => (⟨q, m', l⟩ : Sta)).isEmpty) (L.map fun l => (⟨q, m', l⟩ : Sta)) 115 [dskFA s] (safeB s) (by show ((dskFA s).low 0 && true) = true; rw [dskFL]; rfl) (by rw [List.length_map]; omega) (fun y hy => by
          obtain ⟨l, hl, rfl⟩ := List.mem_map.1 hy
          exact safe_c s ok _ (by show q < 5; omega) (by show m' < 61; omega) (by have := hpl l hl; show l ≤ 1000; omega))
        have e1 : ((L.map natA).length : Int) = L.length := by rw [List.length_map]
        have hmn2 := fminute_c s (m' : Int)
        have hin : inZ (m' : Int) 0 s.last = true := by rw [← hm']; exact h2
        rw [hin] at hmn2
        refine Comp.body (T := tab) (res := [.tmp 6]) tab_ok [] Tryz.func130 rfl (by kernel_rfl) Tryz.ntmps130 rfl (by simp only [List.length_cons, List.length_nil]; decide) (by simp only [lowL, AV.low, dskFL, staL]; rfl) ?_; conv => whnf
        rw [hm']
        repeat' first | ((with_reducible first | apply XBr.tt | refine XInt.a ?_ | apply Chk.go | apply ChkA.go | apply ChkF.go | apply ChkB.go | apply XNext.mk); conv => whnf) | (with_reducible first | apply XBr.not | apply XAnd.mk | exact trivial) | (exact XSame.mk rfl rfl) | (apply Walk.drawN (id := 2) tab_ok mixed_ok [] [] (hsU _) [_, _, _, _, _, _, _, _, _, _, _, _, _, _, _, _, _, _, _, _, _, _] (by kernel_rfl) rfl) | ((first | refine XCall.ret hsf ?_ | refine XCall.ret hmn2 ?_ | refine XDrop.dskF ?_ | refine XGetM.mk' hmg ?_ | refine XCall.ret hct ?_ | refine XCall.ret hpt ?_); conv => whnf) | fail
        refine Walk.nilgr 8 112 rfl ?_
        refine Walk.loopGK tab_ok [] [(0, _), (5, _), (6, _), (7, _), (44, _), (45, _)] ⟨rfl, rfl, rfl, rfl, rfl, rfl, trivial⟩ (fun k : Nat => k ≤ L.length) (fun k => [(8, .gr 0 k), (46, natA k)]) (fun k => [.grow 112 ((L.take k).map fun l => (⟨q, m', l⟩ : Sta)).isEmpty (((L.take k).map fun l => (⟨q, m', l⟩ : Sta)).map staA)]) (fun k => L.length - k) 0 (Nat.zero_le _) rfl ⟨rfl, rfl, trivial⟩ ?_ (fun _ _ => (show (1 : Nat) ≤ 1 from Nat.le_refl 1)) ?_
        · intro k _
          refine ⟨fun z hz => ?_, fun z hz => ?_⟩
          · rw [List.mem_singleton] at hz; subst hz; exact lowSta _
          · simp only [List.cons_append, List.nil_append, List.mem_cons, List.not_mem_nil, or_false] at hz
            rcases hz with rfl | rfl | rfl | rfl | rfl | rfl | rfl | rfl <;> first | rfl | exact dskFL s | exact nsL _
        intro k hk
        have hnx : k < L.length → (L.take (k + 1)).map (fun l => (⟨q, m', l⟩ : Sta)) = (L.take k).map (fun l => (⟨q, m', l⟩ : Sta)) ++ [⟨q, m', L.getD k default⟩] := fun h => by rw [take_next h, List.map_append]; rfl
        have hall : k = L.length → (L.take k).map (fun l => (⟨q, m', l⟩ : Sta)) = L.map fun l => (⟨q, m', l⟩ : Sta) := fun h => by rw [h, List.take_length]
        have hkl : ((L.take k).map fun l => (⟨q, m', l⟩ : Sta)).length = k := by rw [List.length_map, List.length_take]; omega
        generalize (L.take k).map (fun l => (⟨q, m', l⟩ : Sta)) = R at hnx hall hkl
        have hsl : (R.map staA).length = k := by rw [List.length_map]; exact hkl
        conv => whnf
        by_cases hlt : k < L.length
        · skip
          repeat' first | ((with_reducible first | refine XBr.y fun h => ?_ | refine XBr.n fun h => ?_ | refine XBr.dec (fun h => ?_) fun h => ?_ | refine XInt.a ?_) <;> conv => whnf) | ((first | refine XHold.a ?_ | refine XIx.a ?_); conv => whnf) | fail
          refine XAgainG.go (k + 1) [] (by omega) (by omega) ?_ ⟨rfl, rfl, rfl, rfl, rfl, rfl, rfl, rfl, trivial⟩
          show [Blk.grow _ ((L.take (k + 1)).map fun l => (⟨q, m', l⟩ : Sta)).isEmpty (((L.take (k + 1)).map fun l => (⟨q, m', l⟩ : Sta)).map staA)] ++ [] = _
          rw [hnx hlt, isEmpty_app, List.map_append]; rfl
        obtain rfl : k = L.length := by omega
        have hR := hall rfl
        rw [← hR] at hev ⊢
        generalize hb : R.all (safeB s) = b at hev
        repeat' first | ((with_reducible first | refine XBr.y fun h => ?_ | refine XBr.n fun h => ?_ | refine XBr.dec (fun h => ?_) fun h => ?_) <;> conv => whnf) | with_reducible apply XBr.not | ((refine XCall.lend hev (.cons (Froz.grow rfl hsl (lowSta _)) (.cons (Froz.low (by show ((dskFA s).low 0 && true) = true; rw [dskFL]; rfl)) .nil)) rfl ?_); conv => whnf) | ((with_reducible refine XBr.mk' (fun h => ?_) fun h => ?_) <;> conv => whnf) | fail
        · rw [if_pos (by assumption)]
          exact ⟨Froz.grow rfl hsl (lowSta _)⟩
        · rw [if_neg (by simp_all)]
          exact ⟨.low rfl⟩
end GA
end

section
namespace GA
open Go Go.RowKit Go.Proofs
set_option pp.deepTerms true
set_option maxRecDepth 8000
set_option linter.unusedVariables false
set_option linter.unusedSimpArgs false

def stC (x : Sta) : List AV := [natA x.p, natA x.m, natA x.l]
theorem fhome_c (s : Sn) (x : Sta) : Comp Tryz.prog 116 [dskFA s, staA x] (.int .i64 (homeZ s x)) := by
  have hd : homeZ s x = if (x.p : Int) = s.home then 0 else -1 := rfl
  by_cases h : (x.p : Int) = s.home
  · rw [hd, if_pos h]
    refine Comp.body (T := tab) (res := [.tmp 4]) tab_ok [] Tryz.func116 rfl (by kernel_rfl) Tryz.ntmps116 rfl (by simp only [List.length_cons, List.length_nil]; decide) (by simp only [lowL, dskFL, staL]; rfl) ?_; conv => whnf
    repeat' first | ((with_reducible first | refine XBr.y1 fun h => ?_ | refine XBr.n1 fun h => ?_ | refine XBr.beq (fun h => ?_) fun h => ?_ | apply Chk.go | apply ChkA.go | apply ChkF.go | apply ChkB.go | apply XNext.mk) <;> conv => whnf) | (with_reducible first | apply XAnd.mk | exact trivial) | (exact XSame.mk rfl rfl) | (apply Walk.drawN (id := 1) tab_ok mixed_ok [] [] (hsU _) [_, _, _, _, _, _, _, _] (by kernel_rfl) rfl) | fail
    exact ⟨.low rfl⟩
  · rw [hd, if_neg h]
    refine Comp.body (T := tab) (res := [.tmp 4]) tab_ok [] Tryz.func116 rfl (by kernel_rfl) Tryz.ntmps116 rfl (by simp only [List.length_cons, List.length_nil]; decide) (by simp only [lowL, dskFL, staL]; rfl) ?_; conv => whnf
    repeat' first | ((with_reducible first | refine XBr.y1 fun h => ?_ | refine XBr.n1 fun h => ?_ | refine XBr.beq (fun h => ?_) fun h => ?_ | apply Chk.go | apply ChkA.go | apply ChkF.go | apply ChkB.go | apply XNext.mk) <;> conv => whnf) | (with_reducible first | apply XAnd.mk | exact trivial) | (exact XSame.mk rfl rfl) | (apply Walk.drawN (id := 1) tab_ok mixed_ok [] [] (hsU _) [_, _, _, _, _, _, _, _] (by kernel_rfl) rfl) | fail
    exact ⟨.low rfl⟩
theorem fleast_c (n : Int) (nl : Bool) (l : List Int) (hl : l.length ≤ 100000) : Comp Tryz.prog 131 [.int .i64 n, .sl nl (ints l)] (.int .i64 (l.foldl min n)) := by
  have e1 : ((ints l).length : Int) = l.length := by rw [ints_len]
  refine Comp.body (T := tab) (res := [.tmp 4]) tab_ok [] Tryz.func131 rfl (by kernel_rfl) Tryz.ntmps131 rfl (by simp only [List.length_cons, List.length_nil]; decide) (by simp only [lowL, AV.low, lowI]; rfl) ?_; conv => whnf
  skip
  refine Walk.loopK tab_ok [] [(4, _), (7, _), (8, _)] ⟨rfl, rfl, rfl, trivial⟩ (fun k : Nat => k ≤ l.length) (fun k => [(0, .int .i64 ((l.take k).foldl min n)), (9, natA k)]) (fun _ => []) (fun k => l.length - k) 0 (Nat.zero_le _) rfl ⟨rfl, rfl, trivial⟩ ?_
  intro k hk
  have hnx : k < l.length → (l.take (k + 1)).foldl min n = min ((l.take k).foldl min n) (l.getD k default) := fun h => by rw [take_next h, List.foldl_append]; rfl
  have hall : k = l.length → (l.take k).foldl min n = l.foldl min n := fun h => by rw [h, List.take_length]
  generalize (l.take k).foldl min n = v at hnx hall
  conv => whnf
  by_cases hlt : k < l.length
  · skip
    repeat' first | ((with_reducible first | refine XBr.y fun h => ?_ | refine XBr.n fun h => ?_ | refine XBr.dec (fun h => ?_) fun h => ?_ | refine XInt.a ?_) <;> conv => whnf) | (refine XIx.a ?_; conv => whnf) | fail
    exact XAgain.go (k + 1) (by omega) (by omega) rfl ⟨rfl, rfl, rfl, (by rw [hnx hlt]; rfl), rfl, trivial⟩
  obtain rfl : k = l.length := by omega
  repeat' ((with_reducible first | refine XBr.y fun h => ?_ | refine XBr.n fun h => ?_ | refine XBr.dec (fun h => ?_) fun h => ?_) <;> conv => whnf)
  exact XOut.int (hall rfl)
theorem fsteps_c (s : Sn) (x : Sta) : Comp Tryz.prog 117 [dskFA s, staA x] (.fn 129 [.pim [dskFA s], .pim (stC x)]) := by
  refine Comp.body (T := tab) (res := [.tmp 4]) tab_ok [] Tryz.func117 rfl (by kernel_rfl) Tryz.ntmps117 rfl (by simp only [List.length_cons, List.length_nil]; decide) (by simp only [lowL, dskFL, staL]; rfl) ?_; conv => whnf
  skip
  exact ⟨.low (by show ((lowL 0 [dskFA s]) && _) = true; simp only [lowL, dskFL]; rfl)⟩
def gainL (s : Sn) (f : Sta → Int) (x : Sta) (t : Int × Int) (l : List Sta) : Int :=
  let n := minL f l
  if n ≠ -1 ∧ (x.p : Int) = s.bed ∧ t.1 = s.bed then n + 1 else n
theorem gain_eq (s : Sn) (f : Sta → Int) (x : Sta) (t : Int × Int) : gainZ s f x t = gainL s f x t (afterS s x t) := rfl
def worF (s : Sn) : AV := .fn 89 [.ptr 1 0, .pim [dskFA s], .ptr 2 0, .ptr 0 0]
def wH (s : Sn) (g : WSt) : List Blk := [.cells (zvs 4880 (G3 (wNum s g.D))), .cells (tvs 4880 (G3 g.K)), .cells [worF s]]
theorem worL (s : Sn) : (worF s).low 3 = true := by
  show lowL 3 [AV.ptr 1 0, .pim [dskFA s], .ptr 2 0, .ptr 0 0] = true
  simp only [lowL, AV.low, dskFL]; rfl
theorem wH_low (s : Sn) (g : WSt) : ∀ x ∈ wH s g, x.low 3 = true := fun x hx => by
  simp only [wH, List.mem_cons, List.not_mem_nil, or_false] at hx
  rcases hx with rfl | rfl | rfl
  · exact zvs_low _ _
  · exact tvs_low _ _
  · show (((worF s).low 3) && true) = true
    rw [worL]; rfl
structure NumW (s : Sn) (nx : Sta → WSt → WSt) (I : WSt → Prop) (y : Sta) : Prop where
  c : ∀ g, I g → ACall Tryz.prog 89 [staA y, .ptr 1 0, .pim [dskFA s], .ptr 2 0, .ptr 0 0] (wH s g) fun r H' => r = .int .i64 (worthZ s y) ∧ H' = wH s (nx y g)
  i : ∀ g, I g → I (nx y g)
theorem XCall.num {s : Sn} {nx : Sta → WSt → WSt} {I : WSt → Prop} {y : Sta} (h : NumW s nx I y) {g : WSt} (hg : I g) (X : List Blk) {H : List Blk} (hH : H = wH s g ++ X) {K : AV → List Blk → Prop} (hk : K (.int .i64 (worthZ s y)) (wH s (nx y g) ++ X)) :
    XCall Tryz.prog 89 [staA y, .ptr 1 0, .pim [dskFA s], .ptr 2 0, .ptr 0 0] H K := by
  refine XCall.pre X (h.c g hg) hH (wH_low s g) ?_ ?_
  · show (true && (true && ((AV.pim [dskFA s]).low 3 && true))) = true
    simp only [AV.low, lowL, dskFL]; rfl
  · rintro r H' ⟨rfl, rfl⟩
    exact ⟨rfl, wH_low s _, rfl, hk⟩
def nxL (nx : Sta → WSt → WSt) (l : List Sta) (g : WSt) : WSt := l.foldl (fun g y => nx y g) g
theorem nxL_i {nx : Sta → WSt → WSt} {I : WSt → Prop} : ∀ {l : List Sta} {g : WSt}, (∀ y ∈ l, ∀ g, I g → I (nx y g)) → I g → I (nxL nx l g)
  | [], _, _, h => h
  | y :: l, g, h, hg => nxL_i (l := l) (fun z hz => h z (List.mem_cons_of_mem _ hz)) (h y List.mem_cons_self g hg)
theorem wideSta (xs : List Sta) : wide 3 (xs.map staA) = true := wide_map (f := staA) (n := 3) (fun _ => rfl) (fun _ => rfl) xs
theorem gained_w (s : Sn) (ok : SnOk s) (nx : Sta → WSt → WSt) (I : WSt → Prop) (x : Sta) (t : Int × Int) (nl : Bool) (y0 : Sta) (l : List Sta) (hl : l.length ≤ 100) (hn : ∀ y ∈ y0 :: l, NumW s nx I y) (hb : ∀ y ∈ y0 :: l, worthZ s y ≤ 100) (g : WSt) (hg : I g) :
    ACall Tryz.prog 118 [dskFA s, staA x, sgA t, .sl nl ((y0 :: l).map staA), worF s] (wH s g) fun r H' => r = .int .i64 (gainL s (worthZ s) x t (y0 :: l)) ∧ H' = wH s (nxL nx (y0 :: l) g) := by
  have hg1 : I (nx y0 g) := (hn y0 List.mem_cons_self).i g hg
  have hb0 := hb y0 List.mem_cons_self
  have e1 : (((y0 :: l).map staA).length : Int) = l.length + 1 := by rw [List.length_map, List.length_cons]; omega
  have hsl : List.take (((((y0 :: l).map staA).length : Nat) : Int) - 1).toNat (List.drop (Int.toNat 1) ((y0 :: l).map staA)) = l.map staA := by
    rw [e1, show ((l.length : Int) + 1 - 1).toNat = l.length by omega]
    show List.take l.length (l.map staA) = _
    rw [← List.map_take, List.take_length]
  have e2 : ((y0 :: l).length : Int) = l.length + 1 := by rw [List.length_cons]; omega
  have e3 : ((l.map staA).length : Int) = l.length := by rw [List.length_map]
  refine ACall.bodyK (T := tab) (res := [.tmp 10]) tab_ok [] Tryz.func118 rfl (by kernel_rfl) Tryz.ntmps118 rfl (by simp only [List.length_cons, List.length_nil]; decide) ?_; conv => whnf
  repeat' first | ((first | refine XIx.b ?_ | refine XCall.num (hn y0 List.mem_cons_self) hg [] (List.append_nil _).symm ?_); conv => whnf) | (rw [hsl]; conv => whnf) | ((refine XHold.mk ⟨by omega, by omega, by omega, .inr (wideSta _)⟩ ?_); conv => whnf) | fail
  refine Walk.loopGK tab_ok [] [(0, _), (4, _), (6, _), (7, _), (10, _), (20, _), (21, _)] ⟨rfl, rfl, rfl, rfl, rfl, rfl, rfl, trivial⟩ (fun k : Nat => k ≤ l.length) (fun k => [(11, .int .i64 ((l.take k).foldl (fun n y => min n (worthZ s y)) (worthZ s y0))), (22, natA k)]) (fun k => wH s (nxL nx (l.take k) (nx y0 g))) (fun k => l.length - k) 0 (Nat.zero_le _) rfl ⟨rfl, rfl, trivial⟩ ?_ (fun _ _ => (show (3 : Nat) ≤ 3 from Nat.le_refl 3)) ?_
  · intro k _
    refine ⟨wH_low s _, fun z hz => ?_⟩
    simp only [List.cons_append, List.nil_append, List.mem_cons, List.not_mem_nil, or_false] at hz
    rcases hz with rfl | rfl | rfl | rfl | rfl | rfl | rfl | rfl | rfl <;> first | rfl | exact dskFL s | exact worL s | exact lowSta _
  intro k hk
  have hI : I (nxL nx (l.take k) (nx y0 g)) := nxL_i (fun y hy => (hn y (List.mem_cons_of_mem _ (List.mem_of_mem_take hy))).i) hg1
  have hnx : k < l.length → nxL nx (l.take (k + 1)) (nx y0 g) = nx (l.getD k default) (nxL nx (l.take k) (nx y0 g)) := fun h => by unfold nxL; rw [take_next h, List.foldl_append]; rfl
  have hfx : k < l.length → (l.take (k + 1)).foldl (fun n y => min n (worthZ s y)) (worthZ s y0) = min ((l.take k).foldl (fun n y => min n (worthZ s y)) (worthZ s y0)) (worthZ s (l.getD k default)) := fun h => by rw [take_next h, List.foldl_append]; rfl
  have hend : k = l.length → nxL nx (l.take k) (nx y0 g) = nxL nx (y0 :: l) g := fun h => by rw [h, List.take_length]; rfl
  have hfend : k = l.length → (l.take k).foldl (fun n y => min n (worthZ s y)) (worthZ s y0) = minL (worthZ s) (y0 :: l) := fun h => by rw [h, List.take_length]; rfl
  generalize nxL nx (l.take k) (nx y0 g) = gk at hI hnx hend
  generalize (l.take k).foldl (fun n y => min n (worthZ s y)) (worthZ s y0) = v at hfx hfend
  conv => whnf
  by_cases hlt : k < l.length
  · have hy : l.getD k default ∈ y0 :: l := List.mem_cons_of_mem _ (getD_mem hlt)
    have hls := fleast_c v false [worthZ s (l.getD k default)] (by simp)
    repeat' first | ((with_reducible first | refine XBr.y fun h => ?_ | refine XBr.n fun h => ?_ | refine XBr.dec (fun h => ?_) fun h => ?_ | refine XInt.a ?_) <;> conv => whnf) | ((first | refine XHold.a ?_ | refine XIx.a ?_ | refine XCall.num (hn _ hy) hI [.cells (stC (l.getD k default))] rfl ?_ | refine XCall.ret hls ?_); conv => whnf) | fail
    refine XAgainG.go (k + 1) [.cells (stC (l.getD k default))] (by omega) (by omega) ?_ ⟨rfl, rfl, rfl, rfl, rfl, rfl, rfl, (by rw [hfx hlt]; rfl), rfl, trivial⟩
    show wH s (nxL nx (l.take (k + 1)) (nx y0 g)) ++ _ = _
    rw [hnx hlt]
  obtain rfl : k = l.length := by omega
  have hv := hfend rfl
  rw [← hend rfl]
  have hge : -1 ≤ minL (worthZ s) (y0 :: l) := minL_ge (List.cons_ne_nil _ _) fun y _ => worthZ_ge s y
  have hle : minL (worthZ s) (y0 :: l) ≤ worthZ s y0 := (minL_mem (f := worthZ s) (List.cons_ne_nil y0 l)).2 y0 List.mem_cons_self
  have hgl : gainL s (worthZ s) x t (y0 :: l) = if v ≠ -1 ∧ (x.p : Int) = s.bed ∧ t.1 = s.bed then v + 1 else v := by unfold gainL; rw [← hv]
  rw [← hv] at hge hle
  rw [hgl]
  by_cases c1 : v = -1
  · rw [if_neg (fun h => h.1 c1)]
    repeat' first | ((with_reducible first | apply XBr.ff | refine XBr.y fun h => ?_ | refine XBr.n fun h => ?_ | refine XBr.dec (fun h => ?_) fun h => ?_ | refine XBr.y2 fun h => ?_ | refine XBr.n2 fun h => ?_ | refine XBr.bne (fun h => ?_) fun h => ?_ | apply Chk.go | apply ChkA.go | apply ChkF.go | apply ChkB.go | apply XNext.mk) <;> conv => whnf) | (with_reducible first | apply XAnd.mk | exact trivial) | (exact XSame.mk rfl rfl) | (apply Walk.drawN (id := 7) tab_ok mixed_ok [] [] (hsU _) [_, _, _, _, _, _, _, _, _, _, _, _, _, _, _, _, _, _, _, _, _, _] (by kernel_rfl) rfl) | fail
    exact XCut.mk' (wH s gk) [] (List.append_nil _) rfl (wH_low s gk) rfl ⟨rfl, rfl⟩
  by_cases c2 : (x.p : Int) = s.bed
  · by_cases c3 : t.1 = s.bed
    · rw [if_pos ⟨c1, c2, c3⟩]
      repeat' first | ((with_reducible first | refine XBr.y fun h => ?_ | refine XBr.n fun h => ?_ | refine XBr.dec (fun h => ?_) fun h => ?_ | refine XBr.y1 fun h => ?_ | refine XBr.n1 fun h => ?_ | refine XBr.beq (fun h => ?_) fun h => ?_ | refine XBr.y2 fun h => ?_ | refine XBr.n2 fun h => ?_ | refine XBr.bne (fun h => ?_) fun h => ?_ | refine XInt.a ?_ | apply Chk.go | apply ChkA.go | apply ChkF.go | apply ChkB.go | apply XNext.mk) <;> conv => whnf) | (with_reducible first | apply XAnd.mk | exact trivial) | (exact XSame.mk rfl rfl) | (apply Walk.drawN (id := 7) tab_ok mixed_ok [] [] (hsU _) [_, _, _, _, _, _, _, _, _, _, _, _, _, _, _, _, _, _, _, _, _, _] (by kernel_rfl) rfl) | fail
      exact XCut.mk' (wH s gk) [] (List.append_nil _) rfl (wH_low s gk) rfl ⟨rfl, rfl⟩
    · rw [if_neg (fun h => c3 h.2.2)]
      repeat' first | ((with_reducible first | refine XBr.y fun h => ?_ | refine XBr.n fun h => ?_ | refine XBr.dec (fun h => ?_) fun h => ?_ | refine XBr.y1 fun h => ?_ | refine XBr.n1 fun h => ?_ | refine XBr.beq (fun h => ?_) fun h => ?_ | refine XBr.y2 fun h => ?_ | refine XBr.n2 fun h => ?_ | refine XBr.bne (fun h => ?_) fun h => ?_ | apply Chk.go | apply ChkA.go | apply ChkF.go | apply ChkB.go | apply XNext.mk) <;> conv => whnf) | (with_reducible first | apply XAnd.mk | exact trivial) | (exact XSame.mk rfl rfl) | (apply Walk.drawN (id := 7) tab_ok mixed_ok [] [] (hsU _) [_, _, _, _, _, _, _, _, _, _, _, _, _, _, _, _, _, _, _, _, _, _] (by kernel_rfl) rfl) | fail
      exact XCut.mk' (wH s gk) [] (List.append_nil _) rfl (wH_low s gk) rfl ⟨rfl, rfl⟩
  · rw [if_neg (fun h => c2 h.2.1)]
    repeat' first | ((with_reducible first | apply XBr.ff | refine XBr.y fun h => ?_ | refine XBr.n fun h => ?_ | refine XBr.dec (fun h => ?_) fun h => ?_ | refine XBr.y1 fun h => ?_ | refine XBr.n1 fun h => ?_ | refine XBr.beq (fun h => ?_) fun h => ?_ | refine XBr.y2 fun h => ?_ | refine XBr.n2 fun h => ?_ | refine XBr.bne (fun h => ?_) fun h => ?_ | apply Chk.go | apply ChkA.go | apply ChkF.go | apply ChkB.go | apply XNext.mk) <;> conv => whnf) | (with_reducible first | apply XAnd.mk | exact trivial) | (exact XSame.mk rfl rfl) | (apply Walk.drawN (id := 7) tab_ok mixed_ok [] [] (hsU _) [_, _, _, _, _, _, _, _, _, _, _, _, _, _, _, _, _, _, _, _, _, _] (by kernel_rfl) rfl) | fail
    exact XCut.mk' (wH s gk) [] (List.append_nil _) rfl (wH_low s gk) rfl ⟨rfl, rfl⟩
end GA
end

section
namespace GA
open Go Go.RowKit Go.Proofs
set_option pp.deepTerms true
set_option maxRecDepth 8000
set_option linter.unusedVariables false
set_option linter.unusedSimpArgs false

def nxS (s : Sn) (nx : Sta → WSt → WSt) (x : Sta) (T : List (Int × Int)) (g : WSt) : WSt := T.foldl (fun g t => nxL nx (afterS s x t) g) g
def bstN (s : Sn) (f : Sta → Int) (x : Sta) (T : List (Int × Int)) (n : Int) : Int := T.foldl (fun n t => if (!(afterS s x t).isEmpty) = true then max n (gainZ s f x t) else n) n
theorem bstN_all (s : Sn) (f : Sta → Int) (x : Sta) (h : safeB s x = true) : bstN s f x (waysL s x.p) (homeZ s x) = bestZ s f x := by
  unfold bstN bestZ stepsS
  rw [if_pos h, List.foldl_filter]
theorem nxS_i {s : Sn} {nx : Sta → WSt → WSt} {I : WSt → Prop} {x : Sta} : ∀ {T : List (Int × Int)} {g : WSt}, (∀ t ∈ T, ∀ y ∈ afterS s x t, ∀ g, I g → I (nx y g)) → I g → I (nxS s nx x T g)
  | [], _, _, h => h
  | t :: T, g, h, hg => nxS_i (T := T) (fun u hu => h u (List.mem_cons_of_mem _ hu)) (nxL_i (h t List.mem_cons_self) hg)
theorem afterS_unsafe {s : Sn} {x : Sta} (h : safeB s x = false) (t : Int × Int) : afterS s x t = [] := afterS_nil (.inl h)
theorem nxS_unsafe {s : Sn} {x : Sta} (h : safeB s x = false) (nx : Sta → WSt → WSt) (g : WSt) : ∀ T, nxS s nx x T g = g
  | [] => rfl
  | t :: T => by
    show nxS s nx x T (nxL nx (afterS s x t) g) = g
    rw [afterS_unsafe h]; exact nxS_unsafe h nx g T
theorem partsL_len (s : Sn) (p left : Nat) : (partsL s p left).length ≤ 4 := by
  unfold partsL
  have : ∀ k, (partsK s p left k).length ≤ k := fun k => by
    induction k with
    | zero => exact Nat.le_refl _
    | succ n ih => rw [partsK, List.length_append]; split <;> simp only [List.length_cons, List.length_nil] <;> omega
  exact this 4
theorem afterS_len (s : Sn) (x : Sta) (t : Int × Int) : (afterS s x t).length ≤ 4 := by
  unfold afterS
  split
  · unfold outS; rw [List.length_map]; exact partsL_len _ _ _
  · exact Nat.zero_le _
theorem best_w (s : Sn) (ok : SnOk s) (nx : Sta → WSt → WSt) (I : WSt → Prop) (x : Sta) (hx : StOk s x) (hn : ∀ t, ∀ y ∈ afterS s x t, NumW s nx I y) (hb : ∀ t, ∀ y ∈ afterS s x t, worthZ s y ≤ 100) (g : WSt) (hg : I g) :
    ACall Tryz.prog 90 [dskFA s, staA x, worF s] (wH s g) fun r H' => r = .int .i64 (bestZ s (worthZ s) x) ∧ H' = wH s (nxS s nx x (waysL s x.p) g) := by
  have p1 := ok.p1; have p2 := ok.p2; have l1 := ok.l1; have l2 := ok.l2; have w1 := ok.w1
  have x1 := hx.p; have x2 := hx.m; have x3 := hx.l
  have hsf := safe_c s ok x (by omega) (by omega) (by omega)
  cases h1 : safeB s x with
  | false =>
    rw [h1] at hsf
    rw [nxS_unsafe h1, show bestZ s (worthZ s) x = -1 by unfold bestZ; rw [if_neg (by rw [h1]; simp)]]
    refine ACall.bodyK (T := tab) (res := [.tmp 6]) tab_ok [] Tryz.func90 rfl (by kernel_rfl) Tryz.ntmps90 rfl (by simp only [List.length_cons, List.length_nil]; decide) ?_; conv => whnf
    repeat' first | ((with_reducible apply XBr.ff); conv => whnf) | with_reducible apply XBr.not | ((refine XCall.ret hsf ?_); conv => whnf) | fail
    exact XCut.mk' (wH s g) [] (List.append_nil _) rfl (wH_low s g) rfl ⟨rfl, rfl⟩
  | true =>
    rw [h1] at hsf
    have hmg : mget (x.p : Int) ((keyF s).zip ((esF s s.places.toNat).map (·.2))) = some (.sl false ((waysL s x.p).map sgA)) := by
      unfold keyF; rw [zip_fs]; exact esF_get s _ _ (by omega)
    have hho := fhome_c s x
    have hst := fsteps_c s x
    rw [← bstN_all s (worthZ s) x h1]
    have hwl : (waysL s x.p).length ≤ 55 := by
      have h := waysK_len s x.p s.places.toNat
      have h2 : s.places.toNat * (1 + s.ways.length) ≤ 5 * 11 := Nat.mul_le_mul (by omega) (by omega)
      show (waysK s x.p s.places.toNat).length ≤ 55
      omega
    have hwm := fun t (h : t ∈ waysL s x.p) => waysL_pos ok h
    generalize waysL s x.p = W at hmg hwl hwm
    have e1 : ((W.map sgA).length : Int) = W.length := by rw [List.length_map]
    refine ACall.bodyK (T := tab) (res := [.tmp 6]) tab_ok [] Tryz.func90 rfl (by kernel_rfl) Tryz.ntmps90 rfl (by simp only [List.length_cons, List.length_nil]; decide) ?_; conv => whnf
    repeat' first | ((with_reducible apply XBr.tt); conv => whnf) | with_reducible apply XBr.not | ((first | refine XCall.ret hsf ?_ | refine XCall.ret hho ?_ | refine XCall.ret hst ?_); conv => whnf) | fail
    refine Walk.range (own := []) tab_ok [(3, .pim [dskFA s]), (4, .pim (stC x)), (5, .pim [worF s]), (6, .int .i64 0), (7, .ptr 3 0)] rfl ⟨rfl, rfl, rfl, rfl, rfl, trivial⟩ ?_
    intro fn
    refine XCall.inl (T := tab) (res := []) tab_ok [] Tryz.func129 rfl (by kernel_rfl) Tryz.ntmps129 rfl (by simp only [List.length_append, List.length_cons, List.length_nil]; decide) ?_; conv => whnf
    repeat' first | ((with_reducible first | apply Chk.go | apply ChkA.go | apply ChkF.go | apply ChkB.go | apply XNext.mk); conv => whnf) | (with_reducible first | apply XAnd.mk | exact trivial) | (exact XSame.mk rfl rfl) | (apply Walk.drawN (id := 0) tab_ok mixed_ok [] [] (hsU _) [_, _, _, _, _, _, _, _, _] (by kernel_rfl) rfl) | ((first | refine XDrop.dskF ?_ | refine XGetM.mk' hmg ?_); conv => whnf) | fail
    refine Walk.loopGKL tab_ok [] _ [(0, _), (1, _), (2, _), (13, _), (14, _)] ⟨rfl, rfl, rfl, rfl, rfl, trivial⟩ (fun k : Nat => k ≤ W.length) (fun k => [(15, natA k)]) (fun lp k => wH s (nxS s nx x (W.take k) g) ++ [.cells [.int .i64 (bstN s (worthZ s) x (W.take k) (homeZ s x))], .raw (.deferred (some [])), lp]) (fun k => W.length - k) 0 (Nat.zero_le _) rfl ⟨rfl, trivial⟩ ?_ (fun _ _ => (show (6 : Nat) ≤ 6 from Nat.le_refl 6)) ?_
    · intro k _
      refine ⟨fun z hz => ?_, fun z hz => ?_⟩
      · show z.low 6 = true
        simp only [wH, List.cons_append, List.nil_append, List.mem_cons, List.not_mem_nil, or_false] at hz
        rcases hz with rfl | rfl | rfl | rfl | rfl | rfl
        · exact zvs_low _ _
        · exact tvs_low _ _
        · exact low_mono (n := 3) (by omega) (show (((worF s).low 3) && true) = true by rw [worL]; rfl)
        · rfl
        · rfl
        · show lowL 6 [AV.pim [dskFA s], AV.pim (stC x), AV.pim [worF s], AV.int .i64 0, AV.ptr 3 0] = true
          simp only [lowL, AV.low, dskFL, AV.low_mono (n := 3) (m := 6) (by omega) (worL s)]; rfl
      · show z.2.low 6 = true
        simp only [List.cons_append, List.nil_append, List.mem_cons, List.not_mem_nil, or_false] at hz
        rcases hz with rfl | rfl | rfl | rfl | rfl | rfl <;> first | rfl | exact lowSg _ | (simp only [AV.low, lowL, dskFL]; rfl)
    intro k hk
    have hI : I (nxS s nx x (W.take k) g) := nxS_i (fun t _ y hy => (hn t y hy).i) hg
    have hnx : k < W.length → nxS s nx x (W.take (k + 1)) g = nxL nx (afterS s x (W.getD k default)) (nxS s nx x (W.take k) g) := fun h => by unfold nxS; rw [take_next h, List.foldl_append]; rfl
    have hbx : k < W.length → bstN s (worthZ s) x (W.take (k + 1)) (homeZ s x) = if (!(afterS s x (W.getD k default)).isEmpty) = true then max (bstN s (worthZ s) x (W.take k) (homeZ s x)) (gainZ s (worthZ s) x (W.getD k default)) else bstN s (worthZ s) x (W.take k) (homeZ s x) := fun h => by unfold bstN; rw [take_next h, List.foldl_append]; rfl
    have hend : k = W.length → nxS s nx x (W.take k) g = nxS s nx x W g := fun h => by rw [h, List.take_length]
    have hbend : k = W.length → bstN s (worthZ s) x (W.take k) (homeZ s x) = bstN s (worthZ s) x W (homeZ s x) := fun h => by rw [h, List.take_length]
    generalize nxS s nx x (W.take k) g = gk at hI hnx hend
    generalize bstN s (worthZ s) x (W.take k) (homeZ s x) = v at hbx hbend
    conv => whnf
    by_cases hlt : k < W.length
    · have hw := hwm _ (getD_mem (d := default) hlt)
      have hfa := fafter_c s ok x hx (W.getD k default) (by omega) (by omega)
      have hnk := hn (W.getD k default)
      have hbk := hb (W.getD k default)
      have hgq := gain_eq s (worthZ s) x (W.getD k default)
      have hnx := hnx hlt
      have hbx := hbx hlt
      cases haf : afterS s x (W.getD k default) with
      | nil =>
        rw [haf] at hfa hnx hbx
        have e0 : (([] : List AV).length : Int) = 0 := rfl
        have hfa' : Comp Tryz.prog 130 [dskFA s, staA x, sgA (W.getD k default)] (.sl true []) := hfa
        repeat' first | ((with_reducible first | apply XBr.ff | refine XBr.y fun h => ?_ | refine XBr.n fun h => ?_ | refine XBr.dec (fun h => ?_) fun h => ?_ | refine XInt.a ?_) <;> conv => whnf) | ((first | refine XIx.a ?_ | refine XCall.ret hfa' ?_); conv => whnf) | fail
        refine XAgainG.go (k + 1) [.cells (sgA (W.getD k default)).cells] (by omega) (by omega) ?_ ⟨rfl, rfl, rfl, rfl, rfl, rfl, trivial⟩
        show (wH s (nxS s nx x (W.take (k + 1)) g) ++ [.cells [.int .i64 (bstN s (worthZ s) x (W.take (k + 1)) (homeZ s x))], _, _]) ++ _ = _
        rw [hnx, hbx]; rfl
      | cons y0 l =>
        rw [haf] at hfa hnx hbx hnk hbk hgq
        have hla : lowL 3 [dskFA s, staA x, sgA (W.getD k default), .sl false ((y0 :: l).map staA), worF s] = true := by simp only [lowL, AV.low, dskFL, staL, lowSta, worL]; rfl
        have hln : l.length ≤ 100 := by
          have := afterS_len s x (W.getD k default)
          rw [haf, List.length_cons] at this
          omega
        have hfa' : Comp Tryz.prog 130 [dskFA s, staA x, sgA (W.getD k default)] (.sl false ((y0 :: l).map staA)) := hfa
        have e2 : (((y0 :: l).map staA).length : Int) = l.length + 1 := by rw [List.length_map, List.length_cons]; omega
        have hgw := gained_w s ok nx I x (W.getD k default) false y0 l hln hnk hbk gk hI
        rw [← hgq] at hgw
        repeat' first | ((with_reducible first | apply XBr.tt | refine XBr.y fun h => ?_ | refine XBr.n fun h => ?_ | refine XBr.dec (fun h => ?_) fun h => ?_) <;> conv => whnf) | ((first | (first | refine XIx.a ?_ | refine XCall.ret hfa' ?_) | ((refine XYield.go (own := []) tab_ok rfl rfl (by decide) ?_); intro ρ)); conv => whnf) | fail
        apply Walk.drawX tab_ok mixed_ok [] [6, 8] (hsC [_, _, _]) [_, _, _, _, _, _, _, _, _] (by kernel_rfl) rfl
        · skip
          repeat' first | ((with_reducible first | apply Chk.go | apply ChkA.go); conv => whnf) | (with_reducible first | apply XAnd.mk | exact trivial) | (exact XSame.mk rfl rfl) | (refine XCall.pre _ hgw rfl (wH_low s gk) hla ?_; rintro r H' ⟨rfl, rfl⟩; exact ⟨rfl, wH_low s _, rfl, XSame.mk rfl rfl⟩) | fail
        · skip
          repeat' first | ((with_reducible first | apply Chk.go | apply ChkF.go | apply ChkB.go); conv => whnf) | (with_reducible first | apply XAnd.mk | exact trivial) | (exact XSame.mk rfl rfl) | fail
        conv => whnf
        repeat' first | ((with_reducible first | apply XBr.tt | refine XInt.a ?_); conv => whnf) | with_reducible apply XBr.not | fail
        refine XAgainG.go (k + 1) [.cells (sgA (W.getD k default)).cells, .cells (sgA (W.getD k default)).cells] (by omega) (by omega) ?_ ⟨rfl, rfl, rfl, rfl, rfl, rfl, trivial⟩
        show (wH s (nxS s nx x (W.take (k + 1)) g) ++ [.cells [.int .i64 (bstN s (worthZ s) x (W.take (k + 1)) (homeZ s x))], _, _]) ++ _ = _
        rw [hnx, hbx]; rfl
    obtain rfl : k = W.length := by omega
    rw [← hend rfl, ← hbend rfl]
    repeat' ((with_reducible first | refine XBr.y fun h => ?_ | refine XBr.n fun h => ?_ | refine XBr.dec (fun h => ?_) fun h => ?_) <;> conv => whnf)
    exact ⟨wH s gk, [_, _, _], rfl, rfl, wH_low s gk, by simp, fun i hi => by (rw [List.mem_singleton] at hi; subst hi; exact ⟨(show (3 : Nat) ≤ 4 by omega), rfl⟩), rfl, ⟨rfl, rfl⟩⟩
end GA
end

section
namespace GA
open Go Go.RowKit Go.Proofs
set_option pp.deepTerms true
set_option maxRecDepth 8000
set_option linter.unusedVariables false
set_option linter.unusedSimpArgs false

theorem allN_lt {s : Sn} (ok : SnOk s) : allN s < 16 := by
  have h2 : 2 ^ s.truths.length ≤ 2 ^ 4 := Nat.pow_le_pow_right (by omega) ok.t2
  unfold allN; omega
theorem partsL_all {s : Sn} (ok : SnOk s) {p left l : Nat} (h : l ∈ partsL s p left) : l ≤ allN s := by
  obtain ⟨n, -, e, -⟩ := partsL_mem.1 h
  have h1 : partN s p left n < 2 ^ s.looks.length := bsum_lt _ _
  rw [ok.k1] at h1
  unfold allN; omega
theorem afterS_vld {s : Sn} (ok : SnOk s) {x y : Sta} {t : Int × Int} (h : y ∈ afterS s x t) : vld s y := by
  obtain ⟨h1, h2, h3, h4, h5, -⟩ := afterS_mem h
  have hw := waysL_pos ok h4
  exact ⟨by omega, h3, partsL_all ok h5⟩
def WPost (s : Sn) (x : Sta) (g g' : WSt) : Prop :=
  (ACall Tryz.prog 89 [staA x, .ptr 1 0, .pim [dskFA s], .ptr 2 0, .ptr 0 0] (wH s g) fun r H' => r = .int .i64 (worthZ s x) ∧ H' = wH s g') ∧ WInv s x.m g' ∧ WRel x.m g g' ∧ g'.K x.p x.m x.l = true
set_option maxHeartbeats 2000000 in
theorem worth1_w (s : Sn) (ok : SnOk s) : ∀ (d : Nat) (x : Sta), vld s x → (s.last + 1 - x.m).toNat ≤ d → ∀ g, WInv s x.m g → ∃ g', WPost s x g g'
  | 0, x, hv, hd, _, _ => by have := hv.2.1; omega
  | d + 1, x, hv, hd, g, hg => by
    have p2 := ok.p2; have l2 := ok.l2
    obtain ⟨v1, v2, v3⟩ := hv
    have hal := allN_lt ok
    have hidx : 976 * x.p + 16 * x.m + x.l < 4880 := by omega
    by_cases hk : g.K x.p x.m x.l = true
    · have hD : g.D x.p x.m x.l = true := by rw [hg.d _ _ _ (Nat.le_refl _)]; exact hk
      have hk0 : G3 g.K (976 * x.p + 16 * x.m + x.l) = true := by rw [G3_at _ (by omega) (by omega)]; exact hk
      have hw0 : G3 (wNum s g.D) (976 * x.p + 16 * x.m + x.l) = worthZ s x := by rw [G3_at _ (by omega) (by omega), wNum_at hD]
      refine ⟨g, ?_, hg, .rfl', hk⟩
      refine ACall.bodyK (T := tab) (res := [.tmp 6]) tab_ok [] Tryz.func89 rfl (by kernel_rfl) Tryz.ntmps89 rfl (by simp only [List.length_cons, List.length_nil]; decide) ?_; conv => whnf
      repeat' first | ((with_reducible first | apply Chk.go | apply ChkA.go | apply ChkF.go | apply ChkB.go | apply XNext.mk); conv => whnf) | (with_reducible first | apply XBr.not | apply XAnd.mk | exact trivial) | (exact XSame.mk rfl rfl) | (((with_reducible refine XArr.ptr ?_ ?_ ?_); omega; omega); conv => whnf) | (apply Walk.drawN (id := 1) tab_ok mixed_ok [] [] (hsU _) [_, _, _, _, _, _, _, _, _, _, _] (by kernel_rfl) rfl) | (apply Walk.drawN (id := 4) tab_ok mixed_ok [] [] (hsU _) [_, _, _, _, _, _, _, _, _, _, _] (by kernel_rfl) rfl) | ((first | refine xdrop_vec (f := AV.bool) (W := 4880) (F := G3 g.K) (976 * x.p + 16 * x.m + x.l) (by omega) (by omega) ?_ | refine XBr.yes hk0 ?_ | refine xdrop_vec (f := AV.int .i64) (W := 4880) (F := G3 (wNum s g.D)) (976 * x.p + 16 * x.m + x.l) (by omega) (by omega) ?_); conv => whnf) | fail
      exact XCut.mk' (wH s g) [] (List.append_nil _) rfl (wH_low s g) rfl ⟨congrArg (AV.int .i64) hw0, rfl⟩
    · have hkf : g.K x.p x.m x.l = false := by simpa using hk
      have ih := worth1_w s ok d
      obtain ⟨nx, hnx⟩ : ∃ nx : Sta → WSt → WSt, ∀ y, vld s y → x.m < y.m → ∀ g, WInv s y.m g → WPost s y g (nx y g) := by
        have hex : ∀ y g, ∃ g', vld s y ∧ x.m < y.m ∧ WInv s y.m g → WPost s y g g' := fun y g => by
          by_cases h : vld s y ∧ x.m < y.m ∧ WInv s y.m g
          · obtain ⟨g', hg'⟩ := ih y h.1 (by have := h.1.2.1; omega) g h.2.2
            exact ⟨g', fun _ => hg'⟩
          · exact ⟨g, fun h' => absurd h' h⟩
        exact ⟨fun y g => Classical.choose (hex y g), fun y h1 h2 g h3 => Classical.choose_spec (hex y g) ⟨h1, h2, h3⟩⟩
      have hsK := hg.setK (x := x) ⟨v1, v2, v3⟩
      have hn : ∀ t, ∀ y ∈ afterS s x t, NumW s nx (fun q => WInv s (x.m + 1) q ∧ WRel (x.m + 1) (setK g x) q) y := fun t y hy => by
        have hm := (afterS_later ok hy).1
        have hvy := afterS_vld ok hy
        exact ⟨fun q hq => (hnx y hvy hm q (hq.1.up (by omega))).1, fun q hq => by
          obtain ⟨-, a2, a3, -⟩ := hnx y hvy hm q (hq.1.up (by omega))
          exact ⟨hq.1.back a2 a3, hq.2.trans (a3.down (by omega))⟩⟩
      have hb : ∀ t, ∀ y ∈ afterS s x t, worthZ s y ≤ 100 := fun t y hy => by
        have := worthZ_le s y (afterS_vld ok hy).2.1
        omega
      have hbw := best_w s ok nx _ x ⟨v1, v2, by omega⟩ hn hb (setK g x) ⟨hsK, .rfl'⟩
      have hi := nxS_i (s := s) (nx := nx) (I := fun q => WInv s (x.m + 1) q ∧ WRel (x.m + 1) (setK g x) q) (x := x) (T := waysL s x.p) (g := setK g x) (fun t _ y hy => (hn t y hy).i) ⟨hsK, .rfl'⟩
      rw [← worthZ_eq ok v2] at hbw
      generalize nxS s nx x (waysL s x.p) (setK g x) = g1 at hbw hi
      obtain ⟨r1, r2, r3⟩ := hg.setD hi.1 hi.2
      have hk0 : G3 g.K (976 * x.p + 16 * x.m + x.l) = false := by rw [G3_at _ (by omega) (by omega)]; exact hkf
      have hs1 : updV (G3 g.K) (976 * x.p + 16 * x.m + x.l) true = G3 (setK g x).K := G3_set g.K true (by omega) (by omega)
      have hs2 : updV (G3 (wNum s g1.D)) (976 * x.p + 16 * x.m + x.l) (worthZ s x) = G3 (wNum s (setD g1 x).D) := by rw [G3_set _ _ (by omega) (by omega), wNum_set]
      have hw0 : G3 (wNum s (setD g1 x).D) (976 * x.p + 16 * x.m + x.l) = worthZ s x := by
        rw [G3_at _ (by omega) (by omega)]
        exact wNum_at (upd3_at _ _ _ _ _)
      have hla : lowL 3 [dskFA s, staA x, worF s] = true := by simp only [lowL, AV.low, dskFL, staL, worL]; rfl
      refine ⟨setD g1 x, ?_, r1, r2, r3⟩
      refine ACall.bodyK (T := tab) (res := [.tmp 6]) tab_ok [] Tryz.func89 rfl (by kernel_rfl) Tryz.ntmps89 rfl (by simp only [List.length_cons, List.length_nil]; decide) ?_; conv => whnf
      repeat' first | ((with_reducible first | apply Chk.go | apply ChkA.go | apply ChkF.go | apply ChkB.go | apply XNext.mk); conv => whnf) | (with_reducible first | apply XBr.not | apply XAnd.mk | exact trivial) | (exact XSame.mk rfl rfl) | (((with_reducible refine XArr.ptr ?_ ?_ ?_); omega; omega); conv => whnf) | (apply Walk.drawN (id := 1) tab_ok mixed_ok [] [] (hsU _) [_, _, _, _, _, _, _, _, _, _, _] (by kernel_rfl) rfl) | (apply Walk.drawN (id := 2) tab_ok mixed_ok [] [9] (hsC [_, _]) [_, _, _, _, _, _, _, _, _, _] (by kernel_rfl) rfl) | ((first | (first | refine xdrop_vec (f := AV.bool) (W := 4880) (F := G3 g.K) (976 * x.p + 16 * x.m + x.l) (by omega) (by omega) ?_ | refine XBr.no hk0 ?_) | ((refine xspl_vec (f := AV.bool) (W := 4880) (F := G3 g.K) true (976 * x.p + 16 * x.m + x.l) (by omega) (by omega) ?_); rw [hs1])); conv => whnf) | fail
      apply Walk.drawX tab_ok mixed_ok [] [9, 13] (hsC [_, _, _]) [_, _, _, _, _, _, _, _, _, _, _, _, _, _] (by kernel_rfl) rfl
      · skip
        repeat' first | ((with_reducible first | apply Chk.go | apply ChkA.go); conv => whnf) | (with_reducible first | apply XAnd.mk | exact trivial) | (exact XSame.mk rfl rfl) | (((with_reducible refine XArr.ptr ?_ ?_ ?_); omega; omega); conv => whnf) | (refine XCall.pre [] hbw rfl (wH_low s _) hla ?_; rintro r H' ⟨rfl, rfl⟩; exact ⟨rfl, wH_low s _, rfl, XSame.mk rfl rfl⟩) | (((refine xspl_vec (f := AV.int .i64) (W := 4880) (F := G3 (wNum s g1.D)) (worthZ s x) (976 * x.p + 16 * x.m + x.l) (by omega) (by omega) ?_); rw [hs2]); conv => whnf) | fail
      · skip
        repeat' first | ((with_reducible first | apply Chk.go | apply ChkF.go | apply ChkB.go); conv => whnf) | (with_reducible first | apply XAnd.mk | exact trivial) | (exact XSame.mk rfl rfl) | (((with_reducible refine XArr.ptr ?_ ?_ ?_); omega; omega); conv => whnf) | fail
      conv => whnf
      repeat' first | ((with_reducible first | apply Chk.go | apply ChkA.go | apply ChkF.go | apply ChkB.go | apply XNext.mk); conv => whnf) | (with_reducible first | apply XAnd.mk | exact trivial) | (exact XSame.mk rfl rfl) | (((with_reducible refine XArr.ptr ?_ ?_ ?_); omega; omega); conv => whnf) | (apply Walk.drawN (id := 4) tab_ok mixed_ok [] [] (hsU _) [_, _, _, _, _, _, _, _, _, _, _] (by kernel_rfl) rfl) | ((refine xdrop_vec (f := AV.int .i64) (W := 4880) (F := G3 (wNum s (setD g1 x).D)) (976 * x.p + 16 * x.m + x.l) (by omega) (by omega) ?_); conv => whnf) | fail
      exact XCut.mk' (wH s (setD g1 x)) [] (List.append_nil _) rfl (wH_low s _) rfl ⟨congrArg (AV.int .i64) hw0, rfl⟩
end GA
end

section
namespace GA
open Go Go.RowKit Go.Proofs
set_option pp.deepTerms true
set_option maxRecDepth 8000
set_option linter.unusedVariables false
set_option linter.unusedSimpArgs false

def vldB (s : Sn) : T3 Bool := fun p m l => decide ((p : Int) < s.places) && decide ((m : Int) ≤ s.last) && decide (l ≤ allN s)
theorem vldB_iff {s : Sn} {p m l : Nat} : vldB s p m l = true ↔ vld s ⟨p, m, l⟩ := by
  unfold vldB vld
  simp only [Bool.and_eq_true, decide_eq_true_eq, and_assoc]
def wTab (s : Sn) : List AV := zvs 4880 (G3 (wNum s (vldB s)))
def wsA (s : Sn) : AV := .pim (wTab s)
theorem worsL {n : Nat} (s : Sn) : (wsA s).low n = true := zvs_low _ _
def gBeg : WSt := ⟨fun _ _ _ => false, fun _ _ _ => false⟩
theorem wInv_beg (s : Sn) : WInv s 0 gBeg := ⟨fun _ _ _ h => Bool.noConfusion (show false = true from h), fun _ _ _ h => Bool.noConfusion (show false = true from h), fun _ _ _ _ => rfl⟩
theorem wH_beg (s : Sn) : wH s gBeg = [.cells (rep 4880 (AV.int .i64 0)), .cells (rep 4880 (AV.bool false)), .cells [worF s]] := by
  rw [rep_eq, rep_eq]
  have h1 : zvs 4880 (G3 (wNum s gBeg.D)) = List.replicate 4880 (AV.int .i64 0) := (zvs0 4880).symm
  have h2 : tvs 4880 (G3 gBeg.K) = List.replicate 4880 (AV.bool false) := (tvs0 4880).symm
  unfold wH; rw [h1, h2]
theorem wH_end {s : Sn} {g : WSt} (h : WInv s 0 g) (hk : ∀ p m l, vld s ⟨p, m, l⟩ → g.K p m l = true) : zvs 4880 (G3 (wNum s g.D)) = wTab s := by
  have : g.D = vldB s := by
    funext p m l
    rw [h.d p m l (Nat.zero_le _), Bool.eq_iff_iff, vldB_iff]
    exact ⟨h.v p m l, hk p m l⟩
  unfold wTab; rw [this]
theorem xn_len {A : Prop} : ∀ {n : Nat} {cs : List AV}, n = cs.length → A → xn n cs A
  | 0, [], _, h => h
  | n + 1, [], e, _ => by simp at e
  | 0, _ :: _, e, _ => by simp at e
  | n + 1, _ :: cs, e, h => xn_len (n := n) (cs := cs) (by simpa using e) h
theorem xspl_full : ∀ {c d : List AV} {k : List AV → Prop}, c.length = d.length → k d → xspl c 0 d k
  | [], [], _, _, h => h
  | [], _ :: _, _, e, _ => by simp at e
  | _ :: _, [], _, e, _ => by simp at e
  | x :: c, y :: d, k, e, h => xspl_full (c := c) (d := d) (k := fun l => k (y :: l)) (by simpa using e) h
theorem repn_len (n : Nat) (x : AV) : (rep n x).length = n := by rw [rep_eq, List.length_replicate]
def Dn (s : Sn) (P b l : Nat) (g : WSt) : Prop := ∀ p m k, vld s ⟨p, m, k⟩ → p < P ∨ (p = P ∧ (s.last - m < b ∨ (s.last - m = b ∧ k < l))) → g.K p m k = true
theorem worths_c (s : Sn) (ok : SnOk s) : Comp Tryz.prog 52 [dskFA s] (wsA s) := by
  have p1 := ok.p1; have p2 := ok.p2; have l1 := ok.l1; have l2 := ok.l2
  have hal := allN_lt ok
  have hac := fall_c s ok
  obtain ⟨P0, hP0⟩ : ∃ P0 : Nat, s.places = P0 := ⟨s.places.toNat, by omega⟩
  obtain ⟨L0, hL0⟩ : ∃ L0 : Nat, s.last = L0 := ⟨s.last.toNat, by omega⟩
  refine Comp.bodyW (T := tab) (res := [.tmp 2]) tab_ok [] Tryz.func52 rfl (by kernel_rfl) Tryz.ntmps52 rfl (by simp only [List.length_cons, List.length_nil]; decide) (by simp only [lowL, dskFL]; rfl) ?_
  refine Walk.seq (Walk.run tab_ok [] ?_)
  conv => whnf
  refine Walk.seq (Walk.run tab_ok [] ?_)
  conv => whnf
  refine Walk.seq (Walk.run tab_ok [] ?_)
  conv => whnf
  refine xn_len (repn_len _ _).symm ?_
  conv => whnf
  refine xspl_full rfl ?_
  conv => whnf
  refine Walk.seq (Walk.run tab_ok [] ?_)
  conv => whnf
  refine Walk.seq (Walk.run tab_ok [] ?_)
  conv => whnf
  refine Walk.know [(1, _), (2, _), (3, _), (5, _)] ⟨rfl, rfl, rfl, rfl, trivial⟩ ?_
  refine Walk.run tab_ok [] ?_
  conv => whnf
  skip
  refine Walk.loopK tab_ok [] [(1, _), (2, _), (3, _), (5, _), (15, _)] ⟨rfl, rfl, rfl, rfl, rfl, trivial⟩ (fun g : Nat × WSt => g.1 ≤ P0 ∧ WInv s 0 g.2 ∧ Dn s g.1 0 0 g.2) (fun g => [(16, natA g.1)]) (fun g => wH s g.2) (fun g => P0 - g.1) (0, gBeg) ⟨Nat.zero_le _, wInv_beg s, fun p m k hv h => by have hv2 : (m : Int) ≤ s.last := hv.2.1; exfalso; dsimp only at h; omega⟩ (wH_beg s) ⟨rfl, trivial⟩ ?_
  rintro ⟨p, g⟩ ⟨hp, hI, hD⟩
  dsimp only at hp hI hD ⊢
  conv => whnf
  by_cases hlt : p < P0
  · skip
    repeat' ((with_reducible first | refine XBr.y fun h => ?_ | refine XBr.n fun h => ?_ | refine XBr.dec (fun h => ?_) fun h => ?_ | refine XInt.a ?_) <;> conv => whnf)
    refine Walk.loopK tab_ok [] [(1, _), (2, _), (3, _), (5, _), (6, _), (15, _), (16, _), (24, _)] ⟨rfl, rfl, rfl, rfl, rfl, rfl, rfl, rfl, trivial⟩ (fun g : Nat × WSt => g.1 ≤ L0 + 1 ∧ WInv s 0 g.2 ∧ Dn s p g.1 0 g.2) (fun g => [(25, natA g.1)]) (fun g => wH s g.2) (fun g => L0 + 1 - g.1) (0, g) ⟨by dsimp only; omega, hI, hD⟩ rfl ⟨rfl, trivial⟩ ?_
    rintro ⟨b, g⟩ ⟨hb, hI, hD⟩
    dsimp only at hb hI hD ⊢
    conv => whnf
    by_cases hlt2 : b < L0 + 1
    · skip
      repeat' first | ((with_reducible first | refine XBr.y fun h => ?_ | refine XBr.n fun h => ?_ | refine XBr.dec (fun h => ?_) fun h => ?_ | refine XInt.a ?_) <;> conv => whnf) | ((refine XCall.ret hac ?_); conv => whnf) | fail
      refine Walk.loopK tab_ok [] [(1, _), (2, _), (3, _), (5, _), (6, _), (7, _), (15, _), (16, _), (24, _), (25, _), (30, _)] ⟨rfl, rfl, rfl, rfl, rfl, rfl, rfl, rfl, rfl, rfl, rfl, trivial⟩ (fun g : Nat × WSt => g.1 ≤ allN s + 1 ∧ WInv s 0 g.2 ∧ Dn s p b g.1 g.2) (fun g => [(31, natA g.1)]) (fun g => wH s g.2) (fun g => allN s + 1 - g.1) (0, g) ⟨by dsimp only; omega, hI, hD⟩ rfl ⟨rfl, trivial⟩ ?_
      rintro ⟨l, g⟩ ⟨hl, hI, hD⟩
      dsimp only at hl hI hD ⊢
      conv => whnf
      by_cases hlt3 : l < allN s + 1
      · obtain ⟨g', hc, i1, i2, i3⟩ := worth1_w s ok _ ⟨p, L0 - b, l⟩ ⟨by show (p : Int) < s.places; omega, by show ((L0 - b : Nat) : Int) ≤ s.last; omega, by show l ≤ allN s; omega⟩ (Nat.le_refl _) g (hI.up (Nat.zero_le _))
        dsimp only at i3
        have hst : staA ⟨p, L0 - b, l⟩ = .agg [natA p, .int .i64 (s.last - b), natA l] := by
          unfold staA natA; dsimp only; rw [show ((L0 - b : Nat) : Int) = s.last - b by omega]
        rw [hst] at hc
        have hI' := hI.back i1 i2
        have hD' : Dn s p b (l + 1) g' := fun q m k hv h => by
          have hv2 : (m : Int) ≤ s.last := hv.2.1
          by_cases e : q = p ∧ m = L0 - b ∧ k = l
          · obtain ⟨rfl, rfl, rfl⟩ := e; exact i3
          · exact i2.k q m k (hD q m k hv (by omega))
        have hla : lowL 3 [.agg [natA p, .int .i64 (s.last - b), natA l], .ptr 1 0, .pim [dskFA s], .ptr 2 0, .ptr 0 0] = true := by simp only [lowL, AV.low, dskFL, natA]; rfl
        repeat' ((with_reducible first | refine XBr.y fun h => ?_ | refine XBr.n fun h => ?_ | refine XBr.dec (fun h => ?_) fun h => ?_) <;> conv => whnf)
        apply Walk.drawX tab_ok mixed_ok [] [11] (hsC [_, _]) [_, _, _, _, _, _, _, _, _, _, _, _] (by kernel_rfl) rfl
        · skip
          repeat' first | ((with_reducible first | refine XInt.a ?_ | apply Chk.go | apply ChkA.go); conv => whnf) | (with_reducible first | apply XAnd.mk | exact trivial) | (exact XSame.mk rfl rfl) | (refine XCall.pre [] hc rfl (wH_low s _) hla ?_; rintro r H' ⟨rfl, rfl⟩; exact ⟨rfl, wH_low s _, rfl, XSame.mk rfl rfl⟩) | fail
        · skip
          repeat' first | ((with_reducible first | refine XInt.a ?_ | apply Chk.go | apply ChkF.go | apply ChkB.go); conv => whnf) | (with_reducible first | apply XAnd.mk | exact trivial) | (exact XSame.mk rfl rfl) | fail
        conv => whnf
        repeat' ((with_reducible refine XInt.a ?_); conv => whnf)
        exact XAgain.go (l + 1, g') ⟨by dsimp only; omega, hI', hD'⟩ (by dsimp only; omega) rfl ⟨rfl, rfl, rfl, rfl, rfl, rfl, rfl, rfl, rfl, rfl, rfl, rfl, trivial⟩
      obtain rfl : l = allN s + 1 := by omega
      repeat' ((with_reducible first | refine XBr.y fun h => ?_ | refine XBr.n fun h => ?_ | refine XBr.dec (fun h => ?_) fun h => ?_ | refine XInt.a ?_) <;> conv => whnf)
      refine XAgain.go (b + 1, g) ⟨by dsimp only; omega, hI, fun q m k hv h => hD q m k hv ?_⟩ (by dsimp only; omega) rfl ⟨rfl, rfl, rfl, rfl, rfl, rfl, rfl, rfl, rfl, trivial⟩
      have hv2 : (m : Int) ≤ s.last := hv.2.1
      have hv3 : k ≤ allN s := hv.2.2
      omega
    obtain rfl : b = L0 + 1 := by omega
    repeat' ((with_reducible first | refine XBr.y fun h => ?_ | refine XBr.n fun h => ?_ | refine XBr.dec (fun h => ?_) fun h => ?_ | refine XInt.a ?_) <;> conv => whnf)
    refine XAgain.go (p + 1, g) ⟨by dsimp only; omega, hI, fun q m k hv h => hD q m k hv ?_⟩ (by dsimp only; omega) rfl ⟨rfl, rfl, rfl, rfl, rfl, rfl, trivial⟩
    have hv2 : (m : Int) ≤ s.last := hv.2.1
    omega
  obtain rfl : p = P0 := by omega
  have he := wH_end hI fun q m k hv => hD q m k hv (by have hv1 : (q : Int) < s.places := hv.1; omega)
  repeat' ((with_reducible first | refine XBr.y fun h => ?_ | refine XBr.n fun h => ?_ | refine XBr.dec (fun h => ?_) fun h => ?_) <;> conv => whnf)
  exact ⟨Froz.ptr (cs := zvs 4880 (G3 (wNum s g.D))) rfl (zvs_one _ _) (by rw [← he]; exact .low (zvs_low _ _))⟩
end GA
end

section
namespace GA
open Go Go.RowKit Go.Proofs
set_option pp.deepTerms true
set_option maxRecDepth 8000
set_option linter.unusedVariables false
set_option linter.unusedSimpArgs false

theorem wTab_at (s : Sn) (ok : SnOk s) {p m l : Nat} (hv : vld s ⟨p, m, l⟩) : (wTab s)[976 * p + 16 * m + l]? = some (.int .i64 (worthZ s ⟨p, m, l⟩)) := by
  have p2 := ok.p2; have l2 := ok.l2; have hal := allN_lt ok
  obtain ⟨v1, v2, v3⟩ := hv
  dsimp only at v1 v2 v3
  have h := vec_at (f := AV.int .i64) (W := 4880) (F := G3 (wNum s (vldB s))) (j := 976 * p + 16 * m + l) (by omega)
  rw [G3_at _ (by omega) (by omega), wNum_at (vldB_iff.2 ⟨v1, v2, v3⟩)] at h
  exact h
theorem wof_c (s : Sn) (ok : SnOk s) (x : Sta) (hv : vld s x) : Comp Tryz.prog 53 [wsA s, staA x] (.int .i64 (worthZ s x)) := by
  have p2 := ok.p2; have l2 := ok.l2; have hal := allN_lt ok
  have ha := wTab_at s ok hv
  obtain ⟨v1, v2, v3⟩ := hv
  refine Comp.body (T := tab) (res := [.tmp 4]) tab_ok [] Tryz.func53 rfl (by kernel_rfl) Tryz.ntmps53 rfl (by simp only [List.length_cons, List.length_nil]; decide) (by simp only [lowL, worsL, staL]; rfl) ?_; conv => whnf
  repeat' first | ((with_reducible first | apply Chk.go | apply ChkA.go | apply ChkF.go | apply ChkB.go | apply XNext.mk); conv => whnf) | (with_reducible first | apply XAnd.mk | exact trivial) | (exact XSame.mk rfl rfl) | (apply Walk.drawN (id := 1) tab_ok mixed_ok [] [] (hsU _) [_, _, _, _, _, _, _, _, _, _, _, _, _] (by kernel_rfl) rfl) | ((first | (refine XArr.at _ (by omega) (by omega) (by rw [List.getElem?_drop, List.getElem?_drop, show (x.p : Int).toNat * 976 + ((x.m : Int).toNat * 16 + (x.l : Int).toNat * 1) = 976 * x.p + 16 * x.m + x.l by omega]; exact ha) ?_) | refine XArr.pim (by omega) (by omega) ?_); conv => whnf) | fail
  exact ⟨.low rfl⟩
def turnB (s : Sn) (l b : Nat) : Bool := worthZ s ⟨s.bed.toNat, s.last.toNat - b, l⟩ != -1
def turnN (s : Sn) (l : Nat) : Int := match (List.range (s.last.toNat + 1)).find? (turnB s l) with | some b => s.last - b | none => -1
theorem find_range_none {f : Nat → Bool} {n : Nat} (h : ∀ j, j < n → f j = false) : (List.range n).find? f = none := by
  rw [List.find?_eq_none]
  intro j hj
  rw [h j (List.mem_range.1 hj)]; simp
theorem find_range_some {f : Nat → Bool} : ∀ {n k : Nat}, k < n → f k = true → (∀ j, j < k → f j = false) → (List.range n).find? f = some k
  | n + 1, k, hk, h1, h2 => by
    rw [List.range_succ, List.find?_append]
    by_cases e : k < n
    · rw [find_range_some e h1 h2]; rfl
    · obtain rfl : k = n := by omega
      rw [find_range_none h2]
      rw [Option.none_or, List.find?_cons, h1]
theorem fTurn_ok (s : Sn) (hb : SnB s) (l : Nat) (ok : SnOk s) (h1 : 1 ≤ l) (h2 : l ≤ allN s) : Comp Tryz.prog 10 [snA s, natA l] (.tup [.int .i64 (if turnN s l = -1 then 0 else turnN s l), .int .i64 (if turnN s l = -1 then 6 else 0)]) := by
  have ho := fdOpened_c s hb ok
  have hst := fset_c s ok l
  have p2 := ok.p2; have l1 := ok.l1; have l2 := ok.l2; have b1 := ok.b1; have hal := allN_lt ok
  rw [inZ_iff.2 ⟨by omega, by omega⟩] at hst
  have hw := worths_c s ok
  obtain ⟨L0, hL0⟩ : ∃ L0 : Nat, s.last = L0 := ⟨s.last.toNat, by omega⟩
  refine Comp.body (T := tab) (res := [.tmp 4, .tmp 5]) tab_ok [] Tryz.func10 rfl (by kernel_rfl) Tryz.ntmps10 rfl (by simp only [List.length_cons, List.length_nil]; decide) (by simp only [lowL, AV.low, snL]; rfl) ?_; conv => whnf
  skip
  refine Walk.scope tab_ok [] ?_
  conv => whnf
  repeat' first | ((with_reducible first | apply XBr.tt | refine XBr.y2 fun h => ?_ | refine XBr.n2 fun h => ?_ | refine XBr.bne (fun h => ?_) fun h => ?_) <;> conv => whnf) | with_reducible apply XBr.not | ((first | refine XCall.ret ho ?_ | refine XCall.ret hst ?_ | refine XCall.ret hw ?_); conv => whnf) | fail
  refine Walk.label ?_
  conv => whnf
  repeat' ((with_reducible refine XInt.a ?_); conv => whnf)
  refine Walk.loopK tab_ok [] [(1, _), (2, _), (4, _), (5, _), (8, _), (29, _)] ⟨rfl, rfl, rfl, rfl, rfl, rfl, trivial⟩ (fun k : Nat => k ≤ L0 + 1 ∧ ∀ j, j < k → turnB s l j = false) (fun k => [(9, .int .i64 (-1)), (30, natA k)]) (fun _ => []) (fun k => L0 + 1 - k) 0 ⟨Nat.zero_le _, fun j hj => by omega⟩ rfl ⟨rfl, rfl, trivial⟩ ?_
  rintro k ⟨hk, hs⟩
  conv => whnf
  by_cases hlt : k < L0 + 1
  · have hof := wof_c s ok ⟨s.bed.toNat, s.last.toNat - k, l⟩ ⟨by show ((s.bed.toNat : Nat) : Int) < s.places; omega, by show ((s.last.toNat - k : Nat) : Int) ≤ s.last; omega, h2⟩
    have hst2 : staA ⟨s.bed.toNat, s.last.toNat - k, l⟩ = .agg [.int .i64 s.bed, .int .i64 (s.last - k), natA l] := by
      unfold staA natA; dsimp only; rw [show ((s.last.toNat - k : Nat) : Int) = s.last - k by omega, Int.toNat_of_nonneg b1.1]
    rw [hst2] at hof
    have htb : turnB s l k = (worthZ s ⟨s.bed.toNat, s.last.toNat - k, l⟩ != -1) := rfl
    generalize worthZ s ⟨s.bed.toNat, s.last.toNat - k, l⟩ = v at hof htb
    repeat' first | ((with_reducible first | refine XBr.y fun h => ?_ | refine XBr.n fun h => ?_ | refine XBr.dec (fun h => ?_) fun h => ?_ | refine XBr.y1 fun h => ?_ | refine XBr.n1 fun h => ?_ | refine XBr.beq (fun h => ?_) fun h => ?_ | refine XBr.y2 fun h => ?_ | refine XBr.n2 fun h => ?_ | refine XBr.bne (fun h => ?_) fun h => ?_ | refine XInt.a ?_) <;> conv => whnf) | ((refine XCall.ret hof ?_); conv => whnf) | fail
    · have hf : turnN s l = s.last - k := by
        unfold turnN
        rw [find_range_some (k := k) (by omega) (by rw [htb]; simpa using (show v ≠ -1 by assumption)) hs]
      rw [hf, if_neg (by omega), if_neg (by omega)]
      exact ⟨.low rfl⟩
    · refine XAgain.go (k + 1) ⟨by omega, fun j hj => ?_⟩ (by omega) rfl ⟨rfl, rfl, rfl, rfl, rfl, rfl, rfl, rfl, trivial⟩
      by_cases e : j = k
      · subst e; rw [htb]; simpa using (show v = -1 by assumption)
      · exact hs j (by omega)
  obtain rfl : k = L0 + 1 := by omega
  have hf : turnN s l = -1 := by
    unfold turnN
    rw [find_range_none (fun j hj => hs j (by omega))]
  rw [hf, if_pos rfl, if_pos rfl]
  clear hs
  repeat' ((with_reducible first | refine XBr.y fun h => ?_ | refine XBr.n fun h => ?_ | refine XBr.dec (fun h => ?_) fun h => ?_ | refine XBr.y1 fun h => ?_ | refine XBr.n1 fun h => ?_ | refine XBr.beq (fun h => ?_) fun h => ?_) <;> conv => whnf)
  exact ⟨.low rfl⟩
end GA
end
