/- Part 6 of a proof: H4, H5, H6, H7, H8, H9, H10, H2, H11, H12, H13, F51, F52, F55, H14, H1, H15, H3, W1, W2, W3. -/
import Derived.Test.YthbicahnhcjkjaaGreatP5
section
namespace GA
open Go Go.RowKit Go.Proofs
set_option pp.deepTerms true
set_option maxRecDepth 8000
set_option linter.unusedVariables false
set_option linter.unusedSimpArgs false

structure Td where
  nt : Bool
  tb : List (Int × Int)
  lo : Int
  hi : Int
  nf : Bool
  fl : List Int
  ns : Bool
  si : List Wy
def tdC (s : Td) : List AV := [.sl s.nt (s.tb.map sgA), .int .i64 s.lo, .int .i64 s.hi, .sl s.nf (ints s.fl), .sl s.ns (s.si.map wyA)]
def tdA (s : Td) : AV := .agg (tdC s)
theorem tdCL {n : Nat} (s : Td) : lowL n (tdC s) = true := by unfold tdC; simp only [lowL, AV.low, lowSg, lowI, lowWy]; rfl
theorem tdL {n : Nat} (s : Td) : (tdA s).low n = true := tdCL s
theorem tdOne (s : Td) : ∀ x ∈ tdC s, x.one = true := by simp [tdC, AV.one]
def tbN (s : Td) (i : Nat) : Int × Int := s.tb.getD i default
structure TdOk (s : Td) : Prop where
  t1 : 2 ≤ s.tb.length
  t2 : s.tb.length ≤ 12
  f1 : 1 ≤ s.fl.length
  f2 : s.fl.length ≤ 8
  s1 : s.si.length ≤ 16
  tm : ∀ w ∈ s.tb, (0 ≤ w.1 ∧ w.1 ≤ 1440) ∧ 0 ≤ w.2 ∧ w.2 ≤ 999
  w1 : -50 ≤ s.lo
  w2 : s.lo ≤ s.hi
  w3 : s.hi ≤ 50
  fh : ∀ n ∈ s.fl, 0 ≤ n ∧ n ≤ 999
  sh : ∀ x ∈ s.si, 0 ≤ x.2.2 ∧ x.2.2 ≤ 999
  or : ∀ i, i + 1 < s.tb.length → (tbN s i).1 < (tbN s (i + 1)).1
  en : ∀ x ∈ s.si, (-1 ≤ x.1 ∧ x.1 < s.fl.length) ∧ -1 ≤ x.2.1 ∧ x.2.1 < s.fl.length
  ne : ∀ x ∈ s.si, x.1 ≠ x.2.1
theorem idxf_tw (nl : Bool) (xs : List (Int × Int)) (g : FuncId) (caps : List AV) (p : (Int × Int) → Bool) (hl : lowL 0 caps = true) (hx : xs.length ≤ 100000) (hp : ∀ x ∈ xs, Comp Tryz.prog g ((sgA x) :: caps) (.bool (p x))) :
    Comp Tryz.prog 106 [.sl nl (xs.map (sgA)), .fn g caps] (.int .i64 (idxR p xs)) := by
  refine Comp.body (T := tab) (res := [.tmp 4]) tab_ok [] Tryz.func106 rfl (by kernel_rfl) Tryz.ntmps106 rfl (by simp only [List.length_cons, List.length_nil]; decide) (by simp only [lowL, AV.low, lowSg, hl]; rfl) ?_; conv => whnf
  refine Walk.loop tab_ok [] (fun i : Nat => i ≤ xs.length ∧ ∀ j, j < i → p (xs.getD j default) = false) (fun i => [(0, .sl nl (xs.map (sgA))), (1, .fn g caps), (7, .int .i64 xs.length), (8, .int .i64 i)]) (fun _ => []) (fun i => xs.length - i) 0 ⟨by omega, by omega⟩ rfl ⟨rfl, rfl, by simp only [List.length_map]; rfl, rfl, trivial⟩ ?_
  rintro i ⟨h2, h3⟩
  conv => whnf
  repeat' first | ((with_reducible apply XBr.dec) <;> (intro h; first | (exfalso; omega) | ((try simp only [List.length_map] at h); first | (exfalso; omega) | (conv => whnf)))) | (((with_reducible refine XIx.nat ?_ ?_ ?_); omega; (intro _; rfl)); conv => whnf) | fail
  · refine XCall.ret (hp _ (getD_mem (i := i) (d := default) (by omega))) ?_
    conv => whnf
    refine XBr.mk' ?_ ?_ <;> intro h4 <;> (conv => whnf)
    · refine XOut.int ?_
      simp only [idxR, find_some (d := default) (i := i) (by omega) h4 h3]
    · skip
      repeat' first | ((with_reducible refine XInt.i64 (by omega) (by omega) ?_); conv => whnf) | fail
      refine XAgain.go (i + 1) ⟨by omega, fun j hj => ?_⟩ (by omega) rfl ⟨rfl, rfl, rfl, rfl, trivial⟩
      by_cases hji : j = i
      · subst hji; exact h4
      · exact h3 j (by omega)
  · refine XOut.int ?_
    simp only [idxR, find_none (d := default) fun j hj => h3 j (by omega)]
theorem contf_tw (nl : Bool) (xs : List (Int × Int)) (g : FuncId) (caps : List AV) (p : (Int × Int) → Bool) (hl : lowL 0 caps = true) (hx : xs.length ≤ 100000) (hp : ∀ x ∈ xs, Comp Tryz.prog g ((sgA x) :: caps) (.bool (p x))) :
    Comp Tryz.prog 69 [.sl nl (xs.map (sgA)), .fn g caps] (.bool (xs.any p)) := by
  refine Comp.body (T := tab) (res := [.tmp 4]) tab_ok [] Tryz.func69 rfl (by kernel_rfl) Tryz.ntmps69 rfl (by simp only [List.length_cons, List.length_nil]; decide) (by simp only [lowL, AV.low, lowSg, hl]; rfl) ?_; conv => whnf
  refine XCall.ret (idxf_tw nl xs g caps p hl hx hp) ?_
  conv => whnf
  refine XOut.bool ?_
  rw [Bool.eq_iff_iff, decide_eq_true_eq]; exact idxR_pos
theorem every1_tw (x : (Int × Int)) (g : FuncId) (caps : List AV) (p : (Int × Int) → Bool) (hl : lowL 0 caps = true) (hp : Comp Tryz.prog g ((sgA x) :: caps) (.bool (p x))) :
    Comp Tryz.prog 70 [(sgA x), .pim [.fn g caps]] (.bool (!p x)) := by
  refine Comp.body (T := tab) (res := [.tmp 3]) tab_ok [] Tryz.func70 rfl (by kernel_rfl) Tryz.ntmps70 rfl (by simp only [List.length_cons, List.length_nil]; decide) (by simp only [lowL, AV.low, sgL, hl]; rfl) ?_; conv => whnf
  refine XCall.ret hp ?_
  conv => whnf
  exact XOut.bool rfl
theorem every_tw (nl : Bool) (xs : List (Int × Int)) (g : FuncId) (caps : List AV) (p : (Int × Int) → Bool) (hl : lowL 0 caps = true) (hx : xs.length ≤ 100000) (hp : ∀ x ∈ xs, Comp Tryz.prog g ((sgA x) :: caps) (.bool (p x))) :
    Comp Tryz.prog 23 [.sl nl (xs.map (sgA)), .fn g caps] (.bool (xs.all p)) := by
  refine Comp.body (T := tab) (res := [.tmp 4]) tab_ok [] Tryz.func23 rfl (by kernel_rfl) Tryz.ntmps23 rfl (by simp only [List.length_cons, List.length_nil]; decide) (by simp only [lowL, AV.low, lowSg, hl]; rfl) ?_; conv => whnf
  refine XCall.ret (contf_tw nl xs 70 [.pim [.fn g caps]] (fun x => !p x) (by simp only [lowL, AV.low, hl]; rfl) hx fun x hm => every1_tw x g caps p hl (hp x hm)) ?_
  conv => whnf
  refine XOut.bool ?_
  rw [List.not_any_eq_all_not]; simp
theorem idxf_tl (nl : Bool) (xs : List Wy) (g : FuncId) (caps : List AV) (p : Wy → Bool) (hl : lowL 0 caps = true) (hx : xs.length ≤ 100000) (hp : ∀ x ∈ xs, Comp Tryz.prog g ((wyA x) :: caps) (.bool (p x))) :
    Comp Tryz.prog 108 [.sl nl (xs.map (wyA)), .fn g caps] (.int .i64 (idxR p xs)) := by
  refine Comp.body (T := tab) (res := [.tmp 4]) tab_ok [] Tryz.func108 rfl (by kernel_rfl) Tryz.ntmps108 rfl (by simp only [List.length_cons, List.length_nil]; decide) (by simp only [lowL, AV.low, lowWy, hl]; rfl) ?_; conv => whnf
  refine Walk.loop tab_ok [] (fun i : Nat => i ≤ xs.length ∧ ∀ j, j < i → p (xs.getD j default) = false) (fun i => [(0, .sl nl (xs.map (wyA))), (1, .fn g caps), (7, .int .i64 xs.length), (8, .int .i64 i)]) (fun _ => []) (fun i => xs.length - i) 0 ⟨by omega, by omega⟩ rfl ⟨rfl, rfl, by simp only [List.length_map]; rfl, rfl, trivial⟩ ?_
  rintro i ⟨h2, h3⟩
  conv => whnf
  repeat' first | ((with_reducible apply XBr.dec) <;> (intro h; first | (exfalso; omega) | ((try simp only [List.length_map] at h); first | (exfalso; omega) | (conv => whnf)))) | (((with_reducible refine XIx.nat ?_ ?_ ?_); omega; (intro _; rfl)); conv => whnf) | fail
  · refine XCall.ret (hp _ (getD_mem (i := i) (d := default) (by omega))) ?_
    conv => whnf
    refine XBr.mk' ?_ ?_ <;> intro h4 <;> (conv => whnf)
    · refine XOut.int ?_
      simp only [idxR, find_some (d := default) (i := i) (by omega) h4 h3]
    · skip
      repeat' first | ((with_reducible refine XInt.i64 (by omega) (by omega) ?_); conv => whnf) | fail
      refine XAgain.go (i + 1) ⟨by omega, fun j hj => ?_⟩ (by omega) rfl ⟨rfl, rfl, rfl, rfl, trivial⟩
      by_cases hji : j = i
      · subst hji; exact h4
      · exact h3 j (by omega)
  · refine XOut.int ?_
    simp only [idxR, find_none (d := default) fun j hj => h3 j (by omega)]
theorem contf_tl (nl : Bool) (xs : List Wy) (g : FuncId) (caps : List AV) (p : Wy → Bool) (hl : lowL 0 caps = true) (hx : xs.length ≤ 100000) (hp : ∀ x ∈ xs, Comp Tryz.prog g ((wyA x) :: caps) (.bool (p x))) :
    Comp Tryz.prog 73 [.sl nl (xs.map (wyA)), .fn g caps] (.bool (xs.any p)) := by
  refine Comp.body (T := tab) (res := [.tmp 4]) tab_ok [] Tryz.func73 rfl (by kernel_rfl) Tryz.ntmps73 rfl (by simp only [List.length_cons, List.length_nil]; decide) (by simp only [lowL, AV.low, lowWy, hl]; rfl) ?_; conv => whnf
  refine XCall.ret (idxf_tl nl xs g caps p hl hx hp) ?_
  conv => whnf
  refine XOut.bool ?_
  rw [Bool.eq_iff_iff, decide_eq_true_eq]; exact idxR_pos
theorem every1_tl (x : Wy) (g : FuncId) (caps : List AV) (p : Wy → Bool) (hl : lowL 0 caps = true) (hp : Comp Tryz.prog g ((wyA x) :: caps) (.bool (p x))) :
    Comp Tryz.prog 74 [(wyA x), .pim [.fn g caps]] (.bool (!p x)) := by
  refine Comp.body (T := tab) (res := [.tmp 3]) tab_ok [] Tryz.func74 rfl (by kernel_rfl) Tryz.ntmps74 rfl (by simp only [List.length_cons, List.length_nil]; decide) (by simp only [lowL, AV.low, wyL, hl]; rfl) ?_; conv => whnf
  refine XCall.ret hp ?_
  conv => whnf
  exact XOut.bool rfl
theorem every_tl (nl : Bool) (xs : List Wy) (g : FuncId) (caps : List AV) (p : Wy → Bool) (hl : lowL 0 caps = true) (hx : xs.length ≤ 100000) (hp : ∀ x ∈ xs, Comp Tryz.prog g ((wyA x) :: caps) (.bool (p x))) :
    Comp Tryz.prog 27 [.sl nl (xs.map (wyA)), .fn g caps] (.bool (xs.all p)) := by
  refine Comp.body (T := tab) (res := [.tmp 4]) tab_ok [] Tryz.func27 rfl (by kernel_rfl) Tryz.ntmps27 rfl (by simp only [List.length_cons, List.length_nil]; decide) (by simp only [lowL, AV.low, lowWy, hl]; rfl) ?_; conv => whnf
  refine XCall.ret (contf_tl nl xs 74 [.pim [.fn g caps]] (fun x => !p x) (by simp only [lowL, AV.low, hl]; rfl) hx fun x hm => every1_tl x g caps p hl (hp x hm)) ?_
  conv => whnf
  refine XOut.bool ?_
  rw [List.not_any_eq_all_not]; simp
theorem everyt1_zi (x : Int) (g : FuncId) (caps : List AV) (p : Int → Bool) (hl : lowL 0 caps = true) (hp : Comp Tryz.prog g ((.int .i64 x) :: caps) (.bool (p x))) :
    Comp Tryz.prog 72 [.int .i64 x, .pim [.fn g caps]] (.bool (!p x)) := by
  refine Comp.body (T := tab) (res := [.tmp 3]) tab_ok [] Tryz.func72 rfl (by kernel_rfl) Tryz.ntmps72 rfl (by simp only [List.length_cons, List.length_nil]; decide) (by simp only [lowL, AV.low, hl]; rfl) ?_; conv => whnf
  refine XCall.ret hp ?_
  conv => whnf
  exact XOut.bool rfl
theorem everyt_zi (nl : Bool) (xs : List Int) (g : FuncId) (caps : List AV) (p : Int → Bool) (hl : lowL 0 caps = true) (hx : xs.length ≤ 100000) (hp : ∀ x ∈ xs, Comp Tryz.prog g ((.int .i64 x) :: caps) (.bool (p x))) :
    Comp Tryz.prog 26 [.sl nl (ints xs), .fn g caps] (.bool (xs.all p)) := by
  refine Comp.body (T := tab) (res := [.tmp 4]) tab_ok [] Tryz.func26 rfl (by kernel_rfl) Tryz.ntmps26 rfl (by simp only [List.length_cons, List.length_nil]; decide) (by simp only [lowL, AV.low, lowI, hl]; rfl) ?_; conv => whnf
  refine XCall.ret (contf_zi nl xs 72 [.pim [.fn g caps]] (fun x => !p x) (by simp only [lowL, AV.low, hl]; rfl) hx fun x hm => everyt1_zi x g caps p hl (hp x hm)) ?_
  conv => whnf
  refine XOut.bool ?_
  rw [List.not_any_eq_all_not]; simp
theorem tiIn_c (n lo hi : Int) : Comp Tryz.prog 22 [.int .i64 n, .int .i64 lo, .int .i64 hi] (.bool (inZ n lo hi)) := by
  refine Comp.body (T := tab) (res := [.tmp 6]) tab_ok [] Tryz.func22 rfl (by kernel_rfl) Tryz.ntmps22 rfl (by simp only [List.length_cons, List.length_nil]; decide) (by rfl) ?_; conv => whnf
  repeat' first | ((first | (with_reducible apply XBr.tt) | (with_reducible apply XBr.ff)); conv => whnf) | ((with_reducible apply XBr.dec) <;> (intro h; first | (exfalso; omega) | ((try simp only [List.length_map] at h); first | (exfalso; omega) | (conv => whnf)))) | fail
  all_goals (refine XOut.bool ?_; rw [Bool.eq_iff_iff]; simp [inZ]; try omega)
theorem tiPlace_c (s : Td) (p : Int) (h1 : s.fl.length ≤ 100000) : Comp Tryz.prog 21 [tdA s, .int .i64 p] (.bool (inZ p 0 ((s.fl.length : Int) - 1))) := by
  have e1 : ((ints s.fl).length : Int) = s.fl.length := by rw [ints_len]
  refine Comp.body (T := tab) (res := [.tmp 4]) tab_ok [] Tryz.func21 rfl (by kernel_rfl) Tryz.ntmps21 rfl (by simp only [List.length_cons, List.length_nil]; decide) (by simp only [lowL, tdL]; rfl) ?_; conv => whnf
  repeat' first | ((first | (with_reducible refine XInt.i64 (by omega) (by omega) ?_) | (refine XCall.ret (tiIn_c _ _ _) ?_)); conv => whnf) | fail
  exact XOut.bool (by rw [e1])
theorem tiHeight_c (n : Int) : Comp Tryz.prog 25 [.int .i64 n] (.bool (inZ n 0 999)) := by
  refine Comp.body (T := tab) (res := [.tmp 2]) tab_ok [] Tryz.func25 rfl (by kernel_rfl) Tryz.ntmps25 rfl (by simp only [List.length_cons, List.length_nil]; decide) (by rfl) ?_; conv => whnf
  repeat' first | ((refine XCall.ret (tiIn_c _ _ _) ?_); conv => whnf) | fail
  exact XOut.bool rfl
theorem tiChk1_c (s : Td) (p : Int) (h1 : s.fl.length ≤ 100000) (hp : -1 ≤ p ∧ p < s.fl.length) : Comp Tryz.prog 20 [.int .i64 p, .pim (tdC s)] (.bool true) := by
  have hc := tiPlace_c s p h1
  by_cases e : p = -1
  · subst e
    refine Comp.body (T := tab) (res := [.tmp 3]) tab_ok [] Tryz.func20 rfl (by kernel_rfl) Tryz.ntmps20 rfl (by simp only [List.length_cons, List.length_nil]; decide) (by simp only [lowL, AV.low, tdCL]; rfl) ?_; conv => whnf
    repeat' first | ((with_reducible apply XBr.tt); conv => whnf) | ((with_reducible apply XBr.beq) <;> (intro h; first | (exfalso; omega) | (conv => whnf))) | fail
    exact XOut.bool rfl
  · rw [inZ_iff.2 (by omega)] at hc
    refine Comp.body (T := tab) (res := [.tmp 3]) tab_ok [] Tryz.func20 rfl (by kernel_rfl) Tryz.ntmps20 rfl (by simp only [List.length_cons, List.length_nil]; decide) (by simp only [lowL, AV.low, tdCL]; rfl) ?_; conv => whnf
    repeat' first | ((with_reducible apply XBr.ff); conv => whnf) | ((with_reducible apply XBr.beq) <;> (intro h; first | (exfalso; omega) | (conv => whnf))) | ((refine XCall.ret hc ?_); conv => whnf) | fail
    exact XOut.bool rfl
theorem tiChk2_c (w : Int × Int) : Comp Tryz.prog 24 [sgA w] (.bool (inZ w.1 0 1440 && inZ w.2 0 999)) := by
  refine Comp.body (T := tab) (res := [.tmp 2]) tab_ok [] Tryz.func24 rfl (by kernel_rfl) Tryz.ntmps24 rfl (by simp only [List.length_cons, List.length_nil]; decide) (by rfl) ?_; conv => whnf
  repeat' first | ((first | (with_reducible apply XBr.tt) | (with_reducible apply XBr.ff) | (refine XCall.ret (tiIn_c _ _ _) ?_) | (refine XCall.ret (tiHeight_c _) ?_)); conv => whnf) | ((with_reducible apply XBr.mk') <;> (intro h; conv => whnf)) | fail
  all_goals (refine XOut.bool ?_; simp_all)
theorem tiChk3_c (w : Wy) : Comp Tryz.prog 28 [wyA w] (.bool (inZ w.2.2 0 999)) := by
  refine Comp.body (T := tab) (res := [.tmp 2]) tab_ok [] Tryz.func28 rfl (by kernel_rfl) Tryz.ntmps28 rfl (by simp only [List.length_cons, List.length_nil]; decide) (by rfl) ?_; conv => whnf
  repeat' first | ((refine XCall.ret (tiHeight_c _) ?_); conv => whnf) | fail
  exact XOut.bool rfl
theorem tiChk4_c (s : Td) (w : Wy) (h1 : s.fl.length ≤ 100000) (hp : (-1 ≤ w.1 ∧ w.1 < s.fl.length) ∧ -1 ≤ w.2.1 ∧ w.2.1 < s.fl.length) : Comp Tryz.prog 30 [wyA w, .pim [.fn 20 [.pim (tdC s)]]] (.bool true) := by
  have c1 := tiChk1_c s w.1 h1 hp.1
  have c2 := tiChk1_c s w.2.1 h1 hp.2
  refine Comp.body (T := tab) (res := [.tmp 3]) tab_ok [] Tryz.func30 rfl (by kernel_rfl) Tryz.ntmps30 rfl (by simp only [List.length_cons, List.length_nil]; decide) (by simp only [lowL, AV.low, tdCL, wyL]; rfl) ?_; conv => whnf
  repeat' first | ((first | (with_reducible apply XBr.tt) | (refine XCall.ret c1 ?_) | (refine XCall.ret c2 ?_)); conv => whnf) | fail
  exact XOut.bool rfl
theorem tiChk5_c (w : Wy) : Comp Tryz.prog 31 [wyA w] (.bool (w.1 != w.2.1)) := by
  refine Comp.body (T := tab) (res := [.tmp 2]) tab_ok [] Tryz.func31 rfl (by kernel_rfl) Tryz.ntmps31 rfl (by simp only [List.length_cons, List.length_nil]; decide) (by rfl) ?_; conv => whnf
  skip
  exact XOut.bool rfl
theorem tiOrd_c (s : Td) (ok : TdOk s) : Comp Tryz.prog 29 [tdA s] (.bool true) := by
  have t1 := ok.t1; have t2 := ok.t2; have w2 := ok.w2
  have e1 : ((s.tb.map sgA).length : Int) = s.tb.length := by rw [List.length_map]
  have e2 : (((s.tb.map sgA).drop 1).length : Int) = s.tb.length - 1 := by rw [List.length_drop, List.length_map]; omega
  have hm : ∀ i, i < s.tb.length → 0 ≤ (tbN s i).1 ∧ (tbN s i).1 ≤ 1440 := fun i hi => (ok.tm _ (getD_mem (d := default) hi)).1
  refine Comp.body (T := tab) (res := [.tmp 2]) tab_ok [] Tryz.func29 rfl (by kernel_rfl) Tryz.ntmps29 rfl (by simp only [List.length_cons, List.length_nil]; decide) (by simp only [lowL, tdL]; rfl) ?_; conv => whnf
  repeat' first | ((refine XHold.mk ⟨by omega, by omega, by omega, .inr (wide_map (f := sgA) (n := 2) (fun _ => rfl) (fun _ => rfl) _)⟩ ?_); conv => whnf) | fail
  refine Walk.loopK tab_ok [] [(1, _), (7, _)] ⟨rfl, rfl, trivial⟩ (fun i : Nat => i + 1 ≤ s.tb.length) (fun i => [(8, natA i)]) (fun _ => []) (fun i => s.tb.length - i) 0 (by omega) rfl ⟨rfl, trivial⟩ ?_
  intro i hi
  have e3 : ((((s.tb.map sgA).drop (1 : Int).toNat).take (((s.tb.map sgA).length : Int) - 1).toNat).length : Int) = s.tb.length - 1 := by rw [List.length_take, List.length_drop, List.length_map]; omega
  conv => whnf
  by_cases hlt : i + 1 < s.tb.length
  · have ho : (s.tb.getD i default).1 < (s.tb.getD ((i : Int) + 1).toNat default).1 := ok.or i hlt
    repeat' first | ((with_reducible apply XBr.dec) <;> (intro h; first | (exfalso; omega) | ((try simp only [List.length_map] at h); first | (exfalso; omega) | (conv => whnf)))) | ((first | (with_reducible refine XInt.i64 (by omega) (by omega) ?_) | ((with_reducible refine XIx.nat ?_ ?_ ?_); omega; (intro _; rfl)) | ((with_reducible refine XIx.map ?_ ?_ ?_ ?_); omega; omega; (intro _; rfl))); conv => whnf) | (with_reducible apply XAnd.mk) | ((first | (with_reducible apply Chk.go) | (with_reducible apply ChkA.go) | (with_reducible apply ChkF.go) | (with_reducible apply ChkB.go)); conv => whnf) | (exact XSame.mk rfl rfl) | (with_reducible exact trivial) | (apply Walk.drawN (id := 4) tab_ok mixed_ok [] [] (hsU _) [_, _, _, _, _, _, _, _, _, _, _, _, _, _] (by kernel_rfl) rfl) | ((with_reducible apply XNext.mk); conv => whnf) | fail
    exact XAgain.go (i + 1) (by omega) (by omega) rfl ⟨rfl, rfl, rfl, trivial⟩
  · skip
    repeat' first | ((with_reducible apply XBr.dec) <;> (intro h; first | (exfalso; omega) | ((try simp only [List.length_map] at h); first | (exfalso; omega) | (conv => whnf)))) | fail
    exact XOut.bool (decide_eq_true w2)
theorem tiCheck_c (s : Td) (ok : TdOk s) : Comp Tryz.prog 6 [tdA s] (.int .i64 0) := by
  have t1 := ok.t1; have t2 := ok.t2; have f1 := ok.f1; have f2 := ok.f2; have s1 := ok.s1; have w1 := ok.w1; have w2 := ok.w2; have w3 := ok.w3
  have e1 : ((s.tb.map sgA).length : Int) = s.tb.length := by rw [List.length_map]
  have e2 : ((ints s.fl).length : Int) = s.fl.length := by rw [ints_len]
  have e3 : ((s.si.map wyA).length : Int) = s.si.length := by rw [List.length_map]
  have ho := tiOrd_c s ok
  have c2 := every_tw s.nt s.tb 24 [] (fun w => inZ w.1 0 1440 && inZ w.2 0 999) rfl (by omega) fun w _ => tiChk2_c w
  have c0 := everyt_zi s.nf s.fl 25 [] (fun n => inZ n 0 999) rfl (by omega) fun n _ => tiHeight_c n
  have c3 := every_tl s.ns s.si 28 [] (fun w => inZ w.2.2 0 999) rfl (by omega) fun w _ => tiChk3_c w
  have c4 := every_tl s.ns s.si 30 [.pim [.fn 20 [.pim (tdC s)]]] (fun _ => true) (by simp only [lowL, AV.low, tdCL]; rfl) (by omega) fun w hw => tiChk4_c s w (by omega) (ok.en w hw)
  have c5 := every_tl s.ns s.si 31 [] (fun w => w.1 != w.2.1) rfl (by omega) fun w _ => tiChk5_c w
  rw [List.all_eq_true.2 fun w hw => by have := ok.tm w hw; rw [Bool.and_eq_true, inZ_iff, inZ_iff]; omega] at c2
  rw [List.all_eq_true.2 fun n hn => inZ_iff.2 (ok.fh n hn)] at c0
  rw [List.all_eq_true.2 fun w hw => inZ_iff.2 (ok.sh w hw)] at c3
  rw [List.all_eq_true.2 fun w hw => rfl] at c4
  rw [List.all_eq_true.2 fun w hw => by have := ok.ne w hw; simpa using this] at c5
  have i1 := tiIn_c ((s.tb.map sgA).length : Int) 2 12
  have i2 := tiIn_c ((ints s.fl).length : Int) 1 8
  have i3 := tiIn_c s.lo (-50) 50
  have i4 := tiIn_c s.hi (-50) 50
  rw [inZ_iff.2 (by omega)] at i1 i2 i3 i4
  have hlo : (AV.fn 20 [.pim (tdC s)]).low 0 = true := by simp only [AV.low, lowL, tdCL]; rfl
  refine Comp.body (T := tab) (res := [.tmp 2]) tab_ok [] Tryz.func6 rfl (by kernel_rfl) Tryz.ntmps6 rfl (by simp only [List.length_cons, List.length_nil]; decide) (by simp only [lowL, tdL]; rfl) ?_; conv => whnf
  repeat' first | ((first | (with_reducible apply XBr.tt) | (with_reducible apply XBr.ff)); conv => whnf) | (with_reducible apply XBr.not) | ((with_reducible apply XBr.dec) <;> (intro h; first | (exfalso; omega) | ((try simp only [List.length_map] at h); first | (exfalso; omega) | (conv => whnf)))) | ((first | (refine XCall.ret i1 ?_) | (refine XCall.ret i2 ?_) | (refine XCall.ret i3 ?_) | (refine XCall.ret i4 ?_) | (refine XCall.ret c2 ?_) | (refine XCall.ret c0 ?_) | (refine XCall.ret c3 ?_) | (refine XCall.ret ho ?_) | (refine XCall.lend c4 (.cons (.low (lowWy _)) (.cons (Froz.fn (.cons (Froz.ptr rfl (one1 rfl) (.cons (.low hlo) .nil)) .nil)) .nil)) rfl ?_) | (refine XCall.ret c5 ?_)); conv => whnf) | fail
  exact XOut.int rfl
end GA
end

section
namespace GA
open Go Go.RowKit Go.Proofs
set_option pp.deepTerms true
set_option maxRecDepth 8000
set_option linter.unusedVariables false
set_option linter.unusedSimpArgs false

def Lent1 (f : FuncId) (qs : List AV) (b b' : List AV) (r : AV) : Prop :=
  (lowL 0 qs = true ∧ lowL 0 b = true ∧ lowL 0 b' = true ∧ r.low 0 = true) ∧ ACall Tryz.prog f (.ptr 0 0 :: qs) [.cells b] fun r' H' => r' = r ∧ H' = [.cells b']
theorem Blk.ren_low0 {f : Nat → Nat} {b : Blk} (h : b.low 0 = true) : b.ren f = b := Blk.ren_low (n := 0) (fun i hi => by omega) h
theorem XCall.lent1 {f : FuncId} {qs : List AV} {b b' : List AV} {r : AV} (x : Lent1 f qs b b' r) {H : List Blk} {k : AV → List Blk → Prop} {j : Nat} (h0 : lget H j = some (.cells b)) (hk : k r (H.set j (.cells b'))) : XCall Tryz.prog f (.ptr j 0 :: qs) H k := by
  obtain ⟨⟨q1, q2, q3, q4⟩, x⟩ := x
  constructor
  have e := ACall.frame (ρ := fun i => j + i) (H := H) (k := k) x (fun a b _ _ h => by have : j + a = j + b := h; omega) ?_ (fun y hy => by simp at hy; subst hy; exact (lowL_mono (Nat.zero_le _) q2 : lowL _ b = true)) ?_ ?_
  · have hd : renL (fun i => j + i) qs = qs := renL_low0 q1
    rw [List.map_cons, ← renL_eq, hd] at e
    exact e
  · intro i x1 hi
    rw [lget_eq] at h0
    rcases i with _ | i
    · simp only [List.getElem?_cons_zero, Option.some.injEq] at hi; subst hi
      rw [Blk.ren_low0 (b := .cells b) q2]; exact h0
    · simp at hi
  · simp only [lowL, AV.low, lowL_mono (Nat.zero_le _) q1]; rfl
  · rintro r1 H1' ⟨rfl, rfl⟩
    rw [lget_eq] at h0
    have hj := (List.getElem?_eq_some_iff.1 h0).1
    refine ⟨rfl, H.set j (.cells b'), by simp, fun i x1 hi => ?_, fun q hq => ?_, ?_⟩
    · rcases i with _ | i
      · simp only [List.getElem?_cons_zero, Option.some.injEq] at hi; subst hi
        rw [Blk.ren_low0 (b := .cells b') q3]; simp [hj]
      · simp at hi
    · exact List.getElem?_set_ne (by have := hq 0 (by simp); simpa using this)
    · rw [AV.ren_low (n := 0) (fun i hi => by omega) q4]; exact hk
def gdC (s : Td) (F : Nat → Int) : List AV := tdC s ++ (vecF 8 F).map (.int .i64)
theorem gdCL {n : Nat} (s : Td) (F : Nat → Int) : lowL n (gdC s F) = true := by
  rw [lowL_iff]
  intro x hx
  rcases List.mem_append.1 hx with h | h
  · exact lowL_iff.1 (tdCL s) x h
  · obtain ⟨z, -, rfl⟩ := List.mem_map.1 h; rfl
theorem gd_at (s : Td) (F : Nat → Int) {j : Nat} (hj : j < 8) : (gdC s F)[5 + j]? = some (.int .i64 (F j)) := by
  unfold gdC
  rw [List.getElem?_append_right (by show 5 ≤ 5 + j; omega), show 5 + j - (tdC s).length = j by show 5 + j - 5 = j; omega]
  exact vec_at (f := AV.int .i64) hj
theorem gd_len (s : Td) (F : Nat → Int) : (gdC s F).length = 13 := by unfold gdC; rw [List.length_append, List.length_map, vecF_len]; rfl
theorem gd_set (s : Td) (F : Nat → Int) {j : Nat} {v : Int} : (gdC s F).set (5 + j) (.int .i64 v) = gdC s (updV F j v) := by
  unfold gdC
  rw [List.set_append_right _ _ (by show 5 ≤ 5 + j; omega), show 5 + j - (tdC s).length = j by show 5 + j - 5 = j; omega, ← List.map_set, vecF_set]
theorem xsplA {v : AV} : ∀ {c : List AV} {o : Nat} {k : List AV → Prop}, o < c.length → k (c.set o v) → xspl c o [v] k
  | [], o, k, hh, _ => by simp at hh
  | x :: c, 0, k, hh, hk => by
    show xspl c 0 [] fun l => k (v :: l)
    cases c <;> exact hk
  | x :: c, o + 1, k, hh, hk => xsplA (c := c) (o := o) (k := fun l => k (x :: l)) (by simpa using hh) hk
theorem xspl_gd {s : Td} {F : Nat → Int} {o : Nat} {v : Int} {k : List AV → Prop} (j : Nat) (ho : o = 5 + j) (hj : j < 8) (hk : k (gdC s (updV F j v))) : xspl (gdC s F) o [.int .i64 v] k := by
  subst ho
  refine xsplA (by rw [gd_len]; omega) ?_
  rw [gd_set]; exact hk
theorem xdrop_gd {s : Td} {F : Nat → Int} {o : Nat} {k : List AV → Prop} (j : Nat) (ho : o = 5 + j) (hj : j < 8) (hk : k (.int .i64 (F j) :: (gdC s F).drop (5 + j + 1))) : xdrop o (gdC s F) k := by
  subst ho
  exact xdrop_at _ (gd_at s F hj) hk
theorem tiHighest_c (a b c : Int) : Comp Tryz.prog 111 [.int .i64 a, .sl false [.int .i64 b, .int .i64 c]] (.int .i64 (max (max a b) c)) := by
  have e0 : (([AV.int .i64 b, AV.int .i64 c] : List AV).length : Int) = 2 := rfl
  refine Comp.body (T := tab) (res := [.tmp 4]) tab_ok [] Tryz.func111 rfl (by kernel_rfl) Tryz.ntmps111 rfl (by simp only [List.length_cons, List.length_nil]; decide) (by rfl) ?_; conv => whnf
  skip
  refine Walk.loopK tab_ok [] [(4, _), (7, _), (8, _)] ⟨rfl, rfl, rfl, trivial⟩ (fun i : Nat => i ≤ 2) (fun i => [(0, .int .i64 (match i with | 0 => a | 1 => max a b | _ => max (max a b) c)), (9, natA i)]) (fun _ => []) (fun i => 2 - i) 0 (by omega) rfl ⟨rfl, rfl, trivial⟩ ?_
  intro i hi
  have hc : i = 0 ∨ i = 1 ∨ i = 2 := by omega
  rcases hc with rfl | rfl | rfl
  · conv => whnf
    repeat' first | ((with_reducible first | refine XBr.y fun h => ?_ | refine XBr.n fun h => ?_ | refine XBr.dec (fun h => ?_) fun h => ?_ | refine XInt.a ?_) <;> conv => whnf) | ((refine XIx.mk (by decide) (show (0 : Int) < 2 by decide) rfl ?_); conv => whnf) | fail
    exact XAgain.go 1 (by omega) (by omega) rfl ⟨rfl, rfl, rfl, rfl, rfl, trivial⟩
  · conv => whnf
    repeat' first | ((with_reducible first | refine XBr.y fun h => ?_ | refine XBr.n fun h => ?_ | refine XBr.dec (fun h => ?_) fun h => ?_ | refine XInt.a ?_) <;> conv => whnf) | ((refine XIx.mk (by decide) (show (1 : Int) < 2 by decide) rfl ?_); conv => whnf) | fail
    exact XAgain.go 2 (by omega) (by omega) rfl ⟨rfl, rfl, rfl, rfl, rfl, trivial⟩
  · conv => whnf
    repeat' ((with_reducible first | refine XBr.y fun h => ?_ | refine XBr.n fun h => ?_ | refine XBr.dec (fun h => ?_) fun h => ?_) <;> conv => whnf)
    exact XOut.int rfl
def lowQ (s : Td) (v h q : Int) (F : Nat → Int) : Nat → Int := if q = -1 then F else updV F q.toNat (min (F q.toNat) (max (max v h) (s.fl.getD q.toNat default)))
def lowX (s : Td) (p v : Int) (x : Wy) (F : Nat → Int) : Nat → Int :=
  let F1 := if x.1 = p then lowQ s v x.2.2 x.2.1 F else F
  if x.2.1 = p then lowQ s v x.2.2 x.1 F1 else F1
def lowK (s : Td) (p v : Int) (F : Nat → Int) : Nat → Nat → Int
  | 0 => F
  | k + 1 => lowX s p v (s.si.getD k default) (lowK s p v F k)
def lowF (s : Td) (p v : Int) (F : Nat → Int) : Nat → Int := lowK s p v F s.si.length
end GA
end

section
namespace GA
open Go Go.RowKit Go.Proofs
set_option pp.deepTerms true
set_option maxRecDepth 8000
set_option linter.unusedVariables false
set_option linter.unusedSimpArgs false

set_option maxHeartbeats 1000000 in
theorem tiLower_c (s : Td) (ok : TdOk s) (p v : Int) (F : Nat → Int) : Lent1 76 [.int .i64 p, .int .i64 v] (gdC s F) (gdC s (lowF s p v F)) (.tup []) := by
  have f2 := ok.f2; have s1 := ok.s1
  have e1 : ((s.si.map wyA).length : Int) = s.si.length := by rw [List.length_map]
  have e2 : ((ints s.fl).length : Int) = s.fl.length := by rw [ints_len]
  refine ⟨⟨rfl, gdCL _ _, gdCL _ _, rfl⟩, ?_⟩
  refine ACall.bodyN (T := tab) (res := []) tab_ok [] Tryz.func76 rfl (by kernel_rfl) Tryz.ntmps76 rfl (by simp only [List.length_cons, List.length_nil]; decide) ⟨rfl, rfl⟩ ?_; conv => whnf
  repeat' (refine XCall.inl (T := tab) (res := [.tmp 4]) tab_ok [] Tryz.func110 rfl (by kernel_rfl) Tryz.ntmps110 rfl (by simp only [List.length_append, List.length_cons, List.length_nil]; decide) ?_; conv => whnf)
  refine Walk.range (own := []) tab_ok [(3, .pim [.ptr 0 0]), (5, .pim [.int .i64 v])] rfl ⟨rfl, rfl, trivial⟩ ?_
  intro fn
  refine XCall.inl (T := tab) (res := []) tab_ok [] Tryz.func127 rfl (by kernel_rfl) Tryz.ntmps127 rfl (by simp only [List.length_append, List.length_cons, List.length_nil]; decide) ?_; conv => whnf
  skip
  refine Walk.loopGKL tab_ok [] _ [(0, _), (2, _), (10, _), (11, _)] ⟨rfl, rfl, rfl, rfl, trivial⟩ (fun k : Nat => k ≤ s.si.length) (fun k => [(12, natA k)]) (fun lp k => [.cells (gdC s (lowK s p v F k)), .raw (.deferred (some [])), lp]) (fun k => s.si.length - k) 0 (Nat.zero_le _) rfl ⟨rfl, trivial⟩ ?_ (fun _ _ => (show (3 : Nat) ≤ 3 from Nat.le_refl 3)) ?_
  · intro k _
    refine ⟨fun z hz => ?_, fun z hz => ?_⟩
    · show z.low 3 = true
      simp only [List.mem_cons, List.not_mem_nil, or_false] at hz
      rcases hz with rfl | rfl | rfl
      · exact gdCL _ _
      · rfl
      · rfl
    · show z.2.low 3 = true
      simp only [List.cons_append, List.nil_append, List.mem_cons, List.not_mem_nil, or_false] at hz
      rcases hz with rfl | rfl | rfl | rfl | rfl <;> first | rfl | exact lowWy _
  intro k hk
  conv => whnf
  by_cases hlt : k < s.si.length
  · have hen := ok.en _ (getD_mem (xs := s.si) (d := default) hlt)
    have hne := ok.ne _ (getD_mem (xs := s.si) (d := default) hlt)
    have hnx : lowK s p v F (k + 1) = lowX s p v (s.si.getD k default) (lowK s p v F k) := rfl
    generalize lowK s p v F k = G at hnx
    unfold lowX at hnx
    by_cases c1 : (s.si.getD k default).1 = p
    · have c2 : ¬ (s.si.getD k default).2.1 = p := fun e => hne (c1.trans e.symm)
      rw [if_pos c1, if_neg c2] at hnx
      unfold lowQ at hnx
      by_cases c3 : (s.si.getD k default).2.1 = -1
      · rw [if_pos c3] at hnx
        repeat' first | ((with_reducible first | refine XBr.y fun h => ?_ | refine XBr.n fun h => ?_ | refine XBr.dec (fun h => ?_) fun h => ?_) <;> conv => whnf) | (refine XIx.a ?_; conv => whnf) | fail
        refine Walk.norm tab_ok [] [(0, _), (2, _), (4, _), (5, _), (10, _), (11, _), (12, _)] ⟨rfl, rfl, rfl, rfl, rfl, rfl, rfl, trivial⟩ ?_
        conv => whnf
        repeat' first | ((with_reducible first | apply XBr.tt | apply XBr.ff | refine XBr.y1 fun h => ?_ | refine XBr.n1 fun h => ?_ | refine XBr.beq (fun h => ?_) fun h => ?_ | refine XBr.y2 fun h => ?_ | refine XBr.n2 fun h => ?_ | refine XBr.bne (fun h => ?_) fun h => ?_ | refine XInt.a ?_) <;> conv => whnf) | with_reducible apply XBr.not | (((refine XYield.go (own := []) tab_ok rfl rfl (by decide) ?_); intro ρ); conv => whnf) | fail
        exact XAgainG.go (k + 1) [_] (by omega) (by omega) (by rw [hnx]; rfl) ⟨rfl, rfl, rfl, rfl, rfl, trivial⟩
      · rw [if_neg c3] at hnx
        repeat' first | ((with_reducible first | refine XBr.y fun h => ?_ | refine XBr.n fun h => ?_ | refine XBr.dec (fun h => ?_) fun h => ?_) <;> conv => whnf) | (refine XIx.a ?_; conv => whnf) | fail
        refine Walk.norm tab_ok [] [(0, _), (2, _), (4, _), (5, _), (10, _), (11, _), (12, _)] ⟨rfl, rfl, rfl, rfl, rfl, rfl, rfl, trivial⟩ ?_
        conv => whnf
        repeat' first | ((with_reducible first | apply XBr.tt | apply XBr.ff | refine XBr.y1 fun h => ?_ | refine XBr.n1 fun h => ?_ | refine XBr.beq (fun h => ?_) fun h => ?_ | refine XBr.y2 fun h => ?_ | refine XBr.n2 fun h => ?_ | refine XBr.bne (fun h => ?_) fun h => ?_ | refine XInt.a ?_ | apply Chk.go | apply ChkA.go | apply ChkF.go | apply ChkB.go | apply XNext.mk) <;> conv => whnf) | ((first | refine XHold.a ?_ | refine XIx.a ?_ | refine XIx.b ?_); conv => whnf) | (with_reducible first | apply XBr.not | apply XAnd.mk | exact trivial) | (exact XSame.mk rfl rfl) | ((first | ((with_reducible refine XArr.ptr ?_ ?_ ?_); omega; omega) | ((refine XYield.go (own := []) tab_ok rfl rfl (by decide) ?_); intro ρ)); conv => whnf) | (apply Walk.drawN (id := 5) tab_ok mixed_ok [] [32] (hsC [_, _]) [_, _, _, _, _, _, _, _, _, _, _, _, _, _, _, _, _, _, _, _, _, _, _, _, _, _, _, _, _, _, _, _, _] (by kernel_rfl) rfl) | ((first | refine XCall.ret (tiHighest_c _ _ _) ?_ | (first | refine xdrop_gd (s.si.getD k default).2.1.toNat (by omega) (by omega) ?_ | refine xdrop_gd (s.si.getD k default).1.toNat (by omega) (by omega) ?_) | (first | refine xspl_gd (s.si.getD k default).2.1.toNat (by omega) (by omega) ?_ | refine xspl_gd (s.si.getD k default).1.toNat (by omega) (by omega) ?_)); conv => whnf) | fail
        exact XAgainG.go (k + 1) [_] (by omega) (by omega) (by rw [hnx]; rfl) ⟨rfl, rfl, rfl, rfl, rfl, trivial⟩
    · rw [if_neg c1] at hnx
      by_cases c2 : (s.si.getD k default).2.1 = p
      · rw [if_pos c2] at hnx
        unfold lowQ at hnx
        by_cases c3 : (s.si.getD k default).1 = -1
        · rw [if_pos c3] at hnx
          repeat' first | ((with_reducible first | refine XBr.y fun h => ?_ | refine XBr.n fun h => ?_ | refine XBr.dec (fun h => ?_) fun h => ?_) <;> conv => whnf) | (refine XIx.a ?_; conv => whnf) | fail
          refine Walk.norm tab_ok [] [(0, _), (2, _), (4, _), (5, _), (10, _), (11, _), (12, _)] ⟨rfl, rfl, rfl, rfl, rfl, rfl, rfl, trivial⟩ ?_
          conv => whnf
          repeat' first | ((with_reducible first | apply XBr.tt | apply XBr.ff | refine XBr.y1 fun h => ?_ | refine XBr.n1 fun h => ?_ | refine XBr.beq (fun h => ?_) fun h => ?_ | refine XBr.y2 fun h => ?_ | refine XBr.n2 fun h => ?_ | refine XBr.bne (fun h => ?_) fun h => ?_ | refine XInt.a ?_) <;> conv => whnf) | with_reducible apply XBr.not | (((refine XYield.go (own := []) tab_ok rfl rfl (by decide) ?_); intro ρ); conv => whnf) | fail
          exact XAgainG.go (k + 1) [_] (by omega) (by omega) (by rw [hnx]; rfl) ⟨rfl, rfl, rfl, rfl, rfl, trivial⟩
        · rw [if_neg c3] at hnx
          repeat' first | ((with_reducible first | refine XBr.y fun h => ?_ | refine XBr.n fun h => ?_ | refine XBr.dec (fun h => ?_) fun h => ?_) <;> conv => whnf) | (refine XIx.a ?_; conv => whnf) | fail
          refine Walk.norm tab_ok [] [(0, _), (2, _), (4, _), (5, _), (10, _), (11, _), (12, _)] ⟨rfl, rfl, rfl, rfl, rfl, rfl, rfl, trivial⟩ ?_
          conv => whnf
          repeat' first | ((with_reducible first | apply XBr.tt | apply XBr.ff | refine XBr.y1 fun h => ?_ | refine XBr.n1 fun h => ?_ | refine XBr.beq (fun h => ?_) fun h => ?_ | refine XBr.y2 fun h => ?_ | refine XBr.n2 fun h => ?_ | refine XBr.bne (fun h => ?_) fun h => ?_ | refine XInt.a ?_ | apply Chk.go | apply ChkA.go | apply ChkF.go | apply ChkB.go | apply XNext.mk) <;> conv => whnf) | ((first | refine XHold.a ?_ | refine XIx.a ?_ | refine XIx.b ?_); conv => whnf) | (with_reducible first | apply XBr.not | apply XAnd.mk | exact trivial) | (exact XSame.mk rfl rfl) | ((first | ((with_reducible refine XArr.ptr ?_ ?_ ?_); omega; omega) | ((refine XYield.go (own := []) tab_ok rfl rfl (by decide) ?_); intro ρ)); conv => whnf) | (apply Walk.drawN (id := 5) tab_ok mixed_ok [] [32] (hsC [_, _]) [_, _, _, _, _, _, _, _, _, _, _, _, _, _, _, _, _, _, _, _, _, _, _, _, _, _, _, _, _, _, _, _, _] (by kernel_rfl) rfl) | ((first | refine XCall.ret (tiHighest_c _ _ _) ?_ | (first | refine xdrop_gd (s.si.getD k default).2.1.toNat (by omega) (by omega) ?_ | refine xdrop_gd (s.si.getD k default).1.toNat (by omega) (by omega) ?_) | (first | refine xspl_gd (s.si.getD k default).2.1.toNat (by omega) (by omega) ?_ | refine xspl_gd (s.si.getD k default).1.toNat (by omega) (by omega) ?_)); conv => whnf) | fail
          exact XAgainG.go (k + 1) [_] (by omega) (by omega) (by rw [hnx]; rfl) ⟨rfl, rfl, rfl, rfl, rfl, trivial⟩
      · rw [if_neg c2] at hnx
        repeat' first | ((with_reducible first | refine XBr.y fun h => ?_ | refine XBr.n fun h => ?_ | refine XBr.dec (fun h => ?_) fun h => ?_) <;> conv => whnf) | (refine XIx.a ?_; conv => whnf) | fail
        refine Walk.norm tab_ok [] [(0, _), (2, _), (4, _), (5, _), (10, _), (11, _), (12, _)] ⟨rfl, rfl, rfl, rfl, rfl, rfl, rfl, trivial⟩ ?_
        conv => whnf
        repeat' ((with_reducible first | apply XBr.ff | refine XBr.y1 fun h => ?_ | refine XBr.n1 fun h => ?_ | refine XBr.beq (fun h => ?_) fun h => ?_ | refine XInt.a ?_) <;> conv => whnf)
        exact XAgainG.go (k + 1) [_] (by omega) (by omega) (by rw [hnx]; rfl) ⟨rfl, rfl, rfl, rfl, rfl, trivial⟩
  obtain rfl : k = s.si.length := by omega
  repeat' ((with_reducible first | refine XBr.y fun h => ?_ | refine XBr.n fun h => ?_ | refine XBr.dec (fun h => ?_) fun h => ?_) <;> conv => whnf)
  exact ⟨rfl, rfl, fun y hy => by rw [List.mem_singleton] at hy; subst hy; exact gdCL _ _, FrozN.low rfl⟩
end GA
end

section
namespace GA
open Go Go.RowKit Go.Proofs
set_option pp.deepTerms true
set_option maxRecDepth 8000
set_option linter.unusedVariables false
set_option linter.unusedSimpArgs false

theorem fl_ge {s : Td} (ok : TdOk s) (j : Nat) : 0 ≤ s.fl.getD j default := by
  by_cases h : j < s.fl.length
  · exact (ok.fh _ (getD_mem (d := default) h)).1
  · rw [List.getD_eq_getElem?_getD, List.getElem?_eq_none (by omega)]; decide
def Lwr (F G : Nat → Int) : Prop := ∀ j, 0 ≤ G j ∧ G j ≤ F j
theorem Lwr.refl {F : Nat → Int} (h : ∀ j, 0 ≤ F j) : Lwr F F := fun j => ⟨h j, Int.le_refl _⟩
theorem Lwr.trans {F G H : Nat → Int} (h1 : Lwr F G) (h2 : Lwr G H) : Lwr F H := fun j => ⟨(h2 j).1, Int.le_trans (h2 j).2 (h1 j).2⟩
theorem lowQ_dn {s : Td} (ok : TdOk s) {v h q : Int} {F : Nat → Int} (hF : ∀ j, 0 ≤ F j) : Lwr F (lowQ s v h q F) := by
  unfold lowQ
  split
  · exact .refl hF
  · intro j
    unfold updV
    have := fl_ge ok q.toNat
    by_cases e : j = q.toNat
    · rw [if_pos e]; subst e; have := hF q.toNat; omega
    · rw [if_neg e]; exact ⟨hF j, Int.le_refl _⟩
theorem lowX_dn {s : Td} (ok : TdOk s) {p v : Int} {x : Wy} {F : Nat → Int} (hF : ∀ j, 0 ≤ F j) : Lwr F (lowX s p v x F) := by
  unfold lowX
  have h1 : Lwr F (if x.1 = p then lowQ s v x.2.2 x.2.1 F else F) := by split <;> first | exact lowQ_dn ok hF | exact .refl hF
  generalize (if x.1 = p then lowQ s v x.2.2 x.2.1 F else F) = F1 at h1
  dsimp only
  split
  · exact h1.trans (lowQ_dn ok fun j => (h1 j).1)
  · exact h1
theorem lowK_dn {s : Td} (ok : TdOk s) {p v : Int} {F : Nat → Int} (hF : ∀ j, 0 ≤ F j) : ∀ k, Lwr F (lowK s p v F k)
  | 0 => .refl hF
  | k + 1 => (lowK_dn ok hF k).trans (lowX_dn ok fun j => (lowK_dn ok hF k j).1)
theorem lowF_dn {s : Td} (ok : TdOk s) {p v : Int} {F : Nat → Int} (hF : ∀ j, 0 ≤ F j) : Lwr F (lowF s p v F) := lowK_dn ok hF _
def rndK (s : Td) (F : Nat → Int) : Nat → Nat → Int
  | 0 => lowF s (-1) 0 F
  | k + 1 => lowF s k (rndK s F k k) (rndK s F k)
def rndF (s : Td) (F : Nat → Int) : Nat → Int := rndK s F s.fl.length
theorem rndK_dn {s : Td} (ok : TdOk s) {F : Nat → Int} (hF : ∀ j, 0 ≤ F j) : ∀ k, Lwr F (rndK s F k)
  | 0 => lowF_dn ok hF
  | k + 1 => (rndK_dn ok hF k).trans (lowF_dn ok fun j => (rndK_dn ok hF k j).1)
def gtK (s : Td) : Nat → Nat → Int
  | 0 => fun _ => 1000
  | r + 1 => rndF s (gtK s r)
theorem gtK_ge {s : Td} (ok : TdOk s) : ∀ r j, 0 ≤ gtK s r j
  | 0, _ => by show (0 : Int) ≤ 1000; decide
  | r + 1, j => (rndK_dn ok (gtK_ge ok r) s.fl.length j).1
def sumG (F : Nat → Int) : Nat → Nat
  | 0 => 0
  | k + 1 => sumG F k + (F k).toNat
theorem sumG_le {F G : Nat → Int} (h : Lwr F G) : ∀ k, sumG G k ≤ sumG F k
  | 0 => Nat.le_refl _
  | k + 1 => by
    have := sumG_le h k
    have := h k
    show sumG G k + (G k).toNat ≤ sumG F k + (F k).toNat
    omega
theorem sumG_lt {F G : Nat → Int} (h : Lwr F G) : ∀ {k : Nat}, vecF k F ≠ vecF k G → sumG G k < sumG F k
  | 0, hn => absurd (by rw [vecF_eq, vecF_eq]; rfl) hn
  | k + 1, hn => by
    show sumG G k + (G k).toNat < sumG F k + (F k).toNat
    have hk := h k
    have := sumG_le h k
    by_cases e : vecF k F = vecF k G
    · have hne : F k ≠ G k := fun e2 => hn (vecF_congr fun i hi => by
        by_cases hik : i = k
        · subst hik; exact e2
        · have e3 := congrArg (fun l => l.getD i 0) e
          rwa [vecF_get 0 (by omega), vecF_get 0 (by omega)] at e3)
      omega
    · have := sumG_lt h e
      omega
theorem least_ex {P : Nat → Prop} : ∀ n, P n → ∃ m, P m ∧ ∀ k, k < m → ¬ P k := by
  intro n
  induction n using Nat.strongRecOn with
  | ind n ih =>
    intro h
    by_cases hc : ∃ k, k < n ∧ P k
    · obtain ⟨k, h1, h2⟩ := hc; exact ih k h1 h2
    · exact ⟨n, h, fun k hk hp => hc ⟨k, hk, hp⟩⟩
def stb (s : Td) (r : Nat) : Prop := vecF 8 (gtK s (r + 1)) = vecF 8 (gtK s r)
theorem stb_ex {s : Td} (ok : TdOk s) : ∃ r, stb s r ∧ ∀ k, k < r → ¬ stb s k := by
  refine Classical.byContradiction fun hn => ?_
  have hall : ∀ r, ¬ stb s r := fun r hr => hn (least_ex r hr)
  have hd : ∀ r, sumG (gtK s r) 8 + r ≤ sumG (gtK s 0) 8 := by
    intro r
    induction r with
    | zero => exact Nat.le_refl _
    | succ r ih =>
      have := sumG_lt (k := 8) (rndK_dn ok (gtK_ge ok r) s.fl.length) (fun e => hall r e.symm)
      have e : gtK s (r + 1) = rndK s (gtK s r) s.fl.length := rfl
      rw [e]; omega
  have := hd (sumG (gtK s 0) 8 + 1)
  omega
theorem vec0 : [AV.int .i64 0, .int .i64 0, .int .i64 0, .int .i64 0, .int .i64 0, .int .i64 0, .int .i64 0, .int .i64 0] = (vecF 8 fun j => if j < 0 then (1000 : Int) else 0).map (AV.int .i64) := by
  rw [vecF_eq]; rfl
theorem fst1000 (s : Td) : gdC s (fun j => if j < 8 then 1000 else 0) = gdC s (gtK s 0) := by
  unfold gdC
  rw [vecF_congr (G := gtK s 0) fun i hi => by rw [if_pos hi]; rfl]
theorem gdOne {s : Td} {F : Nat → Int} : ∀ x ∈ gdC s F, x.one = true := fun x hx => by
  rcases List.mem_append.1 hx with h | h
  · exact tdOne s x h
  · obtain ⟨z, -, rfl⟩ := List.mem_map.1 h; rfl
set_option maxHeartbeats 1000000 in
theorem tiOpened_c (s : Td) (ok : TdOk s) (r : Nat) (hst : stb s r) (hmin : ∀ k, k < r → ¬ stb s k) : Comp Tryz.prog 33 [tdA s] (.tup [.pim (gdC s (gtK s r)), .int .i64 0]) := by
  have hc := tiCheck_c s ok
  have f2 := ok.f2
  have e2 : ((ints s.fl).length : Int) = s.fl.length := by rw [ints_len]
  refine Comp.body (T := tab) (res := [.tmp 2, .tmp 3]) tab_ok [16] Tryz.func33 rfl (by kernel_rfl) Tryz.ntmps33 rfl (by simp only [List.length_cons, List.length_nil]; decide) (by simp only [lowL, tdL]; rfl) ?_; conv => whnf
  repeat' first | ((with_reducible first | refine XBr.y2 fun h => ?_ | refine XBr.n2 fun h => ?_ | refine XBr.bne (fun h => ?_) fun h => ?_) <;> conv => whnf) | ((refine XCall.ret hc ?_); conv => whnf) | fail
  refine Walk.loopK tab_ok [] [(1, _), (2, _), (3, _), (5, _)] ⟨rfl, rfl, rfl, rfl, trivial⟩ (fun k : Nat => k ≤ 8) (fun k => [(17, natA k)]) (fun k => [.cells (gdC s fun j => if j < k then 1000 else 0)]) (fun k => 8 - k) 0 (Nat.zero_le _) (by unfold gdC; rw [← vec0]; rfl) ⟨rfl, trivial⟩ ?_
  intro k hk
  conv => whnf
  by_cases hlt : k < 8
  · skip
    repeat' first | ((with_reducible first | refine XBr.y fun h => ?_ | refine XBr.n fun h => ?_ | refine XBr.dec (fun h => ?_) fun h => ?_ | refine XInt.a ?_) <;> conv => whnf) | ((first | ((with_reducible refine XArr.ptr ?_ ?_ ?_); omega; omega) | (refine xspl_gd k (by omega) (by omega) ?_)); conv => whnf) | fail
    refine XAgain.go (k + 1) (by omega) (by omega) ?_ ⟨rfl, rfl, rfl, rfl, rfl, trivial⟩
    refine congrArg (fun F => [Blk.cells (gdC s F)]) (funext fun j => ?_)
    unfold updV
    dsimp only
    by_cases e : j = k
    · rw [if_pos e, if_pos (by omega)]
    · rw [if_neg e]
      by_cases h2 : j < k
      · rw [if_pos h2, if_pos (by omega)]
      · rw [if_neg h2, if_neg (by omega)]
  obtain rfl : k = 8 := by omega
  rw [fst1000]
  repeat' ((with_reducible first | refine XBr.y fun h => ?_ | refine XBr.n fun h => ?_ | refine XBr.dec (fun h => ?_) fun h => ?_) <;> conv => whnf)
  refine Walk.loopGK tab_ok [] [(1, _), (5, _)] ⟨rfl, rfl, trivial⟩ (fun n : Nat => n ≤ r) (fun n => []) (fun n => [.cells (gdC s (gtK s n))]) (fun n => r - n) 0 (Nat.zero_le _) rfl trivial ?_ (fun _ _ => (show (1 : Nat) ≤ 1 from Nat.le_refl 1)) ?_
  · intro n _
    refine ⟨fun z hz => ?_, fun z hz => ?_⟩
    · rw [List.mem_singleton] at hz; subst hz; exact gdCL _ _
    · simp only [List.cons_append, List.nil_append, List.mem_cons, List.not_mem_nil, or_false] at hz
      rcases hz with rfl | rfl <;> first | rfl | exact tdCL s
  intro n hn
  have hnx : gtK s (n + 1) = rndK s (gtK s n) s.fl.length := rfl
  have hn2 : ∀ k, k < r → ¬ stb s k := hmin
  conv => whnf
  repeat' ((first | refine xtk_vec rfl ?_ | refine xn_vec rfl ?_ | (refine xspl_full (by rw [List.length_map, vecF_len]; rfl) ?_) | refine XCall.lent1 (tiLower_c s ok _ _ _) rfl ?_); conv => whnf)
  refine Walk.loopK tab_ok [] [(1, _), (5, _), (7, _), (34, _)] ⟨rfl, rfl, rfl, rfl, trivial⟩ (fun k : Nat => k ≤ s.fl.length) (fun k => [(35, natA k)]) (fun k => [.cells (gdC s (rndK s (gtK s n) k)), .cells ((vecF 8 (gtK s n)).map (.int .i64))]) (fun k => s.fl.length - k) 0 (Nat.zero_le _) rfl ⟨rfl, trivial⟩ ?_
  intro k hk
  conv => whnf
  by_cases hlt : k < s.fl.length
  · skip
    repeat' first | ((with_reducible first | refine XBr.y fun h => ?_ | refine XBr.n fun h => ?_ | refine XBr.dec (fun h => ?_) fun h => ?_ | refine XInt.a ?_) <;> conv => whnf) | ((first | ((with_reducible refine XArr.ptr ?_ ?_ ?_); omega; omega) | (first | refine xdrop_gd k (by omega) (by omega) ?_ | refine XCall.lent1 (tiLower_c s ok _ _ _) rfl ?_)); conv => whnf) | fail
    exact XAgain.go (k + 1) (by omega) (by omega) rfl ⟨rfl, rfl, rfl, rfl, rfl, trivial⟩
  obtain rfl : k = s.fl.length := by omega
  rw [← hnx]
  have hl : ∀ F : Nat → Int, (vecF 8 F).length = 8 := fun F => vecF_len 8 F
  by_cases hs : stb s n
  · have hb : (vecF 8 (gtK s (n + 1)) == vecF 8 (gtK s n)) = true := by rw [hs]; exact beq_self_eq_true _
    obtain rfl : n = r := by
      refine Classical.byContradiction fun hne => ?_
      exact hmin n (by omega) hs
    have hg : gdC s (gtK s (n + 1)) = gdC s (gtK s n) := by unfold gdC; rw [hs]
    repeat' first | ((with_reducible first | apply XBr.tt | refine XBr.y fun h => ?_ | refine XBr.n fun h => ?_ | refine XBr.dec (fun h => ?_) fun h => ?_ | apply Chk.go | apply ChkA.go | apply ChkF.go | apply ChkB.go | apply XNext.mk) <;> conv => whnf) | (with_reducible first | apply XAnd.mk | exact trivial) | (exact XSame.mk rfl rfl) | (apply Walk.drawN (id := 17) tab_ok mixed_ok [16] [] (hsU _) [_, _, _, _, _, _] (by kernel_rfl) rfl) | ((refine xtk_vec rfl ?_); conv => whnf) | ((refine XEqA.mk ⟨_, _, rfl, rfl, by rw [hl, hl], (hl _).symm, ?_⟩); exact XSame.mk (congrArg AV.bool hb) rfl) | fail
    rw [hg]
    exact ⟨Froz.tup (.cons (Froz.ptr rfl gdOne (.low (gdCL _ _))) (.cons (.low rfl) .nil))⟩
  · have hb : (vecF 8 (gtK s (n + 1)) == vecF 8 (gtK s n)) = false := by rw [beq_eq_false_iff_ne]; exact hs
    repeat' first | ((with_reducible first | apply XBr.ff | refine XBr.y fun h => ?_ | refine XBr.n fun h => ?_ | refine XBr.dec (fun h => ?_) fun h => ?_ | apply Chk.go | apply ChkA.go | apply ChkF.go | apply ChkB.go | apply XNext.mk) <;> conv => whnf) | (with_reducible first | apply XAnd.mk | exact trivial) | (exact XSame.mk rfl rfl) | (apply Walk.drawN (id := 17) tab_ok mixed_ok [16] [] (hsU _) [_, _, _, _, _, _] (by kernel_rfl) rfl) | ((refine xtk_vec rfl ?_); conv => whnf) | ((refine XEqA.mk ⟨_, _, rfl, rfl, by rw [hl, hl], (hl _).symm, ?_⟩); exact XSame.mk (congrArg AV.bool hb) rfl) | fail
    have hlr : n < r := Nat.lt_of_le_of_ne hn fun e => hs (e ▸ hst)
    exact XAgainG.go (n + 1) [_] (show n + 1 ≤ r by omega) (by omega) rfl ⟨rfl, rfl, trivial⟩
end GA
end

section
namespace GA
open Go Go.RowKit Go.Proofs
set_option pp.deepTerms true
set_option maxRecDepth 8000
set_option linter.unusedVariables false
set_option linter.unusedSimpArgs false

def DayT (s : Td) (t : Int) : Prop := (tbN s 0).1 ≤ t ∧ t ≤ (tbN s (s.tb.length - 1)).1
structure HIx (s : Td) (t : Int) (i : Nat) : Prop where
  lt : i < s.tb.length
  ge : t ≤ (tbN s i).1
  mn : ∀ j, j < i → (tbN s j).1 < t
theorem hix_ex {s : Td} (ok : TdOk s) {t : Int} (ht : DayT s t) : ∃ i, HIx s t i := by
  have := ok.t1
  obtain ⟨m, ⟨h1, h2⟩, h3⟩ := least_ex (P := fun i => i < s.tb.length ∧ t ≤ (tbN s i).1) (s.tb.length - 1) ⟨by omega, ht.2⟩
  exact ⟨m, h1, h2, fun j hj => Int.not_le.1 fun h => h3 j hj ⟨by omega, h⟩⟩
def rise (s : Td) (i : Nat) (t : Int) : Int := ((tbN s i).2 - (tbN s (i - 1)).2) * (t - (tbN s (i - 1)).1)
def spn (s : Td) (i : Nat) : Int := (tbN s i).1 - (tbN s (i - 1)).1
def hgtI (s : Td) (i : Nat) (t : Int) : Int :=
  if (tbN s i).1 = t then (tbN s i).2 else (tbN s (i - 1)).2 + (if rise s i t < 0 then rise s i t - (spn s i - 1) else rise s i t).tdiv (spn s i)
theorem tiH1_c (w : Int × Int) (t : Int) : Comp Tryz.prog 109 [sgA w, .pim [.int .i64 t]] (.bool (decide (t ≤ w.1))) := by
  refine Comp.body (T := tab) (res := [.tmp 3]) tab_ok [] Tryz.func109 rfl (by kernel_rfl) Tryz.ntmps109 rfl (by simp only [List.length_cons, List.length_nil]; decide) (by rfl) ?_; conv => whnf
  skip
  exact XOut.bool rfl
theorem tdiv_bd {a b : Int} (hb : 0 < b) (h : -2000000 ≤ a ∧ a ≤ 2000000) : -2000000 ≤ a.tdiv b ∧ a.tdiv b ≤ 2000000 := by
  have h1 : (a.tdiv b).natAbs ≤ a.natAbs := by
    rw [Int.natAbs_tdiv]; exact Nat.div_le_self _ _
  omega
set_option maxHeartbeats 1000000 in
theorem tiHeightD_c (s : Td) (ok : TdOk s) (F : Nat → Int) (t : Int) (i : Nat) (hx : HIx s t i) (h0 : (tbN s 0).1 ≤ t) : Comp Tryz.prog 75 [.pim (gdC s F), .int .i64 t] (.int .i64 (hgtI s i t)) ∧ -3000000 ≤ hgtI s i t ∧ hgtI s i t ≤ 3000000 := by
  have t2 := ok.t2
  have hi := hx.lt
  have e1 : ((s.tb.map sgA).length : Int) = s.tb.length := by rw [List.length_map]
  have hidx := idxf_tw s.nt s.tb 109 [.pim [.int .i64 t]] (fun w => decide (t ≤ w.1)) rfl (by omega) fun w _ => tiH1_c w t
  have hix : idxR (fun w : Int × Int => decide (t ≤ w.1)) s.tb = (i : Int) := by
    have h1 : decide (t ≤ (s.tb.getD i default).1) = true := decide_eq_true hx.ge
    have h2 : ∀ j, j < i → decide (t ≤ (s.tb.getD j default).1) = false := fun j hj => decide_eq_false (Int.not_le.2 (hx.mn j hj))
    simp only [idxR, find_some (p := fun w : Int × Int => decide (t ≤ w.1)) (d := default) (i := i) hi h1 h2]
  rw [hix] at hidx
  have hm := fun j (hj : j < s.tb.length) => ok.tm _ (getD_mem (xs := s.tb) (d := default) hj)
  have hmi := hm i hi
  unfold hgtI
  by_cases he : (tbN s i).1 = t
  · rw [if_pos he]
    have he' : (s.tb.getD i default).1 = t := he
    have hmi' : 0 ≤ (tbN s i).2 ∧ (tbN s i).2 ≤ 999 := hmi.2
    refine ⟨?_, by omega, by omega⟩
    refine Comp.body (T := tab) (res := [.tmp 4]) tab_ok [] Tryz.func75 rfl (by kernel_rfl) Tryz.ntmps75 rfl (by simp only [List.length_cons, List.length_nil]; decide) (by simp only [lowL, AV.low, gdCL]; rfl) ?_; conv => whnf
    repeat' first | ((refine XCall.ret hidx ?_); conv => whnf) | ((with_reducible first | refine XBr.y1 fun h => ?_ | refine XBr.n1 fun h => ?_ | refine XBr.beq (fun h => ?_) fun h => ?_) <;> conv => whnf) | (refine XIx.a ?_; conv => whnf) | fail
    exact ⟨.low rfl⟩
  · rw [if_neg he]
    have hi0 : 1 ≤ i := by
      rcases Nat.eq_zero_or_pos i with h | h
      · subst h; have := hx.ge; omega
      · exact h
    have hmp := hm (i - 1) (by omega)
    have ho := ok.or (i - 1) (by omega)
    rw [show i - 1 + 1 = i by omega] at ho
    have hlt := hx.mn (i - 1) (by omega)
    have hge := hx.ge
    have he' : ¬ (s.tb.getD i default).1 = t := he
    have hsp : 1 ≤ spn s i ∧ spn s i ≤ 1440 := by
      unfold spn
      have a1 : (s.tb.getD i default) = tbN s i := rfl
      have a2 : (s.tb.getD (i - 1) default) = tbN s (i - 1) := rfl
      rw [a1] at hmi; rw [a2] at hmp
      omega
    have hri : -2000000 + 2000 ≤ rise s i t ∧ rise s i t ≤ 2000000 := by
      unfold rise
      have a1 : (s.tb.getD i default) = tbN s i := rfl
      have a2 : (s.tb.getD (i - 1) default) = tbN s (i - 1) := rfl
      rw [a1] at hmi; rw [a2] at hmp
      generalize (tbN s i).2 = u at *
      generalize (tbN s (i - 1)).2 = w at *
      have b1 : 0 ≤ t - (tbN s (i - 1)).1 ∧ t - (tbN s (i - 1)).1 ≤ 1440 := by omega
      generalize t - (tbN s (i - 1)).1 = z at b1
      have c1 : (u - w) * z ≤ 999 * z := Int.mul_le_mul_of_nonneg_right (by omega) b1.1
      have c2 : (-999) * z ≤ (u - w) * z := Int.mul_le_mul_of_nonneg_right (by omega) b1.1
      omega
    have hq := tdiv_bd (a := if rise s i t < 0 then rise s i t - (spn s i - 1) else rise s i t) (b := spn s i) (by omega) (by split <;> omega)
    have hmp2 : 0 ≤ (tbN s (i - 1)).2 ∧ (tbN s (i - 1)).2 ≤ 999 := hmp.2
    refine ⟨?_, by omega, by omega⟩
    have ei : ((i : Int) - 1).toNat = i - 1 := by omega
    unfold rise spn at *
    unfold tbN at *
    have hmi2 := hmi.1
    have hmi3 := hmi.2
    have hmp3 := hmp.1
    have hcl : (AV.fn 109 [.pim [.int .i64 t]]).low 0 = true := rfl
    by_cases hn : ((s.tb.getD i default).2 - (s.tb.getD (i - 1) default).2) * (t - (s.tb.getD (i - 1) default).1) < 0
    · rw [if_pos hn] at hq ⊢
      refine Comp.body (T := tab) (res := [.tmp 4]) tab_ok [] Tryz.func75 rfl (by kernel_rfl) Tryz.ntmps75 rfl (by simp only [List.length_cons, List.length_nil]; decide) (by simp only [lowL, AV.low, gdCL]; rfl) ?_; conv => whnf
      repeat' first | ((first | refine XCall.ret hidx ?_ | (refine XIx.map (by omega) (by omega) (fun _ => rfl) ?_; rw [ei])); conv => whnf) | ((with_reducible first | refine XBr.y fun h => ?_ | refine XBr.n fun h => ?_ | refine XBr.dec (fun h => ?_) fun h => ?_ | refine XBr.y1 fun h => ?_ | refine XBr.n1 fun h => ?_ | refine XBr.beq (fun h => ?_) fun h => ?_ | refine XInt.a ?_ | apply Chk.go | apply ChkA.go | apply ChkF.go | apply ChkB.go | apply XNext.mk) <;> conv => whnf) | ((first | refine XHold.a ?_ | refine XIx.a ?_); conv => whnf) | (with_reducible first | apply XAnd.mk | exact trivial) | (exact XSame.mk rfl rfl) | (apply Walk.drawN (id := 6) tab_ok mixed_ok [] [] (hsU _) [_, _, _, _, _, _, _, _, _, _, _, _, _, _, _, _, _] (by kernel_rfl) rfl) | (apply Walk.drawN (id := 9) tab_ok mixed_ok [] [] (hsU _) [_, _, _, _, _, _, _] (by kernel_rfl) rfl) | fail
      exact ⟨.low rfl⟩
    · rw [if_neg hn] at hq ⊢
      refine Comp.body (T := tab) (res := [.tmp 4]) tab_ok [] Tryz.func75 rfl (by kernel_rfl) Tryz.ntmps75 rfl (by simp only [List.length_cons, List.length_nil]; decide) (by simp only [lowL, AV.low, gdCL]; rfl) ?_; conv => whnf
      repeat' first | ((first | refine XCall.ret hidx ?_ | (refine XIx.map (by omega) (by omega) (fun _ => rfl) ?_; rw [ei])); conv => whnf) | ((with_reducible first | refine XBr.y fun h => ?_ | refine XBr.n fun h => ?_ | refine XBr.dec (fun h => ?_) fun h => ?_ | refine XBr.y1 fun h => ?_ | refine XBr.n1 fun h => ?_ | refine XBr.beq (fun h => ?_) fun h => ?_ | refine XInt.a ?_ | apply Chk.go | apply ChkA.go | apply ChkF.go | apply ChkB.go | apply XNext.mk) <;> conv => whnf) | ((first | refine XHold.a ?_ | refine XIx.a ?_); conv => whnf) | (with_reducible first | apply XAnd.mk | exact trivial) | (exact XSame.mk rfl rfl) | (apply Walk.drawN (id := 6) tab_ok mixed_ok [] [] (hsU _) [_, _, _, _, _, _, _, _, _, _, _, _, _, _, _, _, _] (by kernel_rfl) rfl) | (apply Walk.drawN (id := 9) tab_ok mixed_ok [] [] (hsU _) [_, _, _, _, _, _, _] (by kernel_rfl) rfl) | fail
      exact ⟨.low rfl⟩
end GA
end

section
namespace GA
open Go Go.RowKit Go.Proofs
set_option pp.deepTerms true
set_option maxRecDepth 8000
set_option linter.unusedVariables false
set_option linter.unusedSimpArgs false

def hixF (s : Td) (t : Int) : Nat := ((List.range s.tb.length).find? fun i => decide (t ≤ (tbN s i).1)).getD 0
theorem hixF_is {s : Td} (ok : TdOk s) {t : Int} (ht : DayT s t) : HIx s t (hixF s t) := by
  obtain ⟨i, hi⟩ := hix_ex ok ht
  have e : (List.range s.tb.length).find? (fun i => decide (t ≤ (tbN s i).1)) = some i := List.find?_range_eq_some.2 ⟨decide_eq_true hi.ge, List.mem_range.2 hi.lt, fun j hj => by rw [decide_eq_false (Int.not_le.2 (hi.mn j hj))]; rfl⟩
  unfold hixF
  rw [e]; exact hi
def hgtZ (s : Td) (t : Int) : Int := hgtI s (hixF s t) t
theorem tiHgt_c (s : Td) (ok : TdOk s) (F : Nat → Int) (t : Int) (ht : DayT s t) : Comp Tryz.prog 75 [.pim (gdC s F), .int .i64 t] (.int .i64 (hgtZ s t)) ∧ -3000000 ≤ hgtZ s t ∧ hgtZ s t ≤ 3000000 :=
  tiHeightD_c s ok F t _ (hixF_is ok ht) ht.1
theorem tiLevel_c (s : Td) (ok : TdOk s) (F : Nat → Int) (t : Int) (ht : DayT s t) : Comp Tryz.prog 78 [.pim (gdC s F), .int .i64 t] (.agg [.int .i64 (hgtZ s t + s.lo), .int .i64 (hgtZ s t + s.hi)]) := by
  obtain ⟨hh, b1, b2⟩ := tiHgt_c s ok F t ht
  have w1 := ok.w1; have w2 := ok.w2; have w3 := ok.w3
  refine Comp.body (T := tab) (res := [.cell 4 25]) tab_ok [] Tryz.func78 rfl (by kernel_rfl) Tryz.ntmps78 rfl (by simp only [List.length_cons, List.length_nil]; decide) (by simp only [lowL, AV.low, gdCL]; rfl) ?_; conv => whnf
  repeat' first | ((with_reducible first | refine XInt.a ?_ | apply Chk.go | apply ChkA.go | apply ChkF.go | apply ChkB.go | apply XNext.mk); conv => whnf) | (with_reducible first | apply XAnd.mk | exact trivial) | (exact XSame.mk rfl rfl) | (apply Walk.drawN (id := 2) tab_ok mixed_ok [] [17] (hsC [_, _]) [_, _, _, _, _, _, _, _, _, _, _, _, _, _, _, _, _, _] (by kernel_rfl) rfl) | ((refine XCall.ret hh ?_); conv => whnf) | fail
  exact ⟨.low rfl⟩
theorem tiDay_c (s : Td) (ok : TdOk s) (F : Nat → Int) (t : Int) : Comp Tryz.prog 54 [.pim (gdC s F), .int .i64 t] (.bool (inZ t (tbN s 0).1 (tbN s (s.tb.length - 1)).1)) := by
  have t1 := ok.t1; have t2 := ok.t2
  have e1 : ((s.tb.map sgA).length : Int) = s.tb.length := by rw [List.length_map]
  have ei : (((s.tb.map sgA).length : Int) - 1).toNat = s.tb.length - 1 := by omega
  rw [← ei]
  have hc := tiIn_c t (tbN s 0).1 (tbN s (((s.tb.map sgA).length : Int) - 1).toNat).1
  refine Comp.body (T := tab) (res := [.tmp 4]) tab_ok [] Tryz.func54 rfl (by kernel_rfl) Tryz.ntmps54 rfl (by simp only [List.length_cons, List.length_nil]; decide) (by simp only [lowL, AV.low, gdCL]; rfl) ?_; conv => whnf
  repeat' first | ((with_reducible first | refine XInt.a ?_ | apply Chk.go | apply ChkA.go | apply ChkF.go | apply ChkB.go | apply XNext.mk); conv => whnf) | (refine XIx.b ?_; conv => whnf) | (with_reducible first | apply XAnd.mk | exact trivial) | (exact XSame.mk rfl rfl) | (apply Walk.drawN (id := 1) tab_ok mixed_ok [] [] (hsU _) [_, _, _, _, _, _, _, _, _, _, _, _, _, _, _, _, _, _, _, _, _, _, _, _, _, _] (by kernel_rfl) rfl) | ((refine XCall.ret hc ?_); conv => whnf) | fail
  exact ⟨.low rfl⟩
def atZ (s : Td) (F : Nat → Int) (t : Int) (q : Nat) : Int := if F q = 1000 ∨ hgtZ s t + s.hi ≤ F q then 0 else if F q < hgtZ s t + s.lo then 2 else 1
theorem tiAtD_c (s : Td) (ok : TdOk s) (F : Nat → Int) (t : Int) (q : Nat) (ht : DayT s t) (hq : q < 8) : Comp Tryz.prog 36 [.pim (gdC s F), .int .i64 t, natA q] (.int .i64 (atZ s F t q)) := by
  have hl := tiLevel_c s ok F t ht
  unfold atZ
  by_cases c1 : F q = 1000
  · rw [if_pos (.inl c1)]
    refine Comp.body (T := tab) (res := [.tmp 6]) tab_ok [] Tryz.func36 rfl (by kernel_rfl) Tryz.ntmps36 rfl (by simp only [List.length_cons, List.length_nil]; decide) (by simp only [lowL, AV.low, gdCL]; rfl) ?_; conv => whnf
    repeat' first | ((with_reducible first | apply XBr.tt | refine XBr.y1 fun h => ?_ | refine XBr.n1 fun h => ?_ | refine XBr.beq (fun h => ?_) fun h => ?_ | apply Chk.go | apply ChkA.go | apply ChkF.go | apply ChkB.go | apply XNext.mk) <;> conv => whnf) | (with_reducible first | apply XAnd.mk | exact trivial) | (exact XSame.mk rfl rfl) | (apply Walk.drawN (id := 1) tab_ok mixed_ok [] [9, 10] (hsC [_, _, _]) [_, _, _, _, _, _, _, _, _, _, _, _] (by kernel_rfl) rfl) | ((first | refine XCall.ret hl ?_ | refine XArr.vec (f := AV.int .i64) q rfl (by omega) (by omega) ?_); conv => whnf) | fail
    exact ⟨.low rfl⟩
  · by_cases c2 : hgtZ s t + s.hi ≤ F q
    · rw [if_pos (.inr c2)]
      refine Comp.body (T := tab) (res := [.tmp 6]) tab_ok [] Tryz.func36 rfl (by kernel_rfl) Tryz.ntmps36 rfl (by simp only [List.length_cons, List.length_nil]; decide) (by simp only [lowL, AV.low, gdCL]; rfl) ?_; conv => whnf
      repeat' first | ((with_reducible first | apply XBr.ff | refine XBr.y fun h => ?_ | refine XBr.n fun h => ?_ | refine XBr.dec (fun h => ?_) fun h => ?_ | refine XBr.y1 fun h => ?_ | refine XBr.n1 fun h => ?_ | refine XBr.beq (fun h => ?_) fun h => ?_ | apply Chk.go | apply ChkA.go | apply ChkF.go | apply ChkB.go | apply XNext.mk) <;> conv => whnf) | (with_reducible first | apply XAnd.mk | exact trivial) | (exact XSame.mk rfl rfl) | (apply Walk.drawN (id := 1) tab_ok mixed_ok [] [9, 10] (hsC [_, _, _]) [_, _, _, _, _, _, _, _, _, _, _, _] (by kernel_rfl) rfl) | ((first | refine XCall.ret hl ?_ | refine XArr.vec (f := AV.int .i64) q rfl (by omega) (by omega) ?_); conv => whnf) | fail
      exact ⟨.low rfl⟩
    · rw [if_neg (fun h => h.elim c1 c2)]
      by_cases c3 : F q < hgtZ s t + s.lo
      · rw [if_pos c3]
        refine Comp.body (T := tab) (res := [.tmp 6]) tab_ok [] Tryz.func36 rfl (by kernel_rfl) Tryz.ntmps36 rfl (by simp only [List.length_cons, List.length_nil]; decide) (by simp only [lowL, AV.low, gdCL]; rfl) ?_; conv => whnf
        repeat' first | ((with_reducible first | apply XBr.ff | refine XBr.y fun h => ?_ | refine XBr.n fun h => ?_ | refine XBr.dec (fun h => ?_) fun h => ?_ | refine XBr.y1 fun h => ?_ | refine XBr.n1 fun h => ?_ | refine XBr.beq (fun h => ?_) fun h => ?_ | apply Chk.go | apply ChkA.go | apply ChkF.go | apply ChkB.go | apply XNext.mk) <;> conv => whnf) | (with_reducible first | apply XAnd.mk | exact trivial) | (exact XSame.mk rfl rfl) | (apply Walk.drawN (id := 1) tab_ok mixed_ok [] [9, 10] (hsC [_, _, _]) [_, _, _, _, _, _, _, _, _, _, _, _] (by kernel_rfl) rfl) | ((first | refine XCall.ret hl ?_ | refine XArr.vec (f := AV.int .i64) q rfl (by omega) (by omega) ?_); conv => whnf) | fail
        exact ⟨.low rfl⟩
      · rw [if_neg c3]
        refine Comp.body (T := tab) (res := [.tmp 6]) tab_ok [] Tryz.func36 rfl (by kernel_rfl) Tryz.ntmps36 rfl (by simp only [List.length_cons, List.length_nil]; decide) (by simp only [lowL, AV.low, gdCL]; rfl) ?_; conv => whnf
        repeat' first | ((with_reducible first | apply XBr.ff | refine XBr.y fun h => ?_ | refine XBr.n fun h => ?_ | refine XBr.dec (fun h => ?_) fun h => ?_ | refine XBr.y1 fun h => ?_ | refine XBr.n1 fun h => ?_ | refine XBr.beq (fun h => ?_) fun h => ?_ | apply Chk.go | apply ChkA.go | apply ChkF.go | apply ChkB.go | apply XNext.mk) <;> conv => whnf) | (with_reducible first | apply XAnd.mk | exact trivial) | (exact XSame.mk rfl rfl) | (apply Walk.drawN (id := 1) tab_ok mixed_ok [] [9, 10] (hsC [_, _, _]) [_, _, _, _, _, _, _, _, _, _, _, _] (by kernel_rfl) rfl) | ((first | refine XCall.ret hl ?_ | refine XArr.vec (f := AV.int .i64) q rfl (by omega) (by omega) ?_); conv => whnf) | fail
        exact ⟨.low rfl⟩
end GA
end

section
namespace GA
open Go Go.RowKit Go.Proofs
set_option pp.deepTerms true
set_option maxRecDepth 8000
set_option linter.unusedVariables false
set_option linter.unusedSimpArgs false

noncomputable def opG (s : Td) : Nat → Int := open Classical in if h : ∃ r, stb s r ∧ ∀ k, k < r → ¬ stb s k then gtK s (Classical.choose h) else fun _ => 0
theorem tiOpen_c (s : Td) (ok : TdOk s) : Comp Tryz.prog 33 [tdA s] (.tup [.pim (gdC s (opG s)), .int .i64 0]) := by
  have h := stb_ex ok
  unfold opG
  rw [dif_pos h]
  exact tiOpened_c s ok _ (Classical.choose_spec h).1 (Classical.choose_spec h).2
def wnd (s : Td) (lo hi : Int) : Td := ⟨s.nt, s.tb, lo, hi, s.nf, s.fl, s.ns, s.si⟩
theorem lowK_wnd (s : Td) (lo hi : Int) (p v : Int) (F : Nat → Int) : ∀ k, lowK (wnd s lo hi) p v F k = lowK s p v F k
  | 0 => rfl
  | k + 1 => by
    show lowX (wnd s lo hi) p v _ (lowK (wnd s lo hi) p v F k) = lowX s p v _ (lowK s p v F k)
    rw [lowK_wnd s lo hi p v F k]; rfl
theorem rndK_wnd (s : Td) (lo hi : Int) (F : Nat → Int) : ∀ k, rndK (wnd s lo hi) F k = rndK s F k
  | 0 => lowK_wnd s lo hi _ _ _ _
  | k + 1 => by
    show lowF (wnd s lo hi) k (rndK (wnd s lo hi) F k k) (rndK (wnd s lo hi) F k) = _
    rw [rndK_wnd s lo hi F k]; exact lowK_wnd s lo hi _ _ _ _
theorem gtK_wnd (s : Td) (lo hi : Int) : ∀ r, gtK (wnd s lo hi) r = gtK s r
  | 0 => rfl
  | r + 1 => by
    show rndF (wnd s lo hi) (gtK (wnd s lo hi) r) = rndF s (gtK s r)
    rw [gtK_wnd s lo hi r]; exact rndK_wnd s lo hi _ _
theorem opG_wnd (s : Td) (lo hi : Int) : opG (wnd s lo hi) = opG s := by
  have e : gtK (wnd s lo hi) = gtK s := funext (gtK_wnd s lo hi)
  have e2 : stb (wnd s lo hi) = stb s := by unfold stb; rw [e]
  unfold opG
  rw [e, e2]
theorem wnd_ok {s : Td} (ok : TdOk s) {lo hi : Int} (h1 : -50 ≤ lo) (h2 : lo ≤ hi) (h3 : hi ≤ 50) : TdOk (wnd s lo hi) :=
  ⟨ok.t1, ok.t2, ok.f1, ok.f2, ok.s1, ok.tm, h1, h2, h3, ok.fh, ok.sh, ok.or, ok.en, ok.ne⟩
theorem hgtZ_wnd (s : Td) (lo hi t : Int) : hgtZ (wnd s lo hi) t = hgtZ s t := rfl
theorem tiAt_c (s : Td) (ok : TdOk s) (t : Int) (q : Nat) (ht : DayT s t) (hq : q < s.fl.length) : Comp Tryz.prog 11 [tdA s, .int .i64 t, natA q] (.tup [.int .i64 (atZ s (opG s) t q), .int .i64 0]) := by
  have f2 := ok.f2
  have e2 : ((ints s.fl).length : Int) = s.fl.length := by rw [ints_len]
  have ho := tiOpen_c s ok
  have hd := tiDay_c s ok (opG s) t
  rw [inZ_iff.2 ht] at hd
  have hp := tiPlace_c s q (by omega)
  rw [inZ_iff.2 (by omega)] at hp
  have ha := tiAtD_c s ok (opG s) t q ht (by omega)
  generalize opG s = G at *
  refine Comp.body (T := tab) (res := [.tmp 6, .tmp 7]) tab_ok [] Tryz.func11 rfl (by kernel_rfl) Tryz.ntmps11 rfl (by simp only [List.length_cons, List.length_nil]; decide) (by simp only [lowL, AV.low, tdL]; rfl) ?_; conv => whnf
  repeat' first | ((with_reducible first | apply XBr.tt | refine XBr.y2 fun h => ?_ | refine XBr.n2 fun h => ?_ | refine XBr.bne (fun h => ?_) fun h => ?_) <;> conv => whnf) | with_reducible apply XBr.not | ((first | refine XCall.ret ho ?_ | refine XCall.ret hd ?_ | refine XCall.ret hp ?_ | refine XCall.ret ha ?_); conv => whnf) | fail
  exact ⟨.low rfl⟩
end GA
end

section
namespace GA
open Go Go.RowKit Go.Proofs
set_option maxRecDepth 8000
set_option linter.unusedVariables false
set_option linter.unusedSimpArgs false

def rnO (f : Nat → Bool) : Nat → Option Nat
  | 0 => none
  | k + 1 => if f k = true then some ((rnO f k).getD k) else none
def rnS (f : Nat → Bool) (a : Int) : Nat → List (Int × Int)
  | 0 => []
  | k + 1 => if f k = true then rnS f a k else match rnO f k with | some b => rnS f a k ++ [(a + (b : Nat), a + (k : Nat) - 1)] | none => rnS f a k
def rnL (f : Nat → Bool) (a : Int) (n : Nat) : List (Int × Int) := match rnO f n with | some b => rnS f a n ++ [(a + (b : Nat), a + (n : Nat) - 1)] | none => rnS f a n
theorem rnO_b {f : Nat → Bool} : ∀ {k b : Nat}, rnO f k = some b → b < k ∧ ∀ j, b ≤ j → j < k → f j = true
  | 0, b, h => by cases h
  | k + 1, b, h => by
    rw [rnO] at h
    split at h
    · rename_i hf
      cases ho : rnO f k with
      | none =>
        rw [ho] at h
        obtain rfl : k = b := by simpa using h
        refine ⟨by omega, fun j h1 h2 => ?_⟩
        obtain rfl : j = k := by omega
        exact hf
      | some c =>
        rw [ho] at h
        obtain rfl : c = b := by simpa using h
        obtain ⟨h1, h2⟩ := rnO_b ho
        refine ⟨by omega, fun j h3 h4 => ?_⟩
        by_cases e : j = k
        · rw [e]; exact hf
        · exact h2 j h3 (by omega)
    · cases h
structure RnOk (f : Nat → Bool) (a : Int) (k : Nat) (l : List (Int × Int)) : Prop where
  gap : l.Pairwise fun x y => x.2 + 2 ≤ y.1
  ord : ∀ x ∈ l, a ≤ x.1 ∧ x.1 ≤ x.2 ∧ x.2 < a + k
  is : ∀ x ∈ l, ∀ j : Nat, x.1 ≤ a + j → a + j ≤ x.2 → f j = true
theorem RnOk.add {f : Nat → Bool} {a : Int} {k b : Nat} {l : List (Int × Int)} (h : RnOk f a k l) (hb : b < k) (h1 : ∀ x ∈ l, x.2 + 2 ≤ a + b) (h2 : ∀ j, b ≤ j → j < k → f j = true) : RnOk f a k (l ++ [(a + (b : Nat), a + (k : Nat) - 1)]) := by
  refine ⟨List.pairwise_append.2 ⟨h.gap, List.pairwise_singleton _ _, fun x hx y hy => ?_⟩, fun x hx => ?_, fun x hx j j1 j2 => ?_⟩
  · rw [List.mem_singleton] at hy; subst hy; exact h1 x hx
  · rcases List.mem_append.1 hx with hx | hx
    · exact h.ord x hx
    · rw [List.mem_singleton] at hx; subst hx; dsimp only; omega
  · rcases List.mem_append.1 hx with hx | hx
    · exact h.is x hx j j1 j2
    · rw [List.mem_singleton] at hx; subst hx; dsimp only at j1 j2; exact h2 j (by omega) (by omega)
theorem rnS_ok (f : Nat → Bool) (a : Int) : ∀ k, RnOk f a k (rnS f a k) ∧ (∀ b, rnO f k = some b → ∀ x ∈ rnS f a k, x.2 + 2 ≤ a + b) ∧ (rnO f k = none → ∀ x ∈ rnS f a k, x.2 + 1 < a + k) ∧
    ∀ j, j < k → f j = true → (∃ x ∈ rnS f a k, x.1 ≤ a + j ∧ a + j ≤ x.2) ∨ ∃ b, rnO f k = some b ∧ b ≤ j
  | 0 => ⟨⟨List.Pairwise.nil, fun x hx => (by cases hx), fun x hx => (by cases hx)⟩, fun b h => (by cases h), fun _ x hx => (by cases hx), fun j h => by omega⟩
  | k + 1 => by
    obtain ⟨h1, h2, h3, h4⟩ := rnS_ok f a k
    have hm : RnOk f a (k + 1) (rnS f a k) := ⟨h1.gap, fun x hx => by have := h1.ord x hx; omega, h1.is⟩
    cases hf : f k with
    | true =>
      have eO : rnO f (k + 1) = some ((rnO f k).getD k) := by rw [rnO, if_pos hf]
      have eS : rnS f a (k + 1) = rnS f a k := by rw [rnS, if_pos hf]
      rw [eO, eS]
      refine ⟨hm, fun b hb x hx => ?_, (by intro h; cases h), fun j hj hfj => ?_⟩
      · cases ho : rnO f k with
        | none =>
          rw [ho] at hb
          obtain rfl : k = b := by simpa using hb
          have := h3 ho x hx; omega
        | some c =>
          rw [ho] at hb
          obtain rfl : c = b := by simpa using hb
          exact h2 c ho x hx
      · by_cases e : j = k
        · subst e
          right
          cases ho : rnO f j with
          | none => exact ⟨j, rfl, Nat.le_refl _⟩
          | some c => exact ⟨c, rfl, by have := (rnO_b ho).1; omega⟩
        · rcases h4 j (by omega) hfj with h | ⟨b, hb, hbj⟩
          · exact .inl h
          · right; rw [hb]; exact ⟨b, rfl, hbj⟩
    | false =>
      have eO : rnO f (k + 1) = none := by rw [rnO, if_neg (by rw [hf]; simp)]
      rw [eO]
      cases ho : rnO f k with
      | none =>
        have eS : rnS f a (k + 1) = rnS f a k := by rw [rnS, if_neg (by rw [hf]; simp), ho]
        rw [eS]
        refine ⟨hm, (by intro b h; cases h), fun _ x hx => by have := h3 ho x hx; omega, fun j hj hfj => ?_⟩
        by_cases e : j = k
        · subst e; rw [hf] at hfj; cases hfj
        · rcases h4 j (by omega) hfj with h | ⟨b, hb, -⟩
          · exact .inl h
          · rw [ho] at hb; cases hb
      | some b =>
        have eS : rnS f a (k + 1) = rnS f a k ++ [(a + (b : Nat), a + (k : Nat) - 1)] := by rw [rnS, if_neg (by rw [hf]; simp), ho]
        obtain ⟨b1, b2⟩ := rnO_b ho
        have hadd := h1.add b1 (h2 b ho) b2
        rw [eS]
        refine ⟨⟨hadd.gap, fun x hx => by have := hadd.ord x hx; omega, hadd.is⟩, (by intro b h; cases h), fun _ x hx => by have := hadd.ord x hx; omega, fun j hj hfj => ?_⟩
        by_cases e : j = k
        · subst e; rw [hf] at hfj; cases hfj
        · rcases h4 j (by omega) hfj with ⟨x, hx, hxj⟩ | ⟨c, hc, hcj⟩
          · exact .inl ⟨x, List.mem_append_left _ hx, hxj⟩
          · rw [ho] at hc
            obtain rfl : b = c := by simpa using hc
            exact .inl ⟨_, List.mem_append_right _ (List.mem_singleton.2 rfl), by dsimp only; omega⟩
theorem rnL_ok (f : Nat → Bool) (a : Int) (n : Nat) : RnOk f a n (rnL f a n) ∧ ∀ j, j < n → f j = true → ∃ x ∈ rnL f a n, x.1 ≤ a + j ∧ a + j ≤ x.2 := by
  obtain ⟨h1, h2, h3, h4⟩ := rnS_ok f a n
  unfold rnL
  cases ho : rnO f n with
  | none =>
    refine ⟨h1, fun j hj hf => ?_⟩
    rcases h4 j hj hf with h | ⟨b, hb, -⟩
    · exact h
    · rw [ho] at hb; cases hb
  | some b =>
    obtain ⟨b1, b2⟩ := rnO_b ho
    refine ⟨h1.add b1 (h2 b ho) b2, fun j hj hf => ?_⟩
    rcases h4 j hj hf with ⟨x, hx, hxj⟩ | ⟨c, hc, hcj⟩
    · exact ⟨x, List.mem_append_left _ hx, hxj⟩
    · rw [ho] at hc
      obtain rfl : b = c := by simpa using hc
      exact ⟨_, List.mem_append_right _ (List.mem_singleton.2 rfl), by dsimp only; omega⟩
theorem rnS_len (f : Nat → Bool) (a : Int) : ∀ k, (rnS f a k).length ≤ k
  | 0 => Nat.le_refl _
  | k + 1 => by
    have := rnS_len f a k
    rw [rnS]
    split
    · omega
    · split
      · rw [List.length_append, List.length_cons, List.length_nil]; omega
      · omega
theorem rnL_len (f : Nat → Bool) (a : Int) (n : Nat) : (rnL f a n).length ≤ n + 1 := by
  have := rnS_len f a n
  unfold rnL
  split
  · rw [List.length_append, List.length_cons, List.length_nil]; omega
  · omega
def cutR (a last : Int) (l : List (Int × Int)) : List (Int × Int) := (l.filter fun x => decide (x.1 - a ≤ last)).map fun x => (x.1 - a, min last (x.2 - a))
theorem cutR_ok {a last : Int} : ∀ {l : List (Int × Int)} {pv : Option Int}, l.Pairwise (fun x y => x.2 + 2 ≤ y.1) → (∀ x ∈ l, a ≤ x.1 ∧ x.1 ≤ x.2) → (∀ h, pv = some h → ∀ x ∈ l, h + 1 < x.1 - a) → spE last pv (cutR a last l) = 0
  | [], _, _, _, _ => rfl
  | x :: l, pv, h1, h2, h3 => by
    obtain ⟨p1, p2⟩ := List.pairwise_cons.1 h1
    have hx := h2 x List.mem_cons_self
    unfold cutR
    rw [List.filter_cons]
    split
    · rename_i hc
      rw [decide_eq_true_eq] at hc
      rw [List.map_cons, spE]
      dsimp only
      rw [if_neg, if_neg]
      · refine cutR_ok (l := l) p2 (fun y hy => h2 y (List.mem_cons_of_mem _ hy)) fun h hh y hy => ?_
        have := p1 y hy
        have : min last (x.2 - a) = h := by simpa using hh
        omega
      · cases pv with
        | none => unfold spBad; simp
        | some h =>
          have := h3 h rfl x List.mem_cons_self
          unfold spBad
          simp only [decide_eq_true_eq]; omega
      · have e : (inZ (x.1 - a) 0 last && inZ (min last (x.2 - a)) (x.1 - a) last) = true := by
          rw [Bool.and_eq_true, inZ_iff, inZ_iff]; omega
        rw [e]; simp
    · exact cutR_ok (l := l) p2 (fun y hy => h2 y (List.mem_cons_of_mem _ hy)) fun h hh y hy => h3 h hh y (List.mem_cons_of_mem _ hy)
theorem cutR_run (f : Nat → Bool) (a last : Int) (n : Nat) : spE last none (cutR a last (rnL f a n)) = 0 := by
  have h := (rnL_ok f a n).1
  exact cutR_ok h.gap (fun x hx => by have := h.ord x hx; omega) fun h hh => by cases hh
theorem cutR_any {f : Nat → Bool} {a last : Int} {n m : Nat} (h : ((cutR a last (rnL f a n)).any fun x => inZ m x.1 x.2) = true) : m < n ∧ f m = true := by
  obtain ⟨y, hy, hm⟩ := List.any_eq_true.1 h
  obtain ⟨x, hx, rfl⟩ := List.mem_map.1 hy
  have hx := (List.mem_filter.1 hx).1
  rw [inZ_iff] at hm
  dsimp only at hm
  have hr := (rnL_ok f a n).1
  have ho := hr.ord x hx
  exact ⟨by omega, hr.is x hx m (by omega) (by omega)⟩
theorem cutR_len (a last : Int) (l : List (Int × Int)) : (cutR a last l).length ≤ l.length := by unfold cutR; rw [List.length_map]; exact List.length_filter_le _ _
theorem cutR_next (a last : Int) {l : List (Int × Int)} {k : Nat} (h : k < l.length) : cutR a last (l.take (k + 1)) = cutR a last (l.take k) ++ if (l.getD k default).1 - a ≤ last then [((l.getD k default).1 - a, min last ((l.getD k default).2 - a))] else [] := by
  unfold cutR
  rw [take_next h, List.filter_append, List.map_append]
  congr 1
  by_cases hc : (l.getD k default).1 - a ≤ last
  · rw [if_pos hc, List.filter_cons, if_pos (decide_eq_true hc)]; rfl
  · rw [if_neg hc, List.filter_cons, if_neg (by simpa using hc)]; rfl
end GA
end

section
namespace GA
open Go Go.RowKit Go.Proofs
set_option pp.deepTerms true
set_option maxRecDepth 8000
set_option linter.unusedVariables false
set_option linter.unusedSimpArgs false

def bgZ (f : Nat → Bool) (A : Int) : Nat → Int
  | 0 => 0
  | k + 1 => if f k = true ∧ (rnO f k).isSome = false then A + (k : Int) else bgZ f A k
theorem bgZ_is {f : Nat → Bool} {A : Int} : ∀ {k b : Nat}, rnO f k = some b → bgZ f A k = A + (b : Int)
  | 0, b, h => by cases h
  | k + 1, b, h => by
    rw [rnO] at h
    split at h
    · rename_i hf
      rw [bgZ]
      cases ho : rnO f k with
      | none =>
        rw [ho] at h
        obtain rfl : k = b := by simpa using h
        rw [if_pos ⟨hf, rfl⟩]
      | some c =>
        rw [ho] at h
        obtain rfl : c = b := by simpa using h
        rw [if_neg (fun q => by cases q.2)]
        exact bgZ_is ho
    · cases h
def dayN (s : Td) : Nat := ((tbN s (s.tb.length - 1)).1 - (tbN s 0).1 + 1).toNat
theorem renSgs (f : Nat → Nat) (t : TypeId) (nl : Bool) (xs : List (Int × Int)) : Blk.ren f (.grow t nl (xs.map sgA)) = .grow t nl (xs.map sgA) := Blk.ren_low (n := 0) (fun i hi => by omega) (lowSg _)
theorem plainSgs (t : TypeId) (nl : Bool) (xs : List (Int × Int)) : (Blk.grow t nl (xs.map sgA)).plainG = true := by
  show plainGL (flat (xs.map sgA)) = true
  rw [plainGL_iff]
  intro x hx
  unfold flat at hx
  obtain ⟨y, hy, hxy⟩ := List.mem_flatMap.1 hx
  obtain ⟨z, -, rfl⟩ := List.mem_map.1 hy
  simp only [sgA, AV.cells, List.mem_cons, List.not_mem_nil, or_false] at hxy
  rcases hxy with rfl | rfl <;> rfl
set_option maxHeartbeats 1000000 in
theorem tiSpansD_g (s : Td) (ok : TdOk s) (F : Nat → Int) (g : FuncId) (caps : List AV) (f : Nat → Bool) (hl : lowL 0 caps = true) (hd : (tbN s 0).1 ≤ (tbN s (s.tb.length - 1)).1)
    (hp : ∀ j : Nat, j < dayN s → Comp Tryz.prog g ((.int .i64 ((tbN s 0).1 + (j : Int))) :: caps) (.bool (f j))) :
    Gives Tryz.prog 34 [.pim (gdC s F), .agg [.fn g caps]] (.gr 0 (rnL f (tbN s 0).1 (dayN s)).length) [.grow 25 (rnL f (tbN s 0).1 (dayN s)).isEmpty ((rnL f (tbN s 0).1 (dayN s)).map sgA)] := by
  have t1 := ok.t1; have t2 := ok.t2
  have e1 : ((s.tb.map sgA).length : Int) = s.tb.length := by rw [List.length_map]
  have ei : (((s.tb.map sgA).length : Int) - 1).toNat = s.tb.length - 1 := by omega
  have hm := fun j (hj : j < s.tb.length) => ok.tm _ (getD_mem (xs := s.tb) (d := default) hj)
  have hm0 : 0 ≤ (s.tb.getD (Int.toNat 0) default).1 ∧ (s.tb.getD (Int.toNat 0) default).1 ≤ 1440 := (hm 0 (by omega)).1
  have hmn : 0 ≤ (s.tb.getD (((s.tb.map sgA).length : Int) - 1).toNat default).1 ∧ (s.tb.getD (((s.tb.map sgA).length : Int) - 1).toNat default).1 ≤ 1440 := by rw [ei]; exact (hm (s.tb.length - 1) (by omega)).1
  refine Gives.body (T := tab) (res := [.tmp 4]) tab_ok [] Tryz.func34 rfl (by kernel_rfl) Tryz.ntmps34 rfl (by simp only [List.length_cons, List.length_nil]; decide) (by simp only [lowL, AV.low, gdCL, hl]; rfl) rfl (fun x hx => by simp only [List.mem_cons, List.not_mem_nil, or_false] at hx; subst hx; exact lowSg _) ?_; conv => whnf
  repeat' first | ((with_reducible first | refine XInt.a ?_ | apply Chk.go | apply ChkA.go | apply ChkF.go | apply ChkB.go | apply XNext.mk); conv => whnf) | (refine XIx.b ?_; conv => whnf) | (with_reducible first | apply XAnd.mk | exact trivial) | (exact XSame.mk rfl rfl) | (apply Walk.drawN (id := 2) tab_ok mixed_ok [] [] (hsU _) [_, _, _, _, _, _, _, _, _, _, _, _, _, _, _, _, _, _, _, _, _, _, _, _, _] (by kernel_rfl) rfl) | fail
  have hA : (s.tb.getD (Int.toNat 0) default).1 = (tbN s 0).1 := rfl
  have hZ : (s.tb.getD (((s.tb.map sgA).length : Int) - 1).toNat default).1 = (tbN s (s.tb.length - 1)).1 := by rw [ei]; rfl
  have hN : ((dayN s : Nat) : Int) = (tbN s (s.tb.length - 1)).1 - (tbN s 0).1 + 1 := by unfold dayN; omega
  rw [hA, hZ]
  rw [hA] at hm0
  rw [hZ] at hmn
  generalize (tbN s (s.tb.length - 1)).1 = Z at *
  generalize (tbN s 0).1 = A at *
  generalize dayN s = n at *
  refine Walk.nilcell 0 0 25 rfl rfl ?_
  refine Walk.loopK tab_ok [] [(3, _), (4, _), (5, _), (6, _), (7, _), (8, _), (9, _), (10, _), (40, _)] ⟨rfl, rfl, rfl, rfl, rfl, rfl, rfl, rfl, rfl, trivial⟩ (fun k : Nat => k ≤ n) (fun k => [(41, natA k)]) (fun k => [.cells [.gr 3 (rnS f A k).length], .cells [.int .i64 (bgZ f A k)], .cells [.bool (rnO f k).isSome], .grow 25 (rnS f A k).isEmpty ((rnS f A k).map sgA)]) (fun k => n - k) 0 (Nat.zero_le _) rfl ⟨rfl, trivial⟩ ?_
  intro k hk
  have hlen := rnS_len f A k
  have hml : ((rnS f A k).map sgA).length = (rnS f A k).length := List.length_map _
  have hI : ∀ b : Nat, rnO f k = some b → bgZ f A k = A + b := fun b h => bgZ_is h
  conv => whnf
  by_cases hlt : k < n
  · have hpk := hp k hlt
    have hz : ∀ b : Nat, rnO f k = some b → b < k := fun b h => (rnO_b h).1
    have hS : rnS f A (k + 1) = if f k = true then rnS f A k else match rnO f k with | some b => rnS f A k ++ [(A + (b : Nat), A + (k : Nat) - 1)] | none => rnS f A k := rfl
    have hB : bgZ f A (k + 1) = if f k = true ∧ (rnO f k).isSome = false then A + (k : Int) else bgZ f A k := rfl
    have hO : rnO f (k + 1) = if f k = true then some ((rnO f k).getD k) else none := rfl
    cases ho : rnO f k with
    | none =>
      have hs : (rnO f k).isSome = false := by rw [ho]; rfl
      have hs2 : (none : Option Nat).isSome = false := rfl
      cases hf : f k with
      | true =>
        rw [hf] at hpk
        rw [if_pos hf] at hS hO
        rw [if_pos ⟨hf, hs⟩] at hB
        repeat' first | ((with_reducible first | apply XBr.tt | refine XBr.y fun h => ?_ | refine XBr.n fun h => ?_ | refine XBr.dec (fun h => ?_) fun h => ?_ | refine XInt.a ?_) <;> conv => whnf) | with_reducible apply XBr.not | ((first | refine XCall.ret hpk ?_ | refine XBr.no hs2 ?_); conv => whnf) | fail
        refine XAgain.go (k + 1) (by omega) (by omega) ?_ ⟨rfl, rfl, rfl, rfl, rfl, rfl, rfl, rfl, rfl, rfl, trivial⟩
        rw [hS, hO, hB]; rfl
      | false =>
        rw [hf] at hpk
        rw [if_neg (by rw [hf]; decide), ho] at hS
        dsimp only at hS
        rw [if_neg (by rw [hf]; decide)] at hO
        rw [if_neg (by rw [hf]; simp)] at hB
        repeat' first | ((with_reducible first | apply XBr.ff | refine XBr.y fun h => ?_ | refine XBr.n fun h => ?_ | refine XBr.dec (fun h => ?_) fun h => ?_ | refine XInt.a ?_) <;> conv => whnf) | with_reducible apply XBr.not | ((refine XCall.ret hpk ?_); conv => whnf) | (refine XCall.inl (T := tab) (res := []) tab_ok [] Tryz.func77 rfl (by kernel_rfl) Tryz.ntmps77 rfl (by simp only [List.length_append, List.length_cons, List.length_nil]; decide) ?_; conv => whnf) | ((refine XBr.no hs2 ?_); conv => whnf) | fail
        refine XAgain.go (k + 1) (by omega) (by omega) ?_ ⟨rfl, rfl, rfl, rfl, rfl, rfl, rfl, rfl, rfl, rfl, trivial⟩
        rw [hS, hO, hB]; rfl
    | some b =>
      have hs : (rnO f k).isSome = true := by rw [ho]; rfl
      have hs2 : (some b).isSome = true := rfl
      have hzb := hI b ho
      have hbk := hz b ho
      cases hf : f k with
      | true =>
        rw [hf] at hpk
        rw [if_pos hf] at hS hO
        rw [if_neg (fun q => by rw [hs] at q; cases q.2)] at hB
        repeat' first | ((with_reducible first | apply XBr.tt | refine XBr.y fun h => ?_ | refine XBr.n fun h => ?_ | refine XBr.dec (fun h => ?_) fun h => ?_ | refine XInt.a ?_) <;> conv => whnf) | with_reducible apply XBr.not | ((first | refine XCall.ret hpk ?_ | refine XBr.yes hs2 ?_); conv => whnf) | fail
        refine XAgain.go (k + 1) (by omega) (by omega) ?_ ⟨rfl, rfl, rfl, rfl, rfl, rfl, rfl, rfl, rfl, rfl, trivial⟩
        rw [hS, hO, hB]; rfl
      | false =>
        rw [hf] at hpk
        rw [if_neg (by rw [hf]; decide), ho] at hS
        dsimp only at hS
        rw [if_neg (by rw [hf]; decide)] at hO
        rw [if_neg (by rw [hf]; simp)] at hB
        repeat' first | ((with_reducible first | apply XBr.ff | refine XBr.y fun h => ?_ | refine XBr.n fun h => ?_ | refine XBr.dec (fun h => ?_) fun h => ?_ | refine XInt.a ?_) <;> conv => whnf) | with_reducible apply XBr.not | ((first | refine XHold.a ?_ | refine XCall.ret hpk ?_); conv => whnf) | (refine XCall.inl (T := tab) (res := []) tab_ok [] Tryz.func77 rfl (by kernel_rfl) Tryz.ntmps77 rfl (by simp only [List.length_append, List.length_cons, List.length_nil]; decide) ?_; conv => whnf) | ((refine XBr.yes hs2 ?_); conv => whnf) | fail
        refine XAgain.go (k + 1) (by omega) (by omega) ?_ ⟨rfl, rfl, rfl, rfl, rfl, rfl, rfl, rfl, rfl, rfl, trivial⟩
        rw [hS, hO, hB, ← hzb, List.map_append, isEmpty_app, List.length_append]; rfl
  obtain rfl : k = n := by omega
  have hL : rnL f A k = match rnO f k with | some b => rnS f A k ++ [(A + (b : Nat), A + (k : Nat) - 1)] | none => rnS f A k := rfl
  cases ho : rnO f k with
  | none =>
    have hs : (rnO f k).isSome = false := by rw [ho]; rfl
    have hs2 : (none : Option Nat).isSome = false := rfl
    rw [ho] at hL
    dsimp only at hL
    rw [hL]
    repeat' first | ((with_reducible first | refine XBr.y fun h => ?_ | refine XBr.n fun h => ?_ | refine XBr.dec (fun h => ?_) fun h => ?_ | refine XInt.a ?_) <;> conv => whnf) | (refine XCall.inl (T := tab) (res := []) tab_ok [] Tryz.func77 rfl (by kernel_rfl) Tryz.ntmps77 rfl (by simp only [List.length_append, List.length_cons, List.length_nil]; decide) ?_; conv => whnf) | ((refine XBr.no hs2 ?_); conv => whnf) | fail
    exact XGive.mk' [3] rfl (by decide) ⟨congrArg some (renSgs _ _ _ _).symm, trivial⟩ rfl
  | some b =>
    have hs : (rnO f k).isSome = true := by rw [ho]; rfl
    have hs2 : (some b).isSome = true := rfl
    have hzb := hI b ho
    rw [ho] at hL
    dsimp only at hL
    rw [hL, ← hzb, show A + (k : Int) - 1 = Z + 1 - 1 by omega, List.map_append, isEmpty_app]
    repeat' first | ((with_reducible first | refine XBr.y fun h => ?_ | refine XBr.n fun h => ?_ | refine XBr.dec (fun h => ?_) fun h => ?_ | refine XInt.a ?_) <;> conv => whnf) | (refine XHold.a ?_; conv => whnf) | (refine XCall.inl (T := tab) (res := []) tab_ok [] Tryz.func77 rfl (by kernel_rfl) Tryz.ntmps77 rfl (by simp only [List.length_append, List.length_cons, List.length_nil]; decide) ?_; conv => whnf) | ((refine XBr.yes hs2 ?_); conv => whnf) | fail
    refine XGive.mk' [3] rfl (by decide) ⟨congrArg some ?_, trivial⟩ (by rw [List.length_append]; rfl)
    rw [← List.map_append, renSgs, List.map_append]; rfl
theorem XCall.tiSpansD {s : Td} {F : Nat → Int} {g : FuncId} {caps rs : List AV} {f : Nat → Bool} {H : List Blk} {k : AV → List Blk → Prop} (ok : TdOk s) (hl : lowL 0 caps = true) (hd : (tbN s 0).1 ≤ (tbN s (s.tb.length - 1)).1)
    (hp : ∀ j : Nat, j < dayN s → Comp Tryz.prog g ((.int .i64 ((tbN s 0).1 + (j : Int))) :: caps) (.bool (f j))) (hf : FrozL Tryz.prog H rs [.pim (gdC s F), .agg [.fn g caps]])
    (hk : k (.gr H.length (rnL f (tbN s 0).1 (dayN s)).length) (H ++ [.grow 25 (rnL f (tbN s 0).1 (dayN s)).isEmpty ((rnL f (tbN s 0).1 (dayN s)).map sgA)])) : XCall Tryz.prog 34 rs H k := by
  refine XCall.giveL (tiSpansD_g s ok F g caps f hl hd hp) hf rfl (fun x hx => by simp only [List.mem_cons, List.not_mem_nil, or_false] at hx; subst hx; exact plainSgs _ _ _) ?_
  rw [List.map_cons, renSgs, List.map_nil]; exact hk
end GA
end

section
namespace GA
open Go Go.RowKit Go.Proofs
set_option pp.deepTerms true
set_option maxRecDepth 8000
set_option linter.unusedVariables false
set_option linter.unusedSimpArgs false

noncomputable def dryF (s : Td) (q : Nat) (j : Nat) : Bool := atZ s (opG s) ((tbN s 0).1 + (j : Int)) q == 0
theorem day_le {s : Td} (ok : TdOk s) : (tbN s 0).1 ≤ (tbN s (s.tb.length - 1)).1 := by
  have gen : ∀ k, k < s.tb.length → (tbN s 0).1 ≤ (tbN s k).1 := by
    intro k
    induction k with
    | zero => intro _; omega
    | succ k ih => intro h; have := ih (by omega); have := ok.or k h; omega
  exact gen _ (by have := ok.t1; omega)
set_option maxHeartbeats 1000000 in
theorem tiSpans_c (s : Td) (ok : TdOk s) (q : Nat) (hq : q < s.fl.length) : Comp Tryz.prog 8 [tdA s, natA q, .int .i64 0] (.tup [.sl (rnL (dryF s q) (tbN s 0).1 (dayN s)).isEmpty ((rnL (dryF s q) (tbN s 0).1 (dayN s)).map sgA), .int .i64 0]) := by
  have f2 := ok.f2
  have hd := day_le ok
  have e2 : ((ints s.fl).length : Int) = s.fl.length := by rw [ints_len]
  have ho := tiOpen_c s ok
  have hp := tiPlace_c s q (by omega)
  rw [inZ_iff.2 (by omega)] at hp
  have hi := tiIn_c 0 0 2
  rw [inZ_iff.2 (by omega)] at hi
  have hN : ((dayN s : Nat) : Int) = (tbN s (s.tb.length - 1)).1 - (tbN s 0).1 + 1 := by unfold dayN; omega
  have hs1 : ∀ j : Nat, j < dayN s → Comp Tryz.prog 35 [.int .i64 ((tbN s 0).1 + (j : Int)), .pim [.pim (gdC s (opG s))], .pim [natA q], .pim [.int .i64 0]] (.bool (dryF s q j)) := fun j hj => by
    have ha := tiAtD_c s ok (opG s) ((tbN s 0).1 + (j : Int)) q ⟨by omega, by omega⟩ (by omega)
    unfold dryF
    generalize opG s = G at *
    refine Comp.body (T := tab) (res := [.tmp 5]) tab_ok [] Tryz.func35 rfl (by kernel_rfl) Tryz.ntmps35 rfl (by simp only [List.length_cons, List.length_nil]; decide) (by simp only [lowL, AV.low, gdCL]; rfl) ?_; conv => whnf
    repeat' first | ((with_reducible first | apply Chk.go | apply ChkA.go | apply ChkF.go | apply ChkB.go | apply XNext.mk); conv => whnf) | (with_reducible first | apply XAnd.mk | exact trivial) | (exact XSame.mk rfl rfl) | (apply Walk.drawN (id := 1) tab_ok mixed_ok [] [] (hsU _) [_, _, _, _, _, _, _] (by kernel_rfl) rfl) | ((refine XCall.ret ha ?_); conv => whnf) | fail
    exact ⟨.low rfl⟩
  have hlo : ∀ G : Nat → Int, lowL 0 [AV.pim [.pim (gdC s G)], .pim [natA q], .pim [.int .i64 0]] = true := fun G => by simp only [lowL, AV.low, gdCL]; rfl
  have hsp := fun (rs : List AV) (H : List Blk) (k : AV → List Blk → Prop) => @XCall.tiSpansD s (opG s) _ _ rs _ H k ok (hlo _) hd hs1
  generalize opG s = G at *
  generalize rnL (dryF s q) (tbN s 0).1 (dayN s) = R at *
  refine Comp.body (T := tab) (res := [.tmp 6, .tmp 7]) tab_ok [] Tryz.func8 rfl (by kernel_rfl) Tryz.ntmps8 rfl (by simp only [List.length_cons, List.length_nil]; decide) (by simp only [lowL, AV.low, tdL]; rfl) ?_; conv => whnf
  repeat' first | ((with_reducible first | apply XBr.tt | refine XBr.y2 fun h => ?_ | refine XBr.n2 fun h => ?_ | refine XBr.bne (fun h => ?_) fun h => ?_ | apply Chk.go | apply ChkA.go | apply ChkF.go | apply ChkB.go | apply XNext.mk) <;> conv => whnf) | (with_reducible first | apply XBr.not | apply XAnd.mk | exact trivial) | (exact XSame.mk rfl rfl) | (apply Walk.drawN (id := 4) tab_ok mixed_ok [] [] (hsU _) [_, _, _, _, _, _, _, _] (by kernel_rfl) rfl) | ((first | refine XCall.ret ho ?_ | refine XCall.ret hp ?_ | refine XCall.ret hi ?_ | refine hsp _ _ _ (.cons (.low (gdCL _ _)) (.cons (Froz.agg (one1 rfl) (.cons (Froz.fn (.cons (Froz.ptr rfl (one1 rfl) (.cons (.low (gdCL _ _)) .nil)) (.cons (.low rfl) (.cons (.low rfl) .nil)))) .nil)) .nil)) ?_); conv => whnf) | fail
  exact ⟨Froz.tup (.cons (Froz.grow rfl (List.length_map _) (lowSg _)) (.cons (.low rfl) .nil))⟩
end GA
end

section
namespace GA
open Go Go.RowKit Go.Proofs
set_option pp.deepTerms true
set_option maxRecDepth 8000
set_option linter.unusedVariables false
set_option linter.unusedSimpArgs false

theorem idxf_tsp (nl : Bool) (xs : List (Int × Int)) (g : FuncId) (caps : List AV) (p : (Int × Int) → Bool) (hl : lowL 0 caps = true) (hx : xs.length ≤ 100000) (hp : ∀ x ∈ xs, Comp Tryz.prog g ((sgA x) :: caps) (.bool (p x))) :
    Comp Tryz.prog 55 [.sl nl (xs.map (sgA)), .fn g caps] (.int .i64 (idxR p xs)) := by
  refine Comp.body (T := tab) (res := [.tmp 4]) tab_ok [] Tryz.func55 rfl (by kernel_rfl) Tryz.ntmps55 rfl (by simp only [List.length_cons, List.length_nil]; decide) (by simp only [lowL, AV.low, lowSg, hl]; rfl) ?_; conv => whnf
  refine Walk.loop tab_ok [] (fun i : Nat => i ≤ xs.length ∧ ∀ j, j < i → p (xs.getD j default) = false) (fun i => [(0, .sl nl (xs.map (sgA))), (1, .fn g caps), (7, .int .i64 xs.length), (8, .int .i64 i)]) (fun _ => []) (fun i => xs.length - i) 0 ⟨by omega, by omega⟩ rfl ⟨rfl, rfl, by simp only [List.length_map]; rfl, rfl, trivial⟩ ?_
  rintro i ⟨h2, h3⟩
  conv => whnf
  repeat' first | ((with_reducible first | refine XBr.y fun h => ?_ | refine XBr.n fun h => ?_ | refine XBr.dec (fun h => ?_) fun h => ?_) <;> conv => whnf) | (refine XIx.a ?_; conv => whnf) | fail
  · refine XCall.ret (hp _ (getD_mem (i := i) (d := default) (by omega))) ?_
    conv => whnf
    refine XBr.mk' ?_ ?_ <;> intro h4 <;> (conv => whnf)
    · refine XOut.int ?_
      simp only [idxR, find_some (d := default) (i := i) (by omega) h4 h3]
    · skip
      repeat' ((with_reducible refine XInt.a ?_); conv => whnf)
      refine XAgain.go (i + 1) ⟨by omega, fun j hj => ?_⟩ (by omega) rfl ⟨rfl, rfl, rfl, rfl, trivial⟩
      by_cases hji : j = i
      · subst hji; exact h4
      · exact h3 j (by omega)
  · refine XOut.int ?_
    simp only [idxR, find_none (d := default) fun j hj => h3 j (by omega)]
theorem tiTurn1_c (x : Int × Int) (t : Int) : Comp Tryz.prog 56 [sgA x, .pim [.int .i64 t]] (.bool (inZ t x.1 x.2)) := by
  refine Comp.body (T := tab) (res := [.tmp 3]) tab_ok [] Tryz.func56 rfl (by kernel_rfl) Tryz.ntmps56 rfl (by simp only [List.length_cons, List.length_nil]; decide) (by rfl) ?_; conv => whnf
  repeat' ((refine XCall.ret (tiIn_c _ _ _) ?_); conv => whnf)
  exact XOut.bool rfl
noncomputable def spsT (s : Td) (q : Nat) : List (Int × Int) := rnL (dryF s q) (tbN s 0).1 (dayN s)
set_option maxHeartbeats 1000000 in
theorem tiTurn_c (s : Td) (ok : TdOk s) (q : Nat) (hq : q < s.fl.length) (t : Int) (ht : DayT s t) (i : Nat) (hi : i < (spsT s q).length) (hx : idxR (fun x : Int × Int => inZ t x.1 x.2) (spsT s q) = (i : Int)) :
    Comp Tryz.prog 12 [tdA s, natA q, .int .i64 t] (.tup [.int .i64 ((spsT s q).getD i default).2, .int .i64 0]) := by
  have hs := tiSpans_c s ok q hq
  have ho := tiOpen_c s ok
  have hd := tiDay_c s ok (opG s) t
  rw [inZ_iff.2 ht] at hd
  have hl : (spsT s q).length ≤ 2000 := by
    have h1 := rnL_len (dryF s q) (tbN s 0).1 (dayN s)
    have hm := fun j (hj : j < s.tb.length) => ok.tm _ (getD_mem (xs := s.tb) (d := default) hj)
    have t1 := ok.t1
    have h2 := (hm 0 (by omega)).1
    have h3 := (hm (s.tb.length - 1) (by omega)).1
    have h4 : dayN s ≤ 1500 := by
      unfold dayN tbN
      omega
    unfold spsT
    omega
  change Comp Tryz.prog 8 [tdA s, natA q, .int .i64 0] (.tup [.sl (spsT s q).isEmpty ((spsT s q).map sgA), .int .i64 0]) at hs
  have hidx := idxf_tsp (spsT s q).isEmpty (spsT s q) 56 [.pim [.int .i64 t]] (fun x => inZ t x.1 x.2) rfl (by omega) fun x _ => tiTurn1_c x t
  rw [hx] at hidx
  generalize spsT s q = R at *
  generalize opG s = G at *
  refine Comp.body (T := tab) (res := [.tmp 6, .tmp 7]) tab_ok [] Tryz.func12 rfl (by kernel_rfl) Tryz.ntmps12 rfl (by simp only [List.length_cons, List.length_nil]; decide) (by simp only [lowL, AV.low, tdL]; rfl) ?_; conv => whnf
  repeat' first | ((with_reducible first | apply XBr.tt | refine XBr.y fun h => ?_ | refine XBr.n fun h => ?_ | refine XBr.dec (fun h => ?_) fun h => ?_ | refine XBr.y2 fun h => ?_ | refine XBr.n2 fun h => ?_ | refine XBr.bne (fun h => ?_) fun h => ?_) <;> conv => whnf) | with_reducible apply XBr.not | ((first | refine XIx.a ?_ | refine XCall.ret hs ?_ | refine XCall.ret ho ?_ | refine XCall.ret hd ?_ | refine XCall.ret hidx ?_); conv => whnf) | fail
  exact ⟨.low rfl⟩
theorem sps_at {s : Td} {q : Nat} {t : Int} (ht : DayT s t) (hd : atZ s (opG s) t q = 0) : ∃ i, i < (spsT s q).length ∧ idxR (fun x : Int × Int => inZ t x.1 x.2) (spsT s q) = (i : Int) ∧ t ≤ ((spsT s q).getD i default).2 := by
  obtain ⟨h1, h2⟩ := ht
  have hN : ((dayN s : Nat) : Int) = (tbN s (s.tb.length - 1)).1 - (tbN s 0).1 + 1 := by unfold dayN; omega
  have hf : dryF s q (t - (tbN s 0).1).toNat = true := by
    unfold dryF
    rw [show (tbN s 0).1 + ((t - (tbN s 0).1).toNat : Int) = t by omega, hd]; rfl
  obtain ⟨x, hx, hx1, hx2⟩ := (rnL_ok (dryF s q) (tbN s 0).1 (dayN s)).2 _ (by omega) hf
  rw [show (tbN s 0).1 + ((t - (tbN s 0).1).toNat : Int) = t by omega] at hx1 hx2
  change x ∈ spsT s q at hx
  generalize spsT s q = R at *
  obtain ⟨k, hk, hkx⟩ := List.getElem_of_mem hx
  have hkd : R.getD k default = x := by rw [List.getD_eq_getElem?_getD, List.getElem?_eq_getElem hk, hkx]; rfl
  obtain ⟨m, ⟨m1, m2⟩, m3⟩ := least_ex (P := fun i => i < R.length ∧ inZ t (R.getD i default).1 (R.getD i default).2 = true) k ⟨hk, by rw [hkd]; exact inZ_iff.2 ⟨hx1, hx2⟩⟩
  refine ⟨m, m1, ?_, (inZ_iff.1 m2).2⟩
  have h3 : ∀ j, j < m → inZ t (R.getD j default).1 (R.getD j default).2 = false := fun j hj => Bool.eq_false_iff.2 fun h => m3 j hj ⟨by omega, h⟩
  simp only [idxR, find_some (p := fun x : Int × Int => inZ t x.1 x.2) (d := default) (i := m) m1 m2 h3]
end GA
end

section
namespace GA
open Go Go.RowKit Go.Proofs
set_option maxRecDepth 8000
set_option linter.unusedVariables false
set_option linter.unusedSimpArgs false

def startZ (s : Sn) (m : Nat) : Int := (partsL s s.home.toNat (allN s)).foldl (fun n l => min n (worthZ s ⟨s.home.toNat, m, l⟩)) 60
theorem startZ_le (s : Sn) (m : Nat) : startZ s m ≤ 60 ∧ ∀ l ∈ partsL s s.home.toNat (allN s), startZ s m ≤ worthZ s ⟨s.home.toNat, m, l⟩ := (foldl_min_prop (f := fun l => worthZ s ⟨s.home.toNat, m, l⟩)).2
theorem startZ_ge {s : Sn} {m : Nat} {c : Int} (h0 : c ≤ 60) (h : ∀ l ∈ partsL s s.home.toNat (allN s), c ≤ worthZ s ⟨s.home.toNat, m, l⟩) : c ≤ startZ s m := by
  rcases (foldl_min_prop (f := fun l => worthZ s ⟨s.home.toNat, m, l⟩) (l := partsL s s.home.toNat (allN s)) (b := 60)).1 with e | ⟨l, hl, e⟩
  · unfold startZ; rw [e]; exact h0
  · unfold startZ; rw [e]; exact h l hl
theorem allN_bit (s : Sn) (i : Nat) : (allN s).testBit i = decide (i < s.truths.length) := by unfold allN; exact Nat.testBit_two_pow_sub_one _ _
structure Wider (s u : Sn) : Prop where
  places : s.places = u.places
  home : s.home = u.home
  bed : s.bed = u.bed
  last : s.last = u.last
  ways : s.ways = u.ways
  tr : s.truths.length = u.truths.length
  dry : ∀ i p m, dryT s i p m = true → dryT u i p m = true
  look : ∀ i j p, i < s.truths.length → j < s.truths.length → lookZ u i p = lookZ u j p → lookZ s i p = lookZ s j p
theorem Wider.waysL {s u : Sn} (e : Wider s u) (p : Nat) : waysL s p = waysL u p := by
  unfold GA.waysL
  rw [e.places]
  have : ∀ k, waysK s p k = waysK u p k := fun k => by
    induction k with
    | zero => rfl
    | succ k ih => rw [waysK, waysK, ih]; unfold waysQ; rw [e.ways]
  exact this _
theorem Wider.emb {s u : Sn} (ok : SnOk s) (e : Wider s u) : Emb s u id id fun i => i < s.truths.length := by
  refine ⟨e.last, fun p h => by show (p : Int) < u.places; rw [← e.places]; exact h, fun p h => by rw [← e.home]; exact h, fun p h => by rw [← e.bed]; exact h, fun p t hp ht => ?_, fun i hi => ⟨hi, by show i < _; rw [← e.tr]; exact hi⟩, fun i p m _ h => e.dry i p m h, fun i j p hi hj h => e.look i j p hi hj h⟩
  have hw := waysL_pos ok ht
  rw [e.waysL] at ht
  show (((t.1.toNat : Nat) : Int), t.2) ∈ GA.waysL u p
  rw [Int.toNat_of_nonneg hw.2.2.1]; exact ht
theorem Wider.worth {s u : Sn} (oks : SnOk s) (oku : SnOk u) (e : Wider s u) {p m B A : Nat} (hm : (m : Int) ≤ s.last) (hp : (p : Int) < s.places) (hA : A ≠ 0) (hB : ∀ i, B.testBit i = true → i < s.truths.length) (hAB : ∀ i, A.testBit i = true → B.testBit i = true) : worthZ s ⟨p, m, B⟩ ≤ worthZ u ⟨p, m, A⟩ :=
  worth_mono oks oku (e.emb oks) _ p m B A (Nat.le_refl _) hm hp hA hB fun j hj => ⟨j, hAB j hj, rfl⟩
theorem part_B {s : Sn} (ok : SnOk s) {p left l : Nat} (h : l ∈ partsL s p left) : l ≠ 0 ∧ ∀ i, l.testBit i = true → i < s.truths.length ∧ left.testBit i = true := by
  obtain ⟨n, -, e, hne⟩ := partsL_mem.1 h
  refine ⟨hne, fun i hi => ?_⟩
  rw [e, partN_bit] at hi
  simp only [Bool.and_eq_true, decide_eq_true_eq] at hi
  rw [ok.k1] at hi
  exact ⟨hi.1, hi.2.2⟩
theorem Wider.start {s u : Sn} (oks : SnOk s) (oku : SnOk u) (e : Wider s u) {m : Nat} (hm : (m : Int) ≤ s.last) : startZ s m ≤ startZ u m := by
  refine startZ_ge (startZ_le s m).1 fun l hl => ?_
  obtain ⟨hne, hlB⟩ := part_B oku hl
  have h1 := oks.h1
  obtain ⟨j, hj⟩ := bit_some hne
  have hj' := hlB j hj
  have hjs : j < s.looks.length := by rw [oks.k1, e.tr]; exact hj'.1
  obtain ⟨n, hn, hlk, hpm, hb⟩ := parts_has oks (p := s.home.toNat) (left := allN s) (by omega) hjs (by rw [allN_bit]; exact decide_eq_true (by rw [← oks.k1]; exact hjs))
  refine Int.le_trans ((startZ_le s m).2 _ hpm) ?_
  rw [← e.home]
  obtain ⟨k, -, ek, -⟩ := partsL_mem.1 hl
  have hbits : ∀ i, l.testBit i = true → i < s.truths.length ∧ lookZ u i u.home.toNat = (k : Nat) := fun i hi => by
    rw [ek, partN_bit] at hi
    simp only [Bool.and_eq_true, decide_eq_true_eq, beq_iff_eq] at hi
    rw [oku.k1, ← e.tr] at hi
    exact ⟨hi.1, hi.2.1⟩
  refine e.worth oks oku hm (by omega) hne (fun i hi => ?_) fun i hi => ?_
  · rw [partN_bit, Bool.and_eq_true, decide_eq_true_eq, oks.k1] at hi
    exact hi.1
  · have hi' := hbits i hi
    have hj2 := hbits j hj
    have hll := e.look i j s.home.toNat hi'.1 hj2.1 (by rw [e.home, hi'.2, hj2.2])
    rw [partN_bit, hll, hlk, allN_bit, decide_eq_true hi'.1, decide_eq_true (by rw [oks.k1]; exact hi'.1)]
    simp
where
  bit_some {l : Nat} (h : l ≠ 0) : ∃ j, l.testBit j = true := by
    refine Classical.byContradiction fun h' => h (bit_ext fun j => ?_)
    rw [Nat.zero_testBit]
    cases hb : l.testBit j with
    | false => rfl
    | true => exact absurd ⟨j, hb⟩ h'
end GA
end

section
namespace GA
open Go Go.RowKit Go.Proofs
set_option maxRecDepth 8000
set_option linter.unusedVariables false
set_option linter.unusedSimpArgs false

theorem XGet.to {els : List AV} {n e : Nat} {k : List AV → Prop} (v : AV) (h1 : n = els.length) (h2 : e < n) (hv : els.getD e default = v) (h : k v.cells) : XGet els n e k := ⟨h1, h2, by rw [hv]; exact h⟩
theorem XPut.to {els : List AV} {n e : Nat} {v : AV} {k : List AV → Prop} (els' : List AV) (h1 : n = els.length) (h2 : e < n) (hv : els.set e v = els') (h : k els') : XPut els n e v k := ⟨h1, h2, by rw [hv]; exact h⟩
theorem XRun.heap {P : Program} {T : Tab} {N : Nat} {r : Option Nat} {own : List Nat} {c : Code} {Q : Post} {D : List Nat} {σ : St} {H : List Blk} (H' : List Blk) (h : H' = H) (x : XRun P T N r own c Q D σ H') : XRun P T N r own c Q D σ H := h ▸ x
end GA
end

section
namespace GA
open Go Go.RowKit Go.Proofs
set_option pp.deepTerms true
set_option maxRecDepth 8000
set_option linter.unusedVariables false
set_option linter.unusedSimpArgs false

structure XEndE (P : Program) (n : Nat) (H : List Blk) (r' : AV) (k : AV → List Blk → Prop) : Prop where
  o : ∃ r H1, XEnd P n H r' r H1 ∧ k r H1
theorem ACall.bodyE {P : Program} {T : Tab} {N : Nat} {H : List Blk} {f : FuncId} {fn : Func} {c : Code} {rs : List AV} {res : List ResultVar} {k : AV → List Blk → Prop} (ok : TabOk P T) (own : List Nat) (hf : P.funcs[f]? = some fn) (hb : fn.body = some c) (hn : (fn.name == "runtime.NumGoroutine") = false)
    (hN : fn.ntmps = N) (hr : fn.results = res.toArray) (hl : rs.length ≤ N)
    (x : XRun P T N none own c (XIn T res fun r' H' => XEndE P H.length H' r' k) [] (argX rs) H) : ACall P f rs H k := by
  obtain ⟨h1, h2⟩ := ACall.inl ok own hf hb hn hN hr hl x
  refine ⟨h1, fun E h β w vs s hrs => (h2 E h β w vs s hrs).mono ?_⟩
  rintro e w' ⟨r', H', h', β', v, rfl, ⟨r, H1, ⟨g1, g2, g3, g4⟩, hk⟩, X, s', hrep⟩
  have hH : H' = H1 ++ H'.drop H.length := by rw [← g1, List.take_append_drop]
  rw [hH] at s' X hrep g4
  have s2 := s'.allN (by rw [g2]; exact g3)
  have X2 : Ext h β H h' β' H1 := X.cut (by omega)
  rw [g2] at s2
  exact ⟨r, H1, _, β', v, rfl, hk, ⟨fun b o e => hallN_imm s' (X2.imm b o e), by omega, X2.to⟩, s2, g4 E h' β' w' s' v hrep H1⟩
def HpE (f : FuncId) (qs : List AV) (h : Hp) (Φ : AV → Hp → Prop) : Prop :=
  lowL 0 qs = true ∧ ACall Tryz.prog f (.ptr 0 0 :: qs) [hpC h] fun r' H' => ∃ r h', r.low 0 = true ∧ Φ r h' ∧ r' = r ∧ H' = [hpC h']
theorem XCall.hpE {f : FuncId} {qs : List AV} {h : Hp} {Φ : AV → Hp → Prop} (x : HpE f qs h Φ) {H : List Blk} {k : AV → List Blk → Prop} {j : Nat} (h0 : lget H j = some (hpC h))
    (hk : ∀ r h', Φ r h' → k r (H.set j (hpC h'))) : XCall Tryz.prog f (.ptr j 0 :: qs) H k := by
  constructor
  have e := ACall.frame (ρ := fun i => j + i) (H := H) (k := k) x.2 (fun a b _ _ h => by have : j + a = j + b := h; omega) ?_ (fun y hy => by simp at hy; subst hy; exact hpC_low h) ?_ ?_
  · have hd : renL (fun i => j + i) qs = qs := renL_low0 x.1
    rw [List.map_cons, ← renL_eq, hd] at e
    exact e
  · intro i x1 hi
    rw [lget_eq] at h0
    rcases i with _ | i
    · simp only [List.getElem?_cons_zero, Option.some.injEq] at hi; subst hi
      rw [hpC_ren]; exact h0
    · simp at hi
  · simp only [lowL, AV.low, lowL_mono (Nat.zero_le _) x.1]; rfl
  · rintro r1 H1' ⟨r, h', hr, hΦ, rfl, rfl⟩
    rw [lget_eq] at h0
    have hj := (List.getElem?_eq_some_iff.1 h0).1
    refine ⟨rfl, H.set j (hpC h'), by simp, fun i x1 hi => ?_, fun q hq => ?_, ?_⟩
    · rcases i with _ | i
      · simp only [List.getElem?_cons_zero, Option.some.injEq] at hi; subst hi
        rw [hpC_ren]; simp [hj]
      · simp at hi
    · exact List.getElem?_set_ne (by have := hq 0 (by simp); simpa using this)
    · rw [AV.ren_low (n := 0) (fun i hi => by omega) hr]; exact hk _ _ hΦ
theorem upto_e (u : Hp) (n : Int) (o : u.Ok) (h1 : -100000 ≤ n) (h2 : n ≤ 100000) : ∃ z u', (0 ≤ z ∧ z ≤ max 0 n) ∧ Hp.Ok u' ∧ HpOk 17 [.int .i64 n] u (.int .i64 z) u' :=
  ⟨_, _, modV_bound u n, hpS_ok o, upto_c u n o h1 h2⟩
theorem from_e (u : Hp) (lo hi : Int) (o : u.Ok) (h1 : -10000 ≤ lo) (h2 : lo ≤ 10000) (h3 : -10000 ≤ hi) (h4 : hi ≤ 10000) : ∃ z u', (lo ≤ z ∧ z ≤ max lo hi) ∧ Hp.Ok u' ∧ HpOk 18 [.int .i64 lo, .int .i64 hi] u (.int .i64 z) u' :=
  ⟨_, _, by have := modV_bound u (hi - lo); omega, hpS_ok o, from_c u lo hi o h1 h2 h3 h4⟩
theorem once_e (u : Hp) (n : Int) (o : u.Ok) (h1 : -10000 ≤ n) (h2 : n ≤ 10000) : ∃ b u', Hp.Ok u' ∧ HpOk 19 [.int .i64 n] u (.bool b) u' :=
  ⟨_, _, hpS_ok o, once_c u n o h1 h2⟩
structure MkOk (s : Sn) (last : Int) : Prop where
  ok : SnOk s
  b : SnB s
  p : 2 ≤ s.places
  h : s.home = 0
  l1 : 4 ≤ s.last
  l2 : s.last ≤ last
  b1 : 1 ≤ s.bed
structure WyOk (P p : Int) (W : List Wy) : Prop where
  w : ∀ w ∈ W, 1 ≤ w.2.2 ∧ w.2.2 ≤ 5 ∧ ((w.1 = w.2.1 - 1 ∧ 1 ≤ w.2.1 ∧ w.2.1 < p) ∨ (0 ≤ w.2.1 ∧ w.2.1 ≤ w.1 - 2 ∧ w.1 < p))
  n : ∀ i, i < W.length → ((W.getD i default).1 == (W.getD i default).2.1 || (W.take i).any fun x => leadB x (W.getD i default).1 (W.getD i default).2.1) = false
  l : (W.length : Int) ≤ 2 * (p - 1)
theorem WyOk.nil {P : Int} : WyOk P 1 [] := ⟨by simp, fun i hi => by simp at hi, by simp⟩
theorem rep_app {W : List Wy} {w : Wy} (h : ∀ i, i < W.length → ((W.getD i default).1 == (W.getD i default).2.1 || (W.take i).any fun x => leadB x (W.getD i default).1 (W.getD i default).2.1) = false) (h1 : w.1 ≠ w.2.1) (h2 : ∀ x ∈ W, leadB x w.1 w.2.1 = false) :
    ∀ i, i < (W ++ [w]).length → (((W ++ [w]).getD i default).1 == ((W ++ [w]).getD i default).2.1 || ((W ++ [w]).take i).any fun x => leadB x ((W ++ [w]).getD i default).1 ((W ++ [w]).getD i default).2.1) = false := by
  intro i hi
  rw [List.length_append, List.length_singleton] at hi
  by_cases e : i < W.length
  · have e1 : (W ++ [w]).getD i default = W.getD i default := by rw [List.getD_eq_getElem?_getD, List.getD_eq_getElem?_getD, List.getElem?_append_left e]
    rw [e1, List.take_append_of_le_length (by omega)]
    exact h i e
  · have e0 : i = W.length := by omega
    have e1 : (W ++ [w]).getD i default = w := by rw [List.getD_eq_getElem?_getD, e0, List.getElem?_append_right (Nat.le_refl _), Nat.sub_self]; rfl
    rw [e1, e0, List.take_append_of_le_length (Nat.le_refl _), List.take_length, Bool.or_eq_false_iff]
    refine ⟨by simpa using h1, ?_⟩
    rw [List.any_eq_false]
    intro x hx
    rw [h2 x hx]; simp
theorem WyOk.one {P p m : Int} {W : List Wy} (h : WyOk P p W) (hp : 1 ≤ p) (h1 : 1 ≤ m) (h2 : m ≤ 5) : WyOk P (p + 1) (W ++ [(p - 1, p, m)]) := by
  refine ⟨fun w hw => ?_, rep_app h.n (by dsimp only; omega) fun x hx => ?_, ?_⟩
  · rcases List.mem_append.1 hw with hw | hw
    · have := h.w w hw; omega
    · rw [List.mem_singleton] at hw; subst hw; dsimp only; omega
  · rw [← Bool.not_eq_true, leadB_iff]
    have := h.w x hx
    dsimp only; omega
  · have := h.l
    rw [List.length_append, List.length_singleton]; omega
theorem WyOk.two {P p q m m2 : Int} {W : List Wy} (h : WyOk P p W) (hp : 1 ≤ p) (h1 : 1 ≤ m) (h2 : m ≤ 5) (h3 : 1 ≤ m2) (h4 : m2 ≤ 5) (hq : 0 ≤ q) (hq2 : q ≤ p - 2) : WyOk P (p + 1) ((W ++ [(p - 1, p, m)]) ++ [(p, q, m2)]) := by
  have h' := h.one hp h1 h2
  refine ⟨fun w hw => ?_, rep_app h'.n (by dsimp only; omega) fun x hx => ?_, ?_⟩
  · rcases List.mem_append.1 hw with hw | hw
    · exact h'.w w hw
    · rw [List.mem_singleton] at hw; subst hw; dsimp only; omega
  · rw [← Bool.not_eq_true, leadB_iff]
    dsimp only
    rcases List.mem_append.1 hx with hx | hx
    · have := h.w x hx; omega
    · rw [List.mem_singleton] at hx; subst hx; dsimp only; omega
  · have := h.l
    rw [List.length_append, List.length_append, List.length_singleton, List.length_singleton]; omega
end GA
end

section
namespace GA
open Go Go.RowKit Go.Proofs
set_option pp.deepTerms true
set_option maxRecDepth 8000
set_option linter.unusedVariables false
set_option linter.unusedSimpArgs false

theorem ints_apT (a b : List Int) : ints (a ++ b) = ints a ++ ints b := List.map_append
theorem hpLowT {h : Hp} {x : Blk} (hx : x ∈ [hpC h]) : x.low 1 = true := by rw [List.mem_singleton] at hx; subst hx; exact hpC_low _
theorem Walk.heapT {P : Program} {N : Nat} {r : Option Nat} {c : Code} {Q : Post} {D : List Nat} {σ : St} {H : List Blk} (H' : List Blk) (h : H' = H) (x : Walk P N r c Q D σ H') : Walk P N r c Q D σ H := h ▸ x
def zTd : List AV := [.sl true [], .int .i64 0, .int .i64 0, .sl true [], .sl true []]
structure TbOk (T : List (Int × Int)) (a : Int) : Prop where
  m : ∀ w ∈ T, (0 ≤ w.1 ∧ w.1 < a) ∧ 0 ≤ w.2 ∧ w.2 ≤ 60
  o : ∀ i, i + 1 < T.length → (T.getD i default).1 < (T.getD (i + 1) default).1
theorem TbOk.add {T : List (Int × Int)} {a h d : Int} (o : TbOk T a) (ha : 0 ≤ a) (hh : 0 ≤ h ∧ h ≤ 60) (hd : 1 ≤ d) : TbOk (T ++ [(a, h)]) (a + d) := by
  refine ⟨fun w hw => ?_, fun i hi => ?_⟩
  · rcases List.mem_append.1 hw with hw | hw
    · have := o.m w hw; omega
    · rw [List.mem_singleton] at hw; subst hw; dsimp only; omega
  · rw [List.length_append, List.length_singleton] at hi
    rw [List.getD_eq_getElem?_getD, List.getD_eq_getElem?_getD, List.getElem?_append_left (show i < T.length by omega), ← List.getD_eq_getElem?_getD]
    by_cases e : i + 1 < T.length
    · rw [List.getElem?_append_left e, ← List.getD_eq_getElem?_getD]; exact o.o i e
    · rw [List.getElem?_append_right (by omega), show i + 1 - T.length = 0 by omega]
      exact (o.m _ (getD_mem (d := default) (by omega))).1.2
structure SiOk (n : Nat) (W : List Wy) : Prop where
  h : ∀ x ∈ W, 0 ≤ x.2.2 ∧ x.2.2 ≤ 50
  e : ∀ x ∈ W, (-1 ≤ x.1 ∧ x.1 < n) ∧ -1 ≤ x.2.1 ∧ x.2.1 < n
  n : ∀ x ∈ W, x.1 ≠ x.2.1
theorem SiOk.add {n : Nat} {W : List Wy} {a b c : Int} (o : SiOk n W) (h1 : -1 ≤ a ∧ a < n) (h2 : -1 ≤ b ∧ b < n) (h3 : 0 ≤ c ∧ c ≤ 50) (h4 : a ≠ b) : SiOk n (W ++ [(a, b, c)]) := by
  refine ⟨fun x hx => ?_, fun x hx => ?_, fun x hx => ?_⟩
  · rcases List.mem_append.1 hx with hx | hx
    · exact o.h x hx
    · rw [List.mem_singleton] at hx; subst hx; exact h3
  · rcases List.mem_append.1 hx with hx | hx
    · exact o.e x hx
    · rw [List.mem_singleton] at hx; subst hx; exact ⟨h1, h2⟩
  · rcases List.mem_append.1 hx with hx | hx
    · exact o.n x hx
    · rw [List.mem_singleton] at hx; subst hx; exact h4
structure MdOk (s : Td) : Prop where
  ok : TdOk s
  t4 : s.tb.length ≤ 4
  f4 : s.fl.length ≤ 4
  m : ∀ w ∈ s.tb, w.1 ≤ 200
  w1 : -8 ≤ s.lo
  w2 : s.hi ≤ 8
  nf : s.nf = s.fl.isEmpty
theorem md_ok {T : List (Int × Int)} {lo hi a : Int} {fl : List Int} {W : List Wy} (t1 : 2 ≤ T.length) (t2 : T.length ≤ 4) (f1 : 1 ≤ fl.length) (f2 : fl.length ≤ 4) (s1 : W.length ≤ 6) (oT : TbOk T a) (ha : a ≤ 200) (h1 : -8 ≤ lo ∧ lo ≤ 0) (h2 : 0 ≤ hi ∧ hi ≤ 8)
    (hf : ∀ n ∈ fl, 0 ≤ n ∧ n ≤ 50) (oW : SiOk fl.length W) : MdOk ⟨T.isEmpty, T, lo, hi, fl.isEmpty, fl, W.isEmpty, W⟩ := by
  refine ⟨⟨t1, by dsimp only; omega, f1, by dsimp only; omega, by dsimp only; omega, fun w hw => by have := oT.m w hw; omega, by dsimp only; omega, by dsimp only; omega, by dsimp only; omega, fun n hn => by have := hf n hn; omega, fun x hx => by have := oW.h x hx; omega, oT.o, oW.e, oW.n⟩, t2, f2, fun w hw => by have := oT.m w hw; omega, h1.1, h2.2, rfl⟩
set_option maxHeartbeats 8000000 in
theorem tideMade_c (u : Hp) (o : u.Ok) : HpE 4 [.int .i64 4, .int .i64 6] u fun r u' => ∃ s, r = tdA s ∧ MdOk s ∧ u'.Ok := by
  refine ⟨rfl, ?_⟩
  obtain ⟨Z1, u1, hZ1, o1, hc1⟩ := upto_e u 8 o (by omega) (by omega)
  obtain ⟨Z2, u2, hZ2, o2, hc2⟩ := upto_e u1 8 o1 (by omega) (by omega)
  obtain ⟨A, u3, hA, o3, hc3⟩ := upto_e u2 20 o2 (by omega) (by omega)
  obtain ⟨N, u4, hN, o4, hc4⟩ := from_e u3 2 4 o3 (by omega) (by omega) (by omega) (by omega)
  refine ACall.bodyE (T := tab) (res := [.cell 6 29]) tab_ok [] Tryz.func4 rfl (by kernel_rfl) Tryz.ntmps4 rfl (by simp only [List.length_cons, List.length_nil]; decide) ?_; conv => whnf
  repeat' first | ((first | (with_reducible refine XInt.a ?_) | (first | refine XCall.hp (j := 0) hc1 rfl rfl ?_ | refine XCall.hp (j := 0) hc2 rfl rfl ?_ | refine XCall.hp (j := 0) hc3 rfl rfl ?_ | refine XCall.hp (j := 0) hc4 rfl rfl ?_)); conv => whnf) | fail
  refine Walk.nilcell 2 0 37 rfl rfl ?_
  refine Walk.nilcell 2 3 3 rfl rfl ?_
  refine Walk.nilcell 2 4 77 rfl rfl ?_
  refine Walk.heapT [hpC u4, .cells zTd, .cells [.gr 3 0, .int .i64 (0 - Z1), .int .i64 Z2, .gr 4 0, .gr 5 0], .grow 37 true [], .grow 3 true [], .grow 77 true []] rfl ?_
  clear hc1 hc2 hc3 hc4 o o1 o2 o3
  refine Walk.loopK tab_ok [] [(0, _), (1, _), (2, _), (6, _), (7, _), (22, _)] ⟨rfl, rfl, rfl, rfl, rfl, rfl, trivial⟩ (fun g : Nat × List (Int × Int) × Int × Hp => ((g.1 : Int) ≤ N ∧ g.2.1.length = g.1) ∧ TbOk g.2.1 g.2.2.1 ∧ (0 ≤ g.2.2.1 ∧ g.2.2.1 ≤ 20 + 30 * (g.1 : Int)) ∧ g.2.2.2.Ok) (fun g => [(8, .int .i64 g.2.2.1), (23, natA g.1)]) (fun g => [hpC g.2.2.2, .cells zTd, .cells [.gr 3 g.2.1.length, .int .i64 (0 - Z1), .int .i64 Z2, .gr 4 0, .gr 5 0], .grow 37 g.2.1.isEmpty (g.2.1.map sgA), .grow 3 true [], .grow 77 true []]) (fun g => N.toNat - g.1) (0, [], A, u4) ⟨⟨by dsimp only; omega, rfl⟩, ⟨by simp, fun i hi => by simp at hi⟩, by dsimp only; omega, o4⟩ rfl ⟨rfl, rfl, trivial⟩ ?_
  clear o4
  rintro ⟨k, T, a, v⟩ ⟨⟨hk, hTl⟩, oT, ha, ov⟩
  dsimp only at hk hTl oT ha ov ⊢
  have hTm : (T.map sgA).length = T.length := List.length_map _
  conv => whnf
  by_cases hlt : (k : Int) < N
  · obtain ⟨z, v1, hz, ov1, hd1⟩ := upto_e v 60 ov (by omega) (by omega)
    obtain ⟨d, v2, hd, ov2, hd2⟩ := from_e v1 1 30 ov1 (by omega) (by omega) (by omega) (by omega)
    have oT2 := oT.add (h := z) (d := d) ha.1 (by omega) hd.1
    repeat' first | ((with_reducible first | refine XBr.y fun h => ?_ | refine XBr.n fun h => ?_ | refine XBr.dec (fun h => ?_) fun h => ?_ | refine XInt.a ?_ | apply Chk.go | apply ChkA.go | apply ChkF.go | apply ChkB.go | apply XNext.mk) <;> conv => whnf) | (refine XHold.a ?_; conv => whnf) | (with_reducible first | apply XAnd.mk | exact trivial) | (exact XSame.mk rfl rfl) | (apply Walk.drawN (id := 5) tab_ok mixed_ok [] [4, 7, 9] (hsC [_, _, _, _]) [_, _, _, _, _, _, _, _, _, _] (by kernel_rfl) rfl) | ((first | refine XCall.hp (j := 0) hd1 rfl rfl ?_ | refine XCall.hp (j := 0) hd2 rfl rfl ?_); conv => whnf) | fail
    refine XAgain.go (k + 1, T ++ [(a, z)], a + d, v2) ⟨⟨by dsimp only; omega, by dsimp only; rw [List.length_append, hTl]; rfl⟩, oT2, by dsimp only; omega, ov2⟩ (by dsimp only; omega) ?_ ⟨rfl, rfl, rfl, rfl, rfl, rfl, rfl, rfl, trivial⟩
    dsimp only
    rw [List.length_append, isEmpty_app, List.map_append]; rfl
  have hkN : (k : Int) = N := by omega
  obtain ⟨M, u5, hM, o5, hc5⟩ := from_e v 1 4 ov (by omega) (by omega) (by omega) (by omega)
  have ha2 : a ≤ 200 := by omega
  have ht1 : 2 ≤ T.length := by omega
  have ht2 : T.length ≤ 4 := by omega
  repeat' first | ((with_reducible first | refine XBr.y fun h => ?_ | refine XBr.n fun h => ?_ | refine XBr.dec (fun h => ?_) fun h => ?_) <;> conv => whnf) | ((refine XCall.hp (j := 0) hc5 rfl rfl ?_); conv => whnf) | fail
  refine Walk.heapT [hpC u5, .cells zTd, .cells [.gr 3 T.length, .int .i64 (0 - Z1), .int .i64 Z2, .gr 4 0, .gr 5 0], .grow 37 T.isEmpty (T.map sgA), .grow 3 true [], .grow 77 true []] rfl ?_
  clear hc5 ov hlt hk
  refine Walk.loopK tab_ok [] [(0, _), (2, _), (6, _), (7, _), (41, _)] ⟨rfl, rfl, rfl, rfl, rfl, trivial⟩ (fun g : Nat × List Int × Hp => ((g.1 : Int) ≤ M ∧ g.2.1.length = g.1) ∧ (∀ n ∈ g.2.1, 0 ≤ n ∧ n ≤ 50) ∧ g.2.2.Ok) (fun g => [(42, natA g.1)]) (fun g => [hpC g.2.2, .cells zTd, .cells [.gr 3 T.length, .int .i64 (0 - Z1), .int .i64 Z2, .gr 4 g.2.1.length, .gr 5 0], .grow 37 T.isEmpty (T.map sgA), .grow 3 g.2.1.isEmpty (ints g.2.1), .grow 77 true []]) (fun g => M.toNat - g.1) (0, [], u5) ⟨⟨by dsimp only; omega, rfl⟩, by simp, o5⟩ rfl ⟨rfl, trivial⟩ ?_
  clear o5
  rintro ⟨q, fl, v⟩ ⟨⟨hq, hfl⟩, oF, ov⟩
  dsimp only at hq hfl oF ov ⊢
  have hFm : (ints fl).length = fl.length := ints_len _
  conv => whnf
  by_cases hlt : (q : Int) < M
  · obtain ⟨z, v1, hz, ov1, hd1⟩ := upto_e v 50 ov (by omega) (by omega)
    repeat' first | ((with_reducible first | refine XBr.y fun h => ?_ | refine XBr.n fun h => ?_ | refine XBr.dec (fun h => ?_) fun h => ?_ | refine XInt.a ?_ | apply Chk.go | apply ChkA.go | apply ChkF.go | apply ChkB.go | apply XNext.mk) <;> conv => whnf) | (refine XHold.a ?_; conv => whnf) | (with_reducible first | apply XAnd.mk | exact trivial) | (exact XSame.mk rfl rfl) | (apply Walk.drawN (id := 10) tab_ok mixed_ok [] [3, 5, 7] (hsC [_, _, _, _]) [_, _, _, _, _, _, _, _] (by kernel_rfl) rfl) | ((refine XCall.hp (j := 0) hd1 rfl rfl ?_); conv => whnf) | fail
    refine XAgain.go (q + 1, fl ++ [z], v1) ⟨⟨by dsimp only; omega, by dsimp only; rw [List.length_append, hfl]; rfl⟩, fun n hn => ?_, ov1⟩ (by dsimp only; omega) ?_ ⟨rfl, rfl, rfl, rfl, rfl, rfl, trivial⟩
    · rcases List.mem_append.1 hn with hn | hn
      · exact oF n hn
      · rw [List.mem_singleton] at hn; subst hn; omega
    dsimp only
    rw [List.length_append, isEmpty_app, ints_apT]; rfl
  have hqM : (q : Int) = M := by omega
  obtain ⟨S, u6, hS, o6, hc6⟩ := upto_e v 6 ov (by omega) (by omega)
  have hf1 : 1 ≤ fl.length := by omega
  have hf2 : fl.length ≤ 4 := by omega
  repeat' first | ((with_reducible first | refine XBr.y fun h => ?_ | refine XBr.n fun h => ?_ | refine XBr.dec (fun h => ?_) fun h => ?_) <;> conv => whnf) | ((refine XCall.hp (j := 0) hc6 rfl rfl ?_); conv => whnf) | fail
  refine Walk.heapT [hpC u6, .cells zTd, .cells [.gr 3 T.length, .int .i64 (0 - Z1), .int .i64 Z2, .gr 4 fl.length, .gr 5 0], .grow 37 T.isEmpty (T.map sgA), .grow 3 fl.isEmpty (ints fl), .grow 77 true []] rfl ?_
  clear hc6 ov hlt hq
  refine Walk.loopGK tab_ok [] [(0, _), (6, _), (7, _), (54, _)] ⟨rfl, rfl, rfl, rfl, trivial⟩ (fun g : Nat × List Wy × Hp => ((g.1 : Int) ≤ S ∧ g.2.1.length ≤ g.1) ∧ SiOk fl.length g.2.1 ∧ g.2.2.Ok) (fun g => [(55, natA g.1)]) (fun g => [hpC g.2.2, .cells zTd, .cells [.gr 3 T.length, .int .i64 (0 - Z1), .int .i64 Z2, .gr 4 fl.length, .gr 5 g.2.1.length], .grow 37 T.isEmpty (T.map sgA), .grow 3 fl.isEmpty (ints fl), .grow 77 g.2.1.isEmpty (g.2.1.map wyA)]) (fun g => S.toNat - g.1) (0, [], u6) ⟨⟨by dsimp only; omega, Nat.le_refl _⟩, ⟨by simp, by simp, by simp⟩, o6⟩ rfl ⟨rfl, trivial⟩ ?_ (fun _ _ => (show (6 : Nat) ≤ 6 from Nat.le_refl 6)) ?_
  · intro g _
    refine ⟨fun z hz => ?_, fun z hz => ?_⟩
    · simp only [List.mem_cons, List.not_mem_nil, or_false] at hz
      rcases hz with rfl | rfl | rfl | rfl | rfl | rfl
      · exact hpC_low _
      · rfl
      · rfl
      · exact lowSg _
      · exact lowI _
      · exact lowWy _
    · simp only [List.cons_append, List.nil_append, List.mem_cons, List.not_mem_nil, or_false] at hz
      rcases hz with rfl | rfl | rfl | rfl | rfl <;> rfl
  clear o6
  rintro ⟨i, W, v⟩ ⟨⟨hi, hWl⟩, oW, ov⟩
  dsimp only at hi hWl oW ov ⊢
  have hWm : (W.map wyA).length = W.length := List.length_map _
  conv => whnf
  by_cases hlt : (i : Int) < S
  · have hstep : ∀ {a b c : Int} {v' : Hp}, Hp.Ok v' → SiOk fl.length (W ++ [(a, b, c)]) → ((((i + 1 : Nat) : Int) ≤ S ∧ (W ++ [(a, b, c)]).length ≤ i + 1) ∧ SiOk fl.length (W ++ [(a, b, c)]) ∧ Hp.Ok v') := fun o1 o2 => ⟨⟨by omega, by rw [List.length_append, List.length_singleton]; omega⟩, o2, o1⟩
    have hskip : ∀ {v' : Hp}, Hp.Ok v' → ((((i + 1 : Nat) : Int) ≤ S ∧ W.length ≤ i + 1) ∧ SiOk fl.length W ∧ Hp.Ok v') := fun o1 => ⟨⟨by omega, by omega⟩, oW, o1⟩
    have hp1 : 0 ≤ min (i : Int) ((fl.length : Int) - 1) ∧ min (i : Int) ((fl.length : Int) - 1) < fl.length := by omega
    obtain ⟨z1, v1, hz1, ov1, hd1⟩ := from_e v (-1) (min (i : Int) ((fl.length : Int) - 1) - 1) ov (by omega) (by omega) (by omega) (by omega)
    obtain ⟨z2, v2, hz2, ov2, hd2⟩ := upto_e v1 50 ov1 (by omega) (by omega)
    by_cases hc : (fl.length : Int) ≤ i
    · obtain ⟨z3, v3, hz3, ov3, hd3⟩ := from_e v2 (-1) ((fl.length : Int) - 1) ov2 (by omega) (by omega) (by omega) (by omega)
      obtain ⟨z4, v4, hz4, ov4, hd4⟩ := upto_e v3 ((fl.length : Int) - 1) ov3 (by omega) (by omega)
      obtain ⟨b, v5, ov5, hd5⟩ := once_e v4 3 ov4 (by omega) (by omega)
      by_cases he : z3 = z4
      · cases b with
        | true =>
          repeat' first | ((with_reducible first | refine XBr.y fun h => ?_ | refine XBr.n fun h => ?_ | refine XBr.dec (fun h => ?_) fun h => ?_ | refine XInt.a ?_) <;> conv => whnf) | ((first | refine XHold.a ?_ | refine XCall.hp (j := 0) hd1 rfl rfl ?_ | refine XCall.hp (j := 0) hd2 rfl rfl ?_); conv => whnf) | fail
          apply Walk.drawX tab_ok mixed_ok [] [5, 11, 13, 15] (hsC [_, _, _, _, _]) [_, _, _, _, _, _, _, _, _, _, _, _, _, _, _, _] (by kernel_rfl) rfl
          · skip
            repeat' first | ((with_reducible first | refine XInt.a ?_ | apply Chk.go | apply ChkA.go); conv => whnf) | (refine XHold.a ?_; conv => whnf) | (with_reducible first | apply XAnd.mk | exact trivial) | (exact XSame.mk rfl rfl) | ((first | refine XCall.hp (j := 0) hd3 rfl rfl ?_ | refine XCall.hp (j := 0) hd4 rfl rfl ?_); conv => whnf) | fail
          · skip
            repeat' first | ((with_reducible first | refine XInt.a ?_ | apply Chk.go | apply ChkF.go | apply ChkB.go); conv => whnf) | (refine XHold.a ?_; conv => whnf) | (with_reducible first | apply XAnd.mk | exact trivial) | (exact XSame.mk rfl rfl) | fail
          conv => whnf
          repeat' first | ((with_reducible first | apply XBr.tt | refine XBr.y2 fun h => ?_ | refine XBr.n2 fun h => ?_ | refine XBr.bne (fun h => ?_) fun h => ?_ | refine XInt.a ?_) <;> conv => whnf) | ((refine XCall.hp (j := 0) hd5 rfl rfl ?_); conv => whnf) | fail
          exact XAgainG.go (i + 1, W, v5) [_] (hskip ov5) (by dsimp only; omega) rfl ⟨rfl, rfl, rfl, rfl, rfl, trivial⟩
        | false =>
          repeat' first | ((with_reducible first | refine XBr.y fun h => ?_ | refine XBr.n fun h => ?_ | refine XBr.dec (fun h => ?_) fun h => ?_ | refine XInt.a ?_) <;> conv => whnf) | ((first | refine XHold.a ?_ | refine XCall.hp (j := 0) hd1 rfl rfl ?_ | refine XCall.hp (j := 0) hd2 rfl rfl ?_); conv => whnf) | fail
          apply Walk.drawX tab_ok mixed_ok [] [5, 11, 13, 15] (hsC [_, _, _, _, _]) [_, _, _, _, _, _, _, _, _, _, _, _, _, _, _, _] (by kernel_rfl) rfl
          · skip
            repeat' first | ((with_reducible first | refine XInt.a ?_ | apply Chk.go | apply ChkA.go); conv => whnf) | (refine XHold.a ?_; conv => whnf) | (with_reducible first | apply XAnd.mk | exact trivial) | (exact XSame.mk rfl rfl) | ((first | refine XCall.hp (j := 0) hd3 rfl rfl ?_ | refine XCall.hp (j := 0) hd4 rfl rfl ?_); conv => whnf) | fail
          · skip
            repeat' first | ((with_reducible first | refine XInt.a ?_ | apply Chk.go | apply ChkF.go | apply ChkB.go); conv => whnf) | (refine XHold.a ?_; conv => whnf) | (with_reducible first | apply XAnd.mk | exact trivial) | (exact XSame.mk rfl rfl) | fail
          conv => whnf
          repeat' first | ((with_reducible first | apply XBr.ff | refine XBr.y2 fun h => ?_ | refine XBr.n2 fun h => ?_ | refine XBr.bne (fun h => ?_) fun h => ?_ | refine XInt.a ?_) <;> conv => whnf) | ((refine XCall.hp (j := 0) hd5 rfl rfl ?_); conv => whnf) | fail
          exact XAgainG.go (i + 1, W, v5) [_] (hskip ov5) (by dsimp only; omega) rfl ⟨rfl, rfl, rfl, rfl, rfl, trivial⟩
      · cases b with
        | true =>
          repeat' first | ((with_reducible first | refine XBr.y fun h => ?_ | refine XBr.n fun h => ?_ | refine XBr.dec (fun h => ?_) fun h => ?_ | refine XInt.a ?_) <;> conv => whnf) | ((first | refine XHold.a ?_ | refine XCall.hp (j := 0) hd1 rfl rfl ?_ | refine XCall.hp (j := 0) hd2 rfl rfl ?_); conv => whnf) | fail
          apply Walk.drawX tab_ok mixed_ok [] [5, 11, 13, 15] (hsC [_, _, _, _, _]) [_, _, _, _, _, _, _, _, _, _, _, _, _, _, _, _] (by kernel_rfl) rfl
          · skip
            repeat' first | ((with_reducible first | refine XInt.a ?_ | apply Chk.go | apply ChkA.go); conv => whnf) | (refine XHold.a ?_; conv => whnf) | (with_reducible first | apply XAnd.mk | exact trivial) | (exact XSame.mk rfl rfl) | ((first | refine XCall.hp (j := 0) hd3 rfl rfl ?_ | refine XCall.hp (j := 0) hd4 rfl rfl ?_); conv => whnf) | fail
          · skip
            repeat' first | ((with_reducible first | refine XInt.a ?_ | apply Chk.go | apply ChkF.go | apply ChkB.go); conv => whnf) | (refine XHold.a ?_; conv => whnf) | (with_reducible first | apply XAnd.mk | exact trivial) | (exact XSame.mk rfl rfl) | fail
          conv => whnf
          repeat' first | ((with_reducible first | apply XBr.tt | refine XBr.y2 fun h => ?_ | refine XBr.n2 fun h => ?_ | refine XBr.bne (fun h => ?_) fun h => ?_ | refine XInt.a ?_) <;> conv => whnf) | ((first | refine XHold.a ?_ | refine XCall.hp (j := 0) hd5 rfl rfl ?_); conv => whnf) | fail
          refine XAgainG.go (i + 1, W ++ [(z4, z3, z2)], v5) [.cells [.int .i64 z4, .int .i64 z3, .int .i64 z2]] (hstep ov5 (oW.add (by omega) (by omega) (by omega) (by omega))) (by dsimp only; omega) ?_ ⟨rfl, rfl, rfl, rfl, rfl, trivial⟩
          dsimp only
          rw [List.length_append, isEmpty_app, List.map_append]; rfl
        | false =>
          repeat' first | ((with_reducible first | refine XBr.y fun h => ?_ | refine XBr.n fun h => ?_ | refine XBr.dec (fun h => ?_) fun h => ?_ | refine XInt.a ?_) <;> conv => whnf) | ((first | refine XHold.a ?_ | refine XCall.hp (j := 0) hd1 rfl rfl ?_ | refine XCall.hp (j := 0) hd2 rfl rfl ?_); conv => whnf) | fail
          apply Walk.drawX tab_ok mixed_ok [] [5, 11, 13, 15] (hsC [_, _, _, _, _]) [_, _, _, _, _, _, _, _, _, _, _, _, _, _, _, _] (by kernel_rfl) rfl
          · skip
            repeat' first | ((with_reducible first | refine XInt.a ?_ | apply Chk.go | apply ChkA.go); conv => whnf) | (refine XHold.a ?_; conv => whnf) | (with_reducible first | apply XAnd.mk | exact trivial) | (exact XSame.mk rfl rfl) | ((first | refine XCall.hp (j := 0) hd3 rfl rfl ?_ | refine XCall.hp (j := 0) hd4 rfl rfl ?_); conv => whnf) | fail
          · skip
            repeat' first | ((with_reducible first | refine XInt.a ?_ | apply Chk.go | apply ChkF.go | apply ChkB.go); conv => whnf) | (refine XHold.a ?_; conv => whnf) | (with_reducible first | apply XAnd.mk | exact trivial) | (exact XSame.mk rfl rfl) | fail
          conv => whnf
          repeat' first | ((with_reducible first | apply XBr.ff | refine XBr.y2 fun h => ?_ | refine XBr.n2 fun h => ?_ | refine XBr.bne (fun h => ?_) fun h => ?_ | refine XInt.a ?_) <;> conv => whnf) | ((first | refine XHold.a ?_ | refine XCall.hp (j := 0) hd5 rfl rfl ?_); conv => whnf) | fail
          refine XAgainG.go (i + 1, W ++ [(z3, z4, z2)], v5) [.cells [.int .i64 z3, .int .i64 z4, .int .i64 z2]] (hstep ov5 (oW.add (by omega) (by omega) (by omega) (by omega))) (by dsimp only; omega) ?_ ⟨rfl, rfl, rfl, rfl, rfl, trivial⟩
          dsimp only
          rw [List.length_append, isEmpty_app, List.map_append]; rfl
    · obtain ⟨b, v3, ov3, hd3⟩ := once_e v2 3 ov2 (by omega) (by omega)
      cases b with
      | true =>
        repeat' first | ((with_reducible first | apply XBr.tt | refine XBr.y fun h => ?_ | refine XBr.n fun h => ?_ | refine XBr.dec (fun h => ?_) fun h => ?_ | refine XBr.y2 fun h => ?_ | refine XBr.n2 fun h => ?_ | refine XBr.bne (fun h => ?_) fun h => ?_ | refine XInt.a ?_) <;> conv => whnf) | ((first | refine XHold.a ?_ | refine XCall.hp (j := 0) hd1 rfl rfl ?_ | refine XCall.hp (j := 0) hd2 rfl rfl ?_ | refine XCall.hp (j := 0) hd3 rfl rfl ?_); conv => whnf) | fail
        refine XAgainG.go (i + 1, W ++ [(min (i : Int) ((fl.length : Int) - 1), z1, z2)], v3) [.cells [.int .i64 (min (i : Int) ((fl.length : Int) - 1)), .int .i64 z1, .int .i64 z2]] (hstep ov3 (oW.add (by omega) (by omega) (by omega) (by omega))) (by dsimp only; omega) ?_ ⟨rfl, rfl, rfl, rfl, rfl, trivial⟩
        dsimp only
        rw [List.length_append, isEmpty_app, List.map_append]; rfl
      | false =>
        repeat' first | ((with_reducible first | apply XBr.ff | refine XBr.y fun h => ?_ | refine XBr.n fun h => ?_ | refine XBr.dec (fun h => ?_) fun h => ?_ | refine XBr.y2 fun h => ?_ | refine XBr.n2 fun h => ?_ | refine XBr.bne (fun h => ?_) fun h => ?_ | refine XInt.a ?_) <;> conv => whnf) | ((first | refine XHold.a ?_ | refine XCall.hp (j := 0) hd1 rfl rfl ?_ | refine XCall.hp (j := 0) hd2 rfl rfl ?_ | refine XCall.hp (j := 0) hd3 rfl rfl ?_); conv => whnf) | fail
        refine XAgainG.go (i + 1, W ++ [(z1, min (i : Int) ((fl.length : Int) - 1), z2)], v3) [.cells [.int .i64 z1, .int .i64 (min (i : Int) ((fl.length : Int) - 1)), .int .i64 z2]] (hstep ov3 (oW.add (by omega) (by omega) (by omega) (by omega))) (by dsimp only; omega) ?_ ⟨rfl, rfl, rfl, rfl, rfl, trivial⟩
        dsimp only
        rw [List.length_append, isEmpty_app, List.map_append]; rfl
  repeat' ((with_reducible first | refine XBr.y fun h => ?_ | refine XBr.n fun h => ?_ | refine XBr.dec (fun h => ?_) fun h => ?_) <;> conv => whnf)
  exact ⟨_, [hpC v], ⟨rfl, rfl, fun x hx => hpLowT hx, FrozN.agg (tdOne ⟨T.isEmpty, T, 0 - Z1, Z2, fl.isEmpty, fl, W.isEmpty, W⟩) (.cons (FrozN.grow (show (1 : Nat) ≤ 3 by omega) rfl hTm (lowSg _)) (.cons (.low rfl) (.cons (.low rfl) (.cons (FrozN.grow (show (1 : Nat) ≤ 4 by omega) rfl hFm (lowI _)) (.cons (FrozN.grow (show (1 : Nat) ≤ 5 by omega) rfl hWm (lowWy _)) .nil)))))⟩, _, v, tdL _, ⟨_, rfl, md_ok ht1 ht2 hf1 hf2 (by omega) oT ha2 (by omega) (by omega) oF oW, ov⟩, rfl, rfl⟩
end GA
end

section
namespace GA
open Go Go.RowKit Go.Proofs
set_option maxRecDepth 8000
set_option linter.unusedVariables false
set_option linter.unusedSimpArgs false

theorem turn_at {s : Sn} (ok : SnOk s) (l : Nat) : (turnN s l = -1 ∧ ∀ m : Nat, (m : Int) ≤ s.last → worthZ s ⟨s.bed.toNat, m, l⟩ = -1) ∨ ∃ n : Nat, turnN s l = n ∧ (n : Int) ≤ s.last ∧ worthZ s ⟨s.bed.toNat, n, l⟩ ≠ -1 ∧ ∀ m : Nat, n < m → (m : Int) ≤ s.last → worthZ s ⟨s.bed.toNat, m, l⟩ = -1 := by
  have l1 := ok.l1
  have hb : ∀ b, turnB s l b = false → worthZ s ⟨s.bed.toNat, s.last.toNat - b, l⟩ = -1 := fun b h => by
    unfold turnB at h
    rw [bne_eq_false_iff_eq] at h; exact h
  cases h : (List.range (s.last.toNat + 1)).find? (turnB s l) with
  | none =>
    left
    refine ⟨by unfold turnN; rw [h], fun m hm => ?_⟩
    have h1 := List.find?_eq_none.1 h (s.last.toNat - m) (List.mem_range.2 (by omega))
    have h2 := hb _ (by simpa using h1)
    rwa [show s.last.toNat - (s.last.toNat - m) = m by omega] at h2
  | some b =>
    right
    obtain ⟨h1, h2, h3⟩ := List.find?_range_eq_some.1 h
    rw [List.mem_range] at h2
    refine ⟨s.last.toNat - b, by unfold turnN; rw [h]; show s.last - (b : Int) = _; omega, by omega, ?_, fun m hm1 hm2 => ?_⟩
    · unfold turnB at h1
      rw [bne_iff_ne] at h1; exact h1
    · have h4 := hb _ (by simpa using h3 (s.last.toNat - m) (by omega))
      rwa [show s.last.toNat - (s.last.toNat - m) = m by omega] at h4
structure OneW (s : Sn) (w : Int) : Prop where
  ok : SnOk s
  ways : s.ways = [(s.home, s.bed, w)]
  look : ∀ t p, lookZ s t p = 0
theorem part_all {s : Sn} {w : Int} (o : OneW s w) {p l a : Nat} (hl : l ≤ allN s) (h : a ∈ partsL s p l) : a = l := by
  obtain ⟨n, h1, h2, h3⟩ := partsL_mem.1 h
  have h0 : n = 0 := by
    refine Classical.byContradiction fun hn => h3 ?_
    rw [h2]
    refine bit_ext fun i => ?_
    rw [partN_bit, o.look, Nat.zero_testBit, show ((0 : Int) == (n : Int)) = false from by rw [beq_eq_false_iff_ne]; omega]
    simp
  subst h0
  rw [h2]
  refine bit_ext fun i => ?_
  rw [partN_bit, o.look, show ((0 : Int) == ((0 : Nat) : Int)) = true from rfl, Bool.true_and]
  by_cases hi : i < s.looks.length
  · rw [decide_eq_true hi, Bool.true_and]
  · rw [decide_eq_false hi, Bool.false_and]
    have hlt : l < 2 ^ i := by
      have h4 : 2 ^ s.truths.length ≤ 2 ^ i := Nat.pow_le_pow_right (by omega) (by have := o.ok.k1; omega)
      have h5 : 0 < 2 ^ s.truths.length := Nat.pow_pos (by omega)
      unfold allN at hl
      omega
    exact (Nat.testBit_lt_two_pow hlt).symm
theorem bed_way {s : Sn} {w : Int} (o : OneW s w) {t : Int × Int} (h : t ∈ waysL s s.bed.toNat) : t = (s.bed, 1) ∨ t = (s.home, w) := by
  have b1 := o.ok.b1
  have h1 := o.ok.h1
  obtain ⟨q, hq, hm⟩ := waysK_mem.1 h
  unfold waysQ at hm
  rcases List.mem_append.1 hm with hm | hm
  · split at hm
    · rw [List.mem_singleton] at hm
      left; rw [hm, Int.toNat_of_nonneg b1.1]
    · cases hm
  · obtain ⟨x, hx, rfl⟩ := List.mem_map.1 hm
    rw [o.ways] at hx
    obtain ⟨hx1, hx2⟩ := List.mem_filter.1 hx
    rw [List.mem_singleton] at hx1
    subst hx1
    have hh := leadB_iff.1 hx2
    dsimp only at hh
    have hb := o.ok.hb
    rw [Int.toNat_of_nonneg b1.1] at hh
    right
    rcases hh with ⟨e1, e2⟩ | ⟨e1, e2⟩
    · exact absurd e1 hb
    · rw [← e1]
theorem turn_home {s : Sn} {w : Int} (o : OneW s w) (h : turnN s (allN s) ≠ -1) : ∃ n : Nat, turnN s (allN s) = n ∧ 1 ≤ w ∧ w ≤ 20 ∧ (n : Int) + w ≤ s.last ∧ ∀ i, i < s.truths.length → dryT s i s.home.toNat ((n : Int) + w).toNat = true := by
  have b1 := o.ok.b1
  have h1 := o.ok.h1
  rcases turn_at o.ok (allN s) with ⟨e, -⟩ | ⟨n, e, hn, hw, hlast⟩
  · exact absurd e h
  refine ⟨n, e, ?_⟩
  rw [worthZ_eq o.ok (x := ⟨s.bed.toNat, n, allN s⟩) hn] at hw
  cases hs : safeB s ⟨s.bed.toNat, n, allN s⟩ with
  | false => exact absurd (by unfold bestZ; rw [if_neg (by rw [hs]; simp)]) hw
  | true =>
    obtain ⟨-, -, h3⟩ := bestZ_step (f := worthZ s) hs
    rcases h3 with h3 | ⟨t, ht, h3⟩
    · rw [h3] at hw
      refine absurd ?_ hw
      unfold homeZ
      rw [if_neg]
      show ¬ ((s.bed.toNat : Nat) : Int) = s.home
      rw [Int.toNat_of_nonneg b1.1]
      exact fun e => o.ok.hb e.symm
    · rw [h3] at hw
      obtain ⟨y, hy⟩ := List.exists_mem_of_ne_nil _ ht
      obtain ⟨y1, y2, y3, y4, y5, y6, -⟩ := afterS_mem hy
      dsimp only at y2 y4 y5
      have hyl : y.l = allN s := part_all o (Nat.le_refl _) y5
      have hwy : worthZ s y ≠ -1 := by
        intro e1
        refine hw ?_
        have h5 := (minL_mem (f := worthZ s) ht).2 y hy
        have h6 := minL_ge (f := worthZ s) (c := -1) ht fun y _ => worthZ_ge s y
        have h7 : minL (worthZ s) (afterS s ⟨s.bed.toNat, n, allN s⟩ t) = -1 := by omega
        unfold gainZ
        dsimp only
        rw [h7, if_neg (fun h => h.1 rfl)]
      rcases bed_way o y4 with rfl | rfl
      · exfalso
        dsimp only at y1 y2
        refine hwy ?_
        have := hlast y.m (by omega) y3
        rw [← hyl, ← y1] at this
        exact this
      · dsimp only at y1 y2
        have hp := waysL_pos o.ok y4
        dsimp only at hp
        refine ⟨hp.1, hp.2.1, by omega, fun i hi => ?_⟩
        have h8 := (safeB_iff.1 y6).2 i (by
          rw [hyl]
          unfold allN
          rw [Nat.testBit_two_pow_sub_one, decide_eq_true hi])
        rw [y1] at h8
        rw [show ((n : Int) + w).toNat = y.m by omega]
        exact h8.2
end GA
end

section
namespace GA
open Go Go.RowKit Go.Proofs
set_option maxRecDepth 8000
set_option linter.unusedVariables false
set_option linter.unusedSimpArgs false

noncomputable def dryR (s : Td) (last w : Int) (p : Nat) : List (Int × Int) := cutR (tbN s 0).1 last (spsT (wnd s w w) p)
noncomputable def dryS (s : Td) (last w : Int) (p : Nat) : Sps := ((dryR s last w p).isEmpty, dryR s last w p)
noncomputable def hmRows (s : Td) (last w : Int) (n : Nat) : List Sps := (List.range n).map (dryS s last w)
noncomputable def hmTr (s : Td) (last w : Int) : Tru := ((hmRows s last w s.fl.length).isEmpty, hmRows s last w s.fl.length)
noncomputable def hmTrs (s : Td) (last : Int) (k : Nat) : List Tru := (List.range k).map fun i : Nat => hmTr s last (s.lo + (i : Int))
def hmLooks (s : Td) (k : Nat) : List Rw := (List.range k).map fun _ => ((false, List.replicate s.fl.length 0) : Rw)
noncomputable def hmX (s : Td) (home place way last : Int) (k : Nat) : Sn := ⟨s.fl.length, home, place, last, false, [(home, place, way)], (hmLooks s k).isEmpty, hmLooks s k, (hmTrs s last k).isEmpty, hmTrs s last k⟩
theorem range_next (n : Nat) : List.range (n + 1) = List.range n ++ [n] := List.range_succ
theorem hmRows_next (s : Td) (last w : Int) (n : Nat) : hmRows s last w (n + 1) = hmRows s last w n ++ [dryS s last w n] := by unfold hmRows; rw [range_next, List.map_append]; rfl
theorem hmTrs_next (s : Td) (last : Int) (k : Nat) : hmTrs s last (k + 1) = hmTrs s last k ++ [hmTr s last (s.lo + (k : Int))] := by unfold hmTrs; rw [range_next, List.map_append]; rfl
theorem hmLooks_next (s : Td) (k : Nat) : hmLooks s (k + 1) = hmLooks s k ++ [((false, List.replicate s.fl.length 0) : Rw)] := by unfold hmLooks; rw [range_next, List.map_append]; rfl
theorem hmRows_len (s : Td) (last w : Int) (n : Nat) : (hmRows s last w n).length = n := by unfold hmRows; rw [List.length_map, List.length_range]
theorem hmTrs_len (s : Td) (last : Int) (k : Nat) : (hmTrs s last k).length = k := by unfold hmTrs; rw [List.length_map, List.length_range]
theorem hmLooks_len (s : Td) (k : Nat) : (hmLooks s k).length = k := by unfold hmLooks; rw [List.length_map, List.length_range]
theorem dayN_le {s : Td} (ok : TdOk s) : dayN s ≤ 1500 := by
  have t1 := ok.t1
  have h2 := (ok.tm _ (getD_mem (xs := s.tb) (i := 0) (d := default) (by omega))).1
  have h3 := (ok.tm _ (getD_mem (xs := s.tb) (i := s.tb.length - 1) (d := default) (by omega))).1
  unfold dayN tbN
  omega
theorem spsT_len {s : Td} (ok : TdOk s) (q : Nat) : (spsT s q).length ≤ 2000 := by
  have h1 := rnL_len (dryF s q) (tbN s 0).1 (dayN s)
  have := dayN_le ok
  unfold spsT
  omega
structure HmA (s : Td) (home place way last : Int) (k : Nat) : Prop where
  ok : TdOk s
  f2 : 2 ≤ s.fl.length
  f4 : s.fl.length ≤ 4
  h1 : 0 ≤ home ∧ home < s.fl.length
  p1 : 0 ≤ place ∧ place < s.fl.length
  ne : home ≠ place
  w1 : 1 ≤ way ∧ way ≤ 20
  l1 : 1 ≤ last ∧ last ≤ 60
  k1 : 1 ≤ k
  k4 : k ≤ 4
  wi : s.hi = s.lo + (k : Int) - 1
  m : ∀ w ∈ s.tb, w.1 ≤ 200
theorem hm_sp {s : Td} {last w : Int} {n : Nat} : ∀ r ∈ hmRows s last w n, spE last none r.2 = 0 := by
  intro r hr
  obtain ⟨p, -, rfl⟩ := List.mem_map.1 hr
  exact cutR_run _ _ _ _
theorem hm_B {s : Td} {home place way last : Int} {k : Nat} (h : HmA s home place way last k) : SnB (hmX s home place way last k) := by
  have k4 := h.k4; have f4 := h.f4
  have hlo := h.ok.w1; have hwi := h.wi; have hhi := h.ok.w3
  refine ⟨by show (1 : Nat) ≤ _; omega, by show (hmLooks s k).length ≤ _; rw [hmLooks_len]; omega, by show (hmTrs s last k).length ≤ _; rw [hmTrs_len]; omega, fun r hr => ?_, fun t ht => ?_, fun t ht r hr => ?_⟩
  · obtain ⟨i, -, rfl⟩ := List.mem_map.1 hr
    rw [List.length_replicate]; omega
  · obtain ⟨i, -, rfl⟩ := List.mem_map.1 ht
    show (hmRows _ _ _ _).length ≤ _
    rw [hmRows_len]; omega
  · obtain ⟨i, hi, rfl⟩ := List.mem_map.1 ht
    rw [List.mem_range] at hi
    obtain ⟨p, -, rfl⟩ := List.mem_map.1 hr
    have h1 := cutR_len (tbN s 0).1 last (spsT (wnd s (s.lo + (i : Int)) (s.lo + (i : Int))) p)
    have h2 : (spsT (wnd s (s.lo + (i : Int)) (s.lo + (i : Int))) p).length ≤ dayN s + 1 := rnL_len _ _ _
    have h3 : dayN s ≤ 201 := by
      have t1 := h.ok.t1
      have q1 := h.m _ (getD_mem (xs := s.tb) (i := s.tb.length - 1) (d := default) (by omega))
      have q2 := (h.ok.tm _ (getD_mem (xs := s.tb) (i := 0) (d := default) (by omega))).1
      unfold dayN tbN
      omega
    show (cutR _ _ _).length ≤ _
    omega
theorem hm_ok {s : Td} {home place way last : Int} {k : Nat} (h : HmA s home place way last k) : SnOk (hmX s home place way last k) := by
  have k1 := h.k1; have k4 := h.k4; have f4 := h.f4; have f2 := h.f2; have w1 := h.w1; have l1 := h.l1
  refine ⟨by show (1 : Int) ≤ (s.fl.length : Nat); omega, by show ((s.fl.length : Nat) : Int) ≤ 5; omega, by show 1 ≤ (hmTrs s last k).length; rw [hmTrs_len]; omega, by show (hmTrs s last k).length ≤ 4; rw [hmTrs_len]; omega, by show (1 : Nat) ≤ 10; omega,
    by show (hmLooks s k).length = (hmTrs s last k).length; rw [hmLooks_len, hmTrs_len], fun l hl => ?_, fun t ht => ?_, l1.1, l1.2, fun w hw => ?_, fun l hl n hn => ?_, h.h1, h.p1, fun w hw => ?_, h.ne, fun i hi => ?_, fun t ht r hr => ?_⟩
  · obtain ⟨i, -, rfl⟩ := List.mem_map.1 hl
    rw [List.length_replicate]; rfl
  · obtain ⟨i, -, rfl⟩ := List.mem_map.1 ht
    show ((hmRows _ _ _ _).length : Int) = _
    rw [hmRows_len]; rfl
  · have e : w = (home, place, way) := List.mem_singleton.1 hw
    subst e; exact ⟨w1.1, w1.2⟩
  · obtain ⟨i, -, rfl⟩ := List.mem_map.1 hl
    have := List.eq_of_mem_replicate hn
    omega
  · have e : w = (home, place, way) := List.mem_singleton.1 hw
    subst e; exact ⟨h.h1.1, h.h1.2, h.p1.1, h.p1.2⟩
  · have e : i = 0 := by have : i < 1 := hi; omega
    subst e
    show ((home == place) || _) = false
    rw [beq_eq_false_iff_ne.2 h.ne]; rfl
  · obtain ⟨i, -, rfl⟩ := List.mem_map.1 ht
    exact hm_sp r hr
theorem hm_one {s : Td} {home place way last : Int} {k : Nat} (h : HmA s home place way last k) : OneW (hmX s home place way last k) way := by
  refine ⟨hm_ok h, rfl, fun t p => ?_⟩
  unfold lookZ
  show (((hmLooks s k).getD t default).2).getD p default = 0
  by_cases ht : t < (hmLooks s k).length
  · obtain ⟨i, -, hi⟩ := List.mem_map.1 (getD_mem (xs := hmLooks s k) (i := t) (d := default) ht)
    rw [← hi]
    show (List.replicate s.fl.length (0 : Int)).getD p default = 0
    rw [List.getD_eq_getElem?_getD, List.getElem?_replicate]
    split <;> rfl
  · rw [List.getD_eq_getElem?_getD (l := hmLooks s k), List.getElem?_eq_none (by omega)]; rfl
theorem hm_all {s : Td} {home place way last : Int} {k : Nat} : allN (hmX s home place way last k) = 2 ^ k - 1 := by
  show 2 ^ (hmTrs s last k).length - 1 = _
  rw [hmTrs_len]
theorem hm_home {s : Td} {home way last : Int} {place : Int} {k hn : Nat} (h : HmA s home place way last k) (eh : home = (hn : Int)) (hl : last ≤ (tbN s (s.tb.length - 1)).1 - (tbN s 0).1) (ht : turnN (hmX s home place way last k) (allN (hmX s home place way last k)) ≠ -1) :
    ∃ n : Nat, turnN (hmX s home place way last k) (allN (hmX s home place way last k)) = n ∧ (n : Int) + way ≤ last ∧ DayT s ((tbN s 0).1 + (n : Int) + way) ∧ atZ s (opG s) ((tbN s 0).1 + (n : Int) + way) hn = 0 := by
  obtain ⟨n, h1, h2, h3, h4, h5⟩ := turn_home (hm_one h) ht
  have h4' : (n : Int) + way ≤ last := h4
  have hd := day_le h.ok
  have hk1 := h.k1
  have hhi := h.h1
  refine ⟨n, h1, h4', ⟨by omega, by omega⟩, ?_⟩
  have h6 := h5 (k - 1) (by show k - 1 < (hmTrs s last k).length; rw [hmTrs_len]; omega)
  unfold dryT at h6
  have e1 : (hmX s home place way last k).truths.getD (k - 1) default = hmTr s last s.hi := by
    show (hmTrs s last k).getD (k - 1) default = _
    unfold hmTrs
    rw [List.getD_eq_getElem?_getD, List.getElem?_map, List.getElem?_range (show k - 1 < k by omega)]
    show hmTr s last (s.lo + ((k - 1 : Nat) : Int)) = _
    rw [show s.lo + ((k - 1 : Nat) : Int) = s.hi by have := h.wi; omega]
  have e2 : (hmX s home place way last k).home.toNat = hn := by show home.toNat = hn; omega
  rw [e1, e2] at h6
  have e3 : (hmTr s last s.hi).2.getD hn default = dryS s last s.hi hn := by
    show (hmRows s last s.hi s.fl.length).getD hn default = _
    unfold hmRows
    rw [List.getD_eq_getElem?_getD, List.getElem?_map, List.getElem?_range (show hn < s.fl.length by omega)]; rfl
  rw [e3] at h6
  obtain ⟨-, h7⟩ := cutR_any (f := dryF (wnd s s.hi s.hi) hn) (a := (tbN s 0).1) (last := last) (n := dayN s) h6
  have h8 : atZ (wnd s s.hi s.hi) (opG (wnd s s.hi s.hi)) ((tbN s 0).1 + ((((n : Int) + way).toNat : Nat) : Int)) hn = 0 := by
    unfold dryF at h7
    exact beq_iff_eq.1 h7
  rw [opG_wnd, show (tbN s 0).1 + ((((n : Int) + way).toNat : Nat) : Int) = (tbN s 0).1 + (n : Int) + way by omega] at h8
  unfold atZ at h8 ⊢
  rw [hgtZ_wnd] at h8
  show (if _ then (0 : Int) else _) = 0
  by_cases hc : opG s hn = 1000 ∨ hgtZ s ((tbN s 0).1 + (n : Int) + way) + s.hi ≤ opG s hn
  · rw [if_pos hc]
  · have hc' : ¬ (opG s hn = 1000 ∨ hgtZ s ((tbN s 0).1 + (n : Int) + way) + (wnd s s.hi s.hi).hi ≤ opG s hn) := hc
    rw [if_neg hc'] at h8
    split at h8 <;> exact absurd h8 (by decide)
end GA
end

section
namespace GA
open Go Go.RowKit Go.Proofs
set_option maxRecDepth 8000
set_option linter.unusedVariables false
set_option linter.unusedSimpArgs false

abbrev Bn := Int × Int × Int
def farZ : Int := 1099511627776
structure BnOk (B : List Bn) : Prop where
  len : B.length ≤ 20
  mo : ∀ x ∈ B, -1000 ≤ x.2.2 ∧ x.2.2 ≤ 1000
  fr : ∀ x ∈ B, 0 ≤ x.1 ∧ x.1 ≤ 4
  to : ∀ x ∈ B, 0 ≤ x.2.1 ∧ x.2.1 ≤ 4
  ne : ∀ x ∈ B, x.1 ≠ x.2.1
def rlx (x : Bn) (G : Nat → Int) (j : Nat) : Int := if j % 8 = x.2.1.toNat ∧ G (j / 8 * 8 + x.1.toNat) ≠ farZ then min (G j) (G (j / 8 * 8 + x.1.toNat) + x.2.2) else G j
def rlxR (x : Bn) (G : Nat → Int) (a : Nat) (j : Nat) : Int := if j / 8 < a then rlx x G j else G j
def rndW (B : List Bn) (G : Nat → Int) : Nat → Int := B.foldl (fun G x => rlx x G) G
def gap0 (j : Nat) : Int := if j / 8 = j % 8 then 0 else farZ
def gapK (B : List Bn) : Nat → Nat → Int
  | 0 => gap0
  | n + 1 => rndW B (gapK B n)
theorem rlxR_0 (x : Bn) (G : Nat → Int) : rlxR x G 0 = G := by funext j; unfold rlxR; rw [if_neg (by omega)]
theorem rlxR_8 (x : Bn) (G : Nat → Int) {j : Nat} (h : j < 64) : rlxR x G 8 j = rlx x G j := by unfold rlxR; rw [if_pos (by omega)]
theorem rlxR_next {x : Bn} (hf : 0 ≤ x.1 ∧ x.1 ≤ 4) (ht : 0 ≤ x.2.1 ∧ x.2.1 ≤ 4) (G : Nat → Int) {a : Nat} (j : Nat) :
    rlxR x G (a + 1) j = if j = 8 * a + x.2.1.toNat then (if rlxR x G a (8 * a + x.1.toNat) ≠ farZ then min (rlxR x G a (8 * a + x.2.1.toNat)) (rlxR x G a (8 * a + x.1.toNat) + x.2.2) else rlxR x G a (8 * a + x.2.1.toNat)) else rlxR x G a j := by
  have e1 : rlxR x G a (8 * a + x.1.toNat) = G (8 * a + x.1.toNat) := by unfold rlxR; rw [if_neg (by omega)]
  have e2 : rlxR x G a (8 * a + x.2.1.toNat) = G (8 * a + x.2.1.toNat) := by unfold rlxR; rw [if_neg (by omega)]
  rw [e1, e2]
  by_cases h : j = 8 * a + x.2.1.toNat
  · rw [if_pos h]
    unfold rlxR
    rw [if_pos (by omega)]
    unfold rlx
    have hq : j / 8 * 8 + x.1.toNat = 8 * a + x.1.toNat := by omega
    rw [hq]
    by_cases h2 : G (8 * a + x.1.toNat) ≠ farZ
    · rw [if_pos ⟨by omega, h2⟩, if_pos h2, ← h]
    · rw [if_neg (fun hh => h2 hh.2), if_neg h2, ← h]
  · rw [if_neg h]
    unfold rlxR
    by_cases h1 : j / 8 < a
    · rw [if_pos h1, if_pos (by omega)]
    · rw [if_neg h1]
      by_cases h3 : j / 8 < a + 1
      · rw [if_pos h3]
        unfold rlx
        rw [if_neg (fun hh => h (by omega))]
      · rw [if_neg h3]
def GapB (n : Nat) (G : Nat → Int) : Prop := ∀ j, j < 64 → G j = farZ ∨ (-1000 * (n : Int) ≤ G j ∧ G j ≤ 1000 * (n : Int))
theorem GapB.rlx {n : Nat} {G : Nat → Int} {x : Bn} (h : GapB n G) (hn : n ≤ 1000000) (hf : 0 ≤ x.1 ∧ x.1 ≤ 4) (hm : -1000 ≤ x.2.2 ∧ x.2.2 ≤ 1000) : GapB (n + 1) (rlx x G) := by
  intro j hj
  have h1 := h j hj
  have h2 := h (j / 8 * 8 + x.1.toNat) (by omega)
  unfold GA.rlx
  unfold farZ at *
  split
  · rename_i hc
    rcases h2 with h2 | h2
    · exact absurd h2 hc.2
    · rcases h1 with h1 | h1
      · right; omega
      · right; omega
  · rcases h1 with h1 | h1
    · exact .inl h1
    · right; omega
theorem rndW_next (B : List Bn) (G : Nat → Int) {i : Nat} (h : i < B.length) : rndW (B.take (i + 1)) G = rlx (B.getD i default) (rndW (B.take i) G) := by
  unfold rndW
  rw [take_next h, List.foldl_append]; rfl
theorem rndW_b {B : List Bn} (ok : BnOk B) {n : Nat} {G : Nat → Int} (h : GapB n G) (hn : n ≤ 1000) : ∀ i, i ≤ B.length → GapB (n + i) (rndW (B.take i) G)
  | 0, _ => h
  | i + 1, hi => by
    have hm := getD_mem (xs := B) (i := i) (d := default) (by omega)
    have hl := ok.len
    rw [rndW_next B G (by omega)]
    exact (rndW_b ok h hn i (by omega)).rlx (by omega) (ok.fr _ hm) (ok.mo _ hm)
theorem gap0_b : GapB 0 gap0 := by
  intro j _
  unfold gap0
  split
  · right; omega
  · exact .inl rfl
theorem gapK_b {B : List Bn} (ok : BnOk B) : ∀ k, k ≤ 8 → GapB (20 * k) (gapK B k)
  | 0, _ => gap0_b
  | k + 1, hk => by
    have hl := ok.len
    have h := rndW_b ok (gapK_b ok k (by omega)) (by omega) B.length (Nat.le_refl _)
    rw [List.take_length] at h
    intro j hj
    rcases h j hj with h | h
    · exact .inl h
    · right
      have e : gapK B (k + 1) j = rndW B (gapK B k) j := rfl
      rw [e]; omega
theorem rlx_congr {x : Bn} (hf : 0 ≤ x.1 ∧ x.1 ≤ 4) {G G' : Nat → Int} (h : ∀ j, j < 64 → G j = G' j) : ∀ j, j < 64 → rlx x G j = rlx x G' j := fun j hj => by
  unfold rlx
  rw [h j hj, h (j / 8 * 8 + x.1.toNat) (by omega)]
theorem rndW_congr : ∀ {B : List Bn}, (∀ x ∈ B, 0 ≤ x.1 ∧ x.1 ≤ 4) → ∀ {G G' : Nat → Int}, (∀ j, j < 64 → G j = G' j) → ∀ j, j < 64 → rndW B G j = rndW B G' j
  | [], _, _, _, h => h
  | x :: B, hf, G, G', h => rndW_congr (B := B) (fun y hy => hf y (List.mem_cons_of_mem _ hy)) (rlx_congr (hf x List.mem_cons_self) h)
theorem gapK_stop {B : List Bn} (ok : BnOk B) {n : Nat} (h : ∀ j, j < 64 → gapK B (n + 1) j = gapK B n j) : ∀ d, ∀ j, j < 64 → gapK B (n + d) j = gapK B n j
  | 0 => fun _ _ => rfl
  | d + 1 => fun j hj => by
    rw [show n + (d + 1) = (n + d) + 1 by omega, ← h j hj]
    exact rndW_congr ok.fr (gapK_stop ok h d) j hj
theorem rlx_le (x : Bn) (G : Nat → Int) (j : Nat) : rlx x G j ≤ G j := by unfold rlx; split <;> omega
theorem rndW_le : ∀ (B : List Bn) (G : Nat → Int) (j : Nat), rndW B G j ≤ G j
  | [], _, _ => Int.le_refl _
  | x :: B, G, j => Int.le_trans (rndW_le B (rlx x G) j) (rlx_le x G j)
theorem gapK_le (B : List Bn) (j n : Nat) : ∀ d, gapK B (n + d) j ≤ gapK B n j
  | 0 => Int.le_refl _
  | d + 1 => Int.le_trans (rndW_le B _ j) (gapK_le B j n d)
theorem rndW_hop : ∀ {B : List Bn} {G : Nat → Int} {x : Bn} {a f t : Nat} {S : Int}, x ∈ B → x.1 = (f : Nat) → x.2.1 = (t : Nat) → f < 8 → t < 8 → S < farZ → G (8 * a + f) ≤ S → rndW B G (8 * a + t) ≤ S + x.2.2
  | y :: B, G, x, a, f, t, S, hx, h1, h2, hf, ht, hS, hG => by
    by_cases e : x = y
    · subst e
      refine Int.le_trans (rndW_le B _ _) ?_
      have e1 : (8 * a + t) / 8 * 8 + x.1.toNat = 8 * a + f := by rw [h1]; omega
      show rlx x G (8 * a + t) ≤ _
      unfold rlx
      rw [e1, if_pos ⟨by rw [h2]; omega, by omega⟩]
      omega
    · rcases List.mem_cons.1 hx with hx | hx
      · exact absurd hx e
      · exact rndW_hop (B := B) (G := rlx y G) hx h1 h2 hf ht hS (Int.le_trans (rlx_le y G _) hG)
theorem gapK_hop {B : List Bn} {n : Nat} {x : Bn} {a f t : Nat} {S : Int} (hx : x ∈ B) (h1 : x.1 = (f : Nat)) (h2 : x.2.1 = (t : Nat)) (hf : f < 8) (ht : t < 8) (hS : S < farZ) (hG : gapK B n (8 * a + f) ≤ S) : gapK B (n + 1) (8 * a + t) ≤ S + x.2.2 := rndW_hop hx h1 h2 hf ht hS hG
def GapT (π : Nat → Int) (G : Nat → Int) : Prop := ∀ j, j < 64 → G j = farZ ∨ π (j % 8) - π (j / 8) ≤ G j
theorem GapT.rlx {π G : Nat → Int} {x : Bn} (h : GapT π G) (hf : 0 ≤ x.1 ∧ x.1 ≤ 4) (hx : π x.2.1.toNat ≤ π x.1.toNat + x.2.2) : GapT π (rlx x G) := by
  intro j hj
  have h1 := h j hj
  have h2 := h (j / 8 * 8 + x.1.toNat) (by omega)
  unfold GA.rlx
  split
  · rename_i hc
    rcases h2 with h2 | h2
    · exact absurd h2 hc.2
    · rw [show (j / 8 * 8 + x.1.toNat) % 8 = x.1.toNat by omega, show (j / 8 * 8 + x.1.toNat) / 8 = j / 8 by omega] at h2
      rw [hc.1] at h1 ⊢
      rcases h1 with h1 | h1
      · by_cases e : G j ≤ G (j / 8 * 8 + x.1.toNat) + x.2.2
        · left; omega
        · right; omega
      · right; omega
  · exact h1
theorem rndW_t : ∀ {B : List Bn} {π G : Nat → Int}, (∀ x ∈ B, 0 ≤ x.1 ∧ x.1 ≤ 4) → (∀ x ∈ B, π x.2.1.toNat ≤ π x.1.toNat + x.2.2) → GapT π G → GapT π (rndW B G)
  | [], _, _, _, _, h => h
  | x :: B, π, G, hf, hp, h => rndW_t (B := B) (G := GA.rlx x G) (fun y hy => hf y (List.mem_cons_of_mem _ hy)) (fun y hy => hp y (List.mem_cons_of_mem _ hy)) (h.rlx (hf x List.mem_cons_self) (hp x List.mem_cons_self))
theorem gapK_t {B : List Bn} (ok : BnOk B) {π : Nat → Int} (hp : ∀ x ∈ B, π x.2.1.toNat ≤ π x.1.toNat + x.2.2) : ∀ n, GapT π (gapK B n)
  | 0 => by
    intro j _
    show gap0 j = farZ ∨ _ ≤ gap0 j
    unfold gap0
    split
    · rename_i e; right; rw [e]; omega
    · exact .inl rfl
  | n + 1 => rndW_t ok.fr hp (gapK_t ok hp n)
theorem gapK_diag {B : List Bn} (ok : BnOk B) {π : Nat → Int} (hp : ∀ x ∈ B, π x.2.1.toNat ≤ π x.1.toNat + x.2.2) {a : Nat} (ha : a < 8) (n : Nat) : 0 ≤ gapK B n (8 * a + a) := by
  rcases gapK_t ok hp n (8 * a + a) (by omega) with h | h
  · rw [h]; decide
  · rw [show (8 * a + a) % 8 = a by omega, show (8 * a + a) / 8 = a by omega] at h; omega
end GA
end

section
namespace GA
open Go Go.RowKit Go.Proofs
set_option pp.deepTerms true
set_option maxRecDepth 8000
set_option linter.unusedVariables false
set_option linter.unusedSimpArgs false


theorem idxf_wb (nl : Bool) (xs : List Wy) (g : FuncId) (caps : List AV) (p : Wy → Bool) (hl : lowL 0 caps = true) (hx : xs.length ≤ 100000) (hp : ∀ x ∈ xs, Comp Tryz.prog g ((wyA x) :: caps) (.bool (p x))) :
    Comp Tryz.prog 134 [.sl nl (xs.map (wyA)), .fn g caps] (.int .i64 (idxR p xs)) := by
  refine Comp.body (T := tab) (res := [.tmp 4]) tab_ok [] Tryz.func134 rfl (by kernel_rfl) Tryz.ntmps134 rfl (by simp only [List.length_cons, List.length_nil]; decide) (by simp only [lowL, AV.low, lowWy, hl]; rfl) ?_; conv => whnf
  refine Walk.loop tab_ok [] (fun i : Nat => i ≤ xs.length ∧ ∀ j, j < i → p (xs.getD j default) = false) (fun i => [(0, .sl nl (xs.map (wyA))), (1, .fn g caps), (7, .int .i64 xs.length), (8, .int .i64 i)]) (fun _ => []) (fun i => xs.length - i) 0 ⟨by omega, by omega⟩ rfl ⟨rfl, rfl, by simp only [List.length_map]; rfl, rfl, trivial⟩ ?_
  rintro i ⟨h2, h3⟩
  conv => whnf
  repeat' first | ((with_reducible first | refine XBr.y fun h => ?_ | refine XBr.n fun h => ?_ | refine XBr.dec (fun h => ?_) fun h => ?_) <;> conv => whnf) | (refine XIx.a ?_; conv => whnf) | fail
  · refine XCall.ret (hp _ (getD_mem (i := i) (d := default) (by omega))) ?_
    conv => whnf
    refine XBr.mk' ?_ ?_ <;> intro h4 <;> (conv => whnf)
    · refine XOut.int ?_
      simp only [idxR, find_some (d := default) (i := i) (by omega) h4 h3]
    · skip
      repeat' ((with_reducible refine XInt.a ?_); conv => whnf)
      refine XAgain.go (i + 1) ⟨by omega, fun j hj => ?_⟩ (by omega) rfl ⟨rfl, rfl, rfl, rfl, trivial⟩
      by_cases hji : j = i
      · subst hji; exact h4
      · exact h3 j (by omega)
  · refine XOut.int ?_
    simp only [idxR, find_none (d := default) fun j hj => h3 j (by omega)]
theorem contf_wb (nl : Bool) (xs : List Wy) (g : FuncId) (caps : List AV) (p : Wy → Bool) (hl : lowL 0 caps = true) (hx : xs.length ≤ 100000) (hp : ∀ x ∈ xs, Comp Tryz.prog g ((wyA x) :: caps) (.bool (p x))) :
    Comp Tryz.prog 125 [.sl nl (xs.map (wyA)), .fn g caps] (.bool (xs.any p)) := by
  refine Comp.body (T := tab) (res := [.tmp 4]) tab_ok [] Tryz.func125 rfl (by kernel_rfl) Tryz.ntmps125 rfl (by simp only [List.length_cons, List.length_nil]; decide) (by simp only [lowL, AV.low, lowWy, hl]; rfl) ?_; conv => whnf
  refine XCall.ret (idxf_wb nl xs g caps p hl hx hp) ?_
  conv => whnf
  refine XOut.bool ?_
  rw [Bool.eq_iff_iff, decide_eq_true_eq]; exact idxR_pos
theorem every1_wb (x : Wy) (g : FuncId) (caps : List AV) (p : Wy → Bool) (hl : lowL 0 caps = true) (hp : Comp Tryz.prog g ((wyA x) :: caps) (.bool (p x))) :
    Comp Tryz.prog 126 [(wyA x), .pim [.fn g caps]] (.bool (!p x)) := by
  refine Comp.body (T := tab) (res := [.tmp 3]) tab_ok [] Tryz.func126 rfl (by kernel_rfl) Tryz.ntmps126 rfl (by simp only [List.length_cons, List.length_nil]; decide) (by simp only [lowL, AV.low, wyL, hl]; rfl) ?_; conv => whnf
  refine XCall.ret hp ?_
  conv => whnf
  exact XOut.bool rfl
theorem every_wb (nl : Bool) (xs : List Wy) (g : FuncId) (caps : List AV) (p : Wy → Bool) (hl : lowL 0 caps = true) (hx : xs.length ≤ 100000) (hp : ∀ x ∈ xs, Comp Tryz.prog g ((wyA x) :: caps) (.bool (p x))) :
    Comp Tryz.prog 99 [.sl nl (xs.map (wyA)), .fn g caps] (.bool (xs.all p)) := by
  refine Comp.body (T := tab) (res := [.tmp 4]) tab_ok [] Tryz.func99 rfl (by kernel_rfl) Tryz.ntmps99 rfl (by simp only [List.length_cons, List.length_nil]; decide) (by simp only [lowL, AV.low, lowWy, hl]; rfl) ?_; conv => whnf
  refine XCall.ret (contf_wb nl xs 126 [.pim [.fn g caps]] (fun x => !p x) (by simp only [lowL, AV.low, hl]; rfl) hx fun x hm => every1_wb x g caps p hl (hp x hm)) ?_
  conv => whnf
  refine XOut.bool ?_
  rw [List.not_any_eq_all_not]; simp
theorem everyw1_zi (x : Int) (g : FuncId) (fs : List AV) (p : Int → Bool) (hl : lowL 0 fs = true) (hp : Comp Tryz.prog g (fs ++ [(AV.int .i64 x)]) (.bool (p x))) :
    Comp Tryz.prog 102 [(AV.int .i64 x), .pim [.bf g fs]] (.bool (!p x)) := by
  refine Comp.body (T := tab) (res := [.tmp 3]) tab_ok [] Tryz.func102 rfl (by kernel_rfl) Tryz.ntmps102 rfl (by simp only [List.length_cons, List.length_nil]; decide) (by simp only [lowL, AV.low, ziL, hl]; rfl) ?_; conv => whnf
  refine XCall.ret hp ?_
  conv => whnf
  exact XOut.bool rfl
theorem everyw_zi (nl : Bool) (xs : List Int) (g : FuncId) (fs : List AV) (p : Int → Bool) (hl : lowL 0 fs = true) (hx : xs.length ≤ 100000) (hp : ∀ x ∈ xs, Comp Tryz.prog g (fs ++ [(AV.int .i64 x)]) (.bool (p x))) :
    Comp Tryz.prog 63 [.sl nl (xs.map (AV.int .i64)), .bf g fs] (.bool (xs.all p)) := by
  refine Comp.body (T := tab) (res := [.tmp 4]) tab_ok [] Tryz.func63 rfl (by kernel_rfl) Tryz.ntmps63 rfl (by simp only [List.length_cons, List.length_nil]; decide) (by simp only [lowL, AV.low, lowI, hl]; rfl) ?_; conv => whnf
  refine XCall.ret (contf_zi nl xs 102 [.pim [.bf g fs]] (fun x => !p x) (by simp only [lowL, AV.low, hl]; rfl) hx fun x hm => everyw1_zi x g fs p hl (hp x hm)) ?_
  conv => whnf
  refine XOut.bool ?_
  rw [List.not_any_eq_all_not]; simp
theorem everywf1_zi (x : Int) (g : FuncId) (caps : List AV) (p : Int → Bool) (hl : lowL 0 caps = true) (hp : Comp Tryz.prog g ((.int .i64 x) :: caps) (.bool (p x))) :
    Comp Tryz.prog 102 [.int .i64 x, .pim [.fn g caps]] (.bool (!p x)) := by
  refine Comp.body (T := tab) (res := [.tmp 3]) tab_ok [] Tryz.func102 rfl (by kernel_rfl) Tryz.ntmps102 rfl (by simp only [List.length_cons, List.length_nil]; decide) (by simp only [lowL, AV.low, hl]; rfl) ?_; conv => whnf
  refine XCall.ret hp ?_
  conv => whnf
  exact XOut.bool rfl
theorem everywf_zi (nl : Bool) (xs : List Int) (g : FuncId) (caps : List AV) (p : Int → Bool) (hl : lowL 0 caps = true) (hx : xs.length ≤ 100000) (hp : ∀ x ∈ xs, Comp Tryz.prog g ((.int .i64 x) :: caps) (.bool (p x))) :
    Comp Tryz.prog 63 [.sl nl (ints xs), .fn g caps] (.bool (xs.all p)) := by
  refine Comp.body (T := tab) (res := [.tmp 4]) tab_ok [] Tryz.func63 rfl (by kernel_rfl) Tryz.ntmps63 rfl (by simp only [List.length_cons, List.length_nil]; decide) (by simp only [lowL, AV.low, lowI, hl]; rfl) ?_; conv => whnf
  refine XCall.ret (contf_zi nl xs 102 [.pim [.fn g caps]] (fun x => !p x) (by simp only [lowL, AV.low, hl]; rfl) hx fun x hm => everywf1_zi x g caps p hl (hp x hm)) ?_
  conv => whnf
  refine XOut.bool ?_
  rw [List.not_any_eq_all_not]; simp
theorem idxf_no (g : FuncId) (caps : List AV) (hl : lowL 0 caps = true) : Comp Tryz.prog 133 [.sl true [], .fn g caps] (.int .i64 (-1)) := by
  have e0 : (([] : List AV).length : Int) = 0 := rfl
  refine Comp.body (T := tab) (res := [.tmp 4]) tab_ok [] Tryz.func133 rfl (by kernel_rfl) Tryz.ntmps133 rfl (by simp only [List.length_cons, List.length_nil]; decide) (by simp only [lowL, AV.low, hl]; rfl) ?_; conv => whnf
  skip
  refine Walk.loopK tab_ok [] [(0, _), (1, _), (7, _)] ⟨rfl, rfl, rfl, trivial⟩ (fun i : Nat => i ≤ 0) (fun i => [(8, natA i)]) (fun _ => []) (fun i => 0 - i) 0 (Nat.le_refl _) rfl ⟨rfl, trivial⟩ ?_
  intro i hi
  obtain rfl : i = 0 := by omega
  conv => whnf
  repeat' ((with_reducible first | refine XBr.y fun h => ?_ | refine XBr.n fun h => ?_ | refine XBr.dec (fun h => ?_) fun h => ?_) <;> conv => whnf)
  exact XOut.int rfl
theorem contf_no (g : FuncId) (caps : List AV) (hl : lowL 0 caps = true) : Comp Tryz.prog 123 [.sl true [], .fn g caps] (.bool false) := by
  refine Comp.body (T := tab) (res := [.tmp 4]) tab_ok [] Tryz.func123 rfl (by kernel_rfl) Tryz.ntmps123 rfl (by simp only [List.length_cons, List.length_nil]; decide) (by simp only [lowL, AV.low, hl]; rfl) ?_; conv => whnf
  repeat' ((refine XCall.ret (idxf_no g caps hl) ?_); conv => whnf)
  exact XOut.bool rfl
theorem everyw_no (g : FuncId) (caps : List AV) (hl : lowL 0 caps = true) : Comp Tryz.prog 95 [.sl true [], .fn g caps] (.bool true) := by
  refine Comp.body (T := tab) (res := [.tmp 4]) tab_ok [] Tryz.func95 rfl (by kernel_rfl) Tryz.ntmps95 rfl (by simp only [List.length_cons, List.length_nil]; decide) (by simp only [lowL, AV.low, hl]; rfl) ?_; conv => whnf
  repeat' ((refine XCall.ret (contf_no 124 [.pim [.fn g caps]] (by simp only [lowL, AV.low, hl]; rfl)) ?_); conv => whnf)
  exact XOut.bool rfl
def wnC (e : Int) (B : List Bn) : List AV := [.int .i64 e, .sl false (B.map wyA), .int .i64 0, .sl true []]
def wnA (e : Int) (B : List Bn) : AV := .agg (wnC e B)
theorem wnCL {n : Nat} (e : Int) (B : List Bn) : lowL n (wnC e B) = true := by unfold wnC; simp only [lowL, AV.low, lowWy]; rfl
theorem wnL {n : Nat} (e : Int) (B : List Bn) : (wnA e B).low n = true := wnCL e B
theorem wnOne (e : Int) (B : List Bn) : ∀ x ∈ wnC e B, x.one = true := by simp [wnC, AV.one]
structure WnOk (e : Int) (B : List Bn) : Prop where
  ok : BnOk B
  e1 : 1 ≤ e
  e2 : e ≤ 5
  ev : ∀ x ∈ B, x.1 < e ∧ x.2.1 < e
theorem wnIn_c (n lo hi : Int) : Comp Tryz.prog 65 [.int .i64 n, .int .i64 lo, .int .i64 hi] (.bool (inZ n lo hi)) := by
  refine Comp.body (T := tab) (res := [.tmp 6]) tab_ok [] Tryz.func65 rfl (by kernel_rfl) Tryz.ntmps65 rfl (by simp only [List.length_cons, List.length_nil]; decide) (by rfl) ?_; conv => whnf
  repeat' ((with_reducible first | apply XBr.tt | apply XBr.ff | refine XBr.y fun h => ?_ | refine XBr.n fun h => ?_ | refine XBr.dec (fun h => ?_) fun h => ?_) <;> conv => whnf)
  all_goals (refine XOut.bool ?_; rw [Bool.eq_iff_iff]; simp [inZ]; try omega)
theorem wnEvent_c (e : Int) (B : List Bn) (n : Int) (h1 : 1 ≤ e) (h2 : e ≤ 5) : Comp Tryz.prog 62 [wnA e B, .int .i64 n] (.bool (inZ n 0 (e - 1))) := by
  refine Comp.body (T := tab) (res := [.tmp 4]) tab_ok [] Tryz.func62 rfl (by kernel_rfl) Tryz.ntmps62 rfl (by simp only [List.length_cons, List.length_nil]; decide) (by simp only [lowL, wnL]; rfl) ?_; conv => whnf
  repeat' first | ((first | (with_reducible refine XInt.a ?_) | (refine XCall.ret (wnIn_c _ _ _) ?_)); conv => whnf) | fail
  exact XOut.bool rfl
theorem wnB1_c (w : Bn) : Comp Tryz.prog 103 [wyA w] (.bool (inZ w.2.2 (-1000) 1000)) := by
  refine Comp.body (T := tab) (res := [.tmp 2]) tab_ok [] Tryz.func103 rfl (by kernel_rfl) Tryz.ntmps103 rfl (by simp only [List.length_cons, List.length_nil]; decide) (by rfl) ?_; conv => whnf
  repeat' ((refine XCall.ret (wnIn_c _ _ _) ?_); conv => whnf)
  exact XOut.bool rfl
theorem wnB2_c (e : Int) (B : List Bn) (w : Bn) (h1 : 1 ≤ e) (h2 : e ≤ 5) (ha : 0 ≤ w.1 ∧ w.1 < e) (hb : 0 ≤ w.2.1 ∧ w.2.1 < e) : Comp Tryz.prog 104 [wyA w, .pim [.bf 62 [wnA e B]]] (.bool true) := by
  have c1 := wnEvent_c e B w.1 h1 h2
  have c2 := wnEvent_c e B w.2.1 h1 h2
  rw [inZ_iff.2 (by omega)] at c1 c2
  refine Comp.body (T := tab) (res := [.tmp 3]) tab_ok [] Tryz.func104 rfl (by kernel_rfl) Tryz.ntmps104 rfl (by simp only [List.length_cons, List.length_nil]; decide) (by simp only [lowL, AV.low, wnL, wyL]; rfl) ?_; conv => whnf
  repeat' first | ((first | (with_reducible apply XBr.tt) | (first | refine XCall.ret c1 ?_ | refine XCall.ret c2 ?_)); conv => whnf) | fail
  exact XOut.bool rfl
theorem wnBounds_c (e : Int) (B L : List Bn) (ok : WnOk e L) : Comp Tryz.prog 66 [wnA e B, .sl false (L.map wyA)] (.int .i64 0) := by
  have h1 := ok.e1; have h2 := ok.e2; have l1 := ok.ok.len
  have c1 := every_wb false L 103 [] (fun w => inZ w.2.2 (-1000) 1000) rfl (by omega) fun w _ => wnB1_c w
  have hlo : (AV.bf 62 [wnA e B]).low 0 = true := by simp only [AV.low, lowL, wnL]; rfl
  have c2 := every_wb false L 104 [.pim [.bf 62 [wnA e B]]] (fun _ => true) (by simp only [lowL, AV.low, wnL]; rfl) (by omega) fun w hw => wnB2_c e B w h1 h2 ⟨(ok.ok.fr w hw).1, (ok.ev w hw).1⟩ ⟨(ok.ok.to w hw).1, (ok.ev w hw).2⟩
  rw [List.all_eq_true.2 fun w hw => inZ_iff.2 (ok.ok.mo w hw)] at c1
  rw [List.all_eq_true.2 fun w hw => rfl] at c2
  refine Comp.body (T := tab) (res := [.tmp 4]) tab_ok [] Tryz.func66 rfl (by kernel_rfl) Tryz.ntmps66 rfl (by simp only [List.length_cons, List.length_nil]; decide) (by simp only [lowL, AV.low, wnL, lowWy]; rfl) ?_; conv => whnf
  repeat' first | ((with_reducible apply XBr.tt); conv => whnf) | with_reducible apply XBr.not | ((first | refine XCall.ret c1 ?_ | refine XCall.lend c2 (.cons (.low (lowWy _)) (.cons (Froz.fn (.cons (Froz.ptr rfl (one1 rfl) (.cons (.low hlo) .nil)) .nil)) .nil)) rfl ?_); conv => whnf) | fail
  exact XOut.int rfl
theorem clone_wb (xs : List Wy) (hx : xs.length ≤ 100000) : Comp Tryz.prog 101 [.sl false (xs.map wyA)] (.sl false (xs.map wyA)) := by
  have e1 : ((xs.map wyA).length : Int) = xs.length := by rw [List.length_map]
  have hw : wide 3 (xs.map wyA) = true := wide_map (f := wyA) (n := 3) (fun _ => rfl) (fun _ => rfl) _
  refine Comp.body (T := tab) (res := [.tmp 2]) tab_ok [5] Tryz.func101 rfl (by kernel_rfl) Tryz.ntmps101 rfl (by simp only [List.length_cons, List.length_nil]; decide) (by simp only [lowL, AV.low, lowWy]; rfl) ?_; conv => whnf
  repeat' first | ((with_reducible apply XBr.ff); conv => whnf) | (refine XHold.a ?_; conv => whnf) | fail
  exact ⟨Froz.grow rfl (by simp) (lowWy xs)⟩
theorem clone_wc : Comp Tryz.prog 105 [.sl true []] (.sl true []) := by
  refine Comp.body (T := tab) (res := [.tmp 2]) tab_ok [] Tryz.func105 rfl (by kernel_rfl) Tryz.ntmps105 rfl (by simp only [List.length_cons, List.length_nil]; decide) (by rfl) ?_; conv => whnf
  repeat' ((with_reducible apply XBr.tt); conv => whnf)
  exact ⟨.low rfl⟩
theorem wnAll_c (e : Int) (B : List Bn) (h : B.length ≤ 100) : Comp Tryz.prog 61 [wnA e B] (.sl false (B.map wyA)) := by
  have hc := clone_wb B (by omega)
  have e0 : (([] : List AV).length : Int) = 0 := rfl
  refine Comp.body (T := tab) (res := [.tmp 2]) tab_ok [] Tryz.func61 rfl (by kernel_rfl) Tryz.ntmps61 rfl (by simp only [List.length_cons, List.length_nil]; decide) (by simp only [lowL, wnL]; rfl) ?_; conv => whnf
  repeat' ((refine XCall.ret hc ?_); conv => whnf)
  refine Walk.loopK tab_ok [] [(3, _), (10, _), (11, _)] ⟨rfl, rfl, rfl, trivial⟩ (fun i : Nat => i ≤ 0) (fun i => [(12, natA i)]) (fun _ => []) (fun i => 0 - i) 0 (Nat.le_refl _) rfl ⟨rfl, trivial⟩ ?_
  intro i hi
  obtain rfl : i = 0 := by omega
  conv => whnf
  repeat' ((with_reducible first | refine XBr.y fun h => ?_ | refine XBr.n fun h => ?_ | refine XBr.dec (fun h => ?_) fun h => ?_) <;> conv => whnf)
  exact ⟨.low (lowWy _)⟩
theorem wnC3_c (w : Bn) : Comp Tryz.prog 100 [wyA w] (.bool (w.1 != w.2.1)) := by
  refine Comp.body (T := tab) (res := [.tmp 2]) tab_ok [] Tryz.func100 rfl (by kernel_rfl) Tryz.ntmps100 rfl (by simp only [List.length_cons, List.length_nil]; decide) (by rfl) ?_; conv => whnf
  skip
  exact XOut.bool rfl
theorem wnCheck_c (e : Int) (B : List Bn) (ok : WnOk e B) : Comp Tryz.prog 60 [wnA e B] (.int .i64 0) := by
  have h1 := ok.e1; have h2 := ok.e2; have l1 := ok.ok.len
  have e1 : ((B.map wyA).length : Int) = B.length := by rw [List.length_map]
  have e0 : (([] : List AV).length : Int) = 0 := rfl
  have i1 := wnIn_c e 1 8
  have i2 := wnIn_c 0 0 6
  rw [inZ_iff.2 (by omega)] at i1 i2
  have n1 := everyw_no 96 [] rfl
  have n2 := everyw_no 97 [.pim (wnC e B)] (by simp only [lowL, AV.low, wnCL]; rfl)
  have ha := wnAll_c e B (by omega)
  have hb := wnBounds_c e B B ok
  have c3 := every_wb false B 100 [] (fun w => w.1 != w.2.1) rfl (by omega) fun w _ => wnC3_c w
  rw [List.all_eq_true.2 fun w hw => by have := ok.ok.ne w hw; simpa using this] at c3
  refine Comp.body (T := tab) (res := [.tmp 2]) tab_ok [] Tryz.func60 rfl (by kernel_rfl) Tryz.ntmps60 rfl (by simp only [List.length_cons, List.length_nil]; decide) (by simp only [lowL, wnL]; rfl) ?_; conv => whnf
  skip
  refine Walk.norm tab_ok [] [(1, _), (2, _)] ⟨rfl, rfl, trivial⟩ ?_
  conv => whnf
  repeat' first | ((with_reducible first | apply XBr.tt | apply XBr.ff | refine XBr.y fun h => ?_ | refine XBr.n fun h => ?_ | refine XBr.dec (fun h => ?_) fun h => ?_ | refine XBr.y1 fun h => ?_ | refine XBr.n1 fun h => ?_ | refine XBr.beq (fun h => ?_) fun h => ?_ | refine XBr.y2 fun h => ?_ | refine XBr.n2 fun h => ?_ | refine XBr.bne (fun h => ?_) fun h => ?_) <;> conv => whnf) | with_reducible apply XBr.not | ((first | refine XCall.ret i1 ?_ | refine XCall.ret i2 ?_ | refine XCall.ret n1 ?_ | refine XCall.ret ha ?_ | refine XCall.ret hb ?_ | refine XCall.ret n2 ?_ | refine XCall.ret c3 ?_); conv => whnf) | fail
  exact XOut.int rfl
end GA
end

section
namespace GA
open Go Go.RowKit Go.Proofs
set_option pp.deepTerms true
set_option maxRecDepth 8000
set_option linter.unusedVariables false
set_option linter.unusedSimpArgs false

theorem wnLeast_c (a b : Int) : Comp Tryz.prog 140 [.int .i64 a, .sl false [.int .i64 b]] (.int .i64 (min a b)) := by
  have e0 : (([AV.int .i64 b] : List AV).length : Int) = 1 := rfl
  refine Comp.body (T := tab) (res := [.tmp 4]) tab_ok [] Tryz.func140 rfl (by kernel_rfl) Tryz.ntmps140 rfl (by simp only [List.length_cons, List.length_nil]; decide) (by rfl) ?_; conv => whnf
  skip
  refine Walk.loopK tab_ok [] [(4, _), (7, _), (8, _)] ⟨rfl, rfl, rfl, trivial⟩ (fun i : Nat => i ≤ 1) (fun i => [(0, .int .i64 (if i = 0 then a else min a b)), (9, natA i)]) (fun _ => []) (fun i => 1 - i) 0 (by omega) rfl ⟨rfl, rfl, trivial⟩ ?_
  intro i hi
  have hc : i = 0 ∨ i = 1 := by omega
  rcases hc with rfl | rfl
  · conv => whnf
    repeat' first | ((with_reducible first | refine XBr.y fun h => ?_ | refine XBr.n fun h => ?_ | refine XBr.dec (fun h => ?_) fun h => ?_ | refine XInt.a ?_) <;> conv => whnf) | ((refine XIx.mk (by decide) (show (0 : Int) < 1 by decide) rfl ?_); conv => whnf) | fail
    exact XAgain.go 1 (by omega) (by omega) rfl ⟨rfl, rfl, rfl, rfl, rfl, trivial⟩
  · conv => whnf
    repeat' ((with_reducible first | refine XBr.y fun h => ?_ | refine XBr.n fun h => ?_ | refine XBr.dec (fun h => ?_) fun h => ?_) <;> conv => whnf)
    exact XOut.int rfl
theorem wnEveryone_c : Comp Tryz.prog 93 [] (.agg [.fn 122 []]) := by
  refine Comp.body (T := tab) (res := [.cell 0 158]) tab_ok [] Tryz.func93 rfl (by kernel_rfl) Tryz.ntmps93 rfl (by simp only [List.length_cons, List.length_nil]; decide) (by rfl) ?_; conv => whnf
  skip
  exact ⟨.low rfl⟩
def wdC (e : Int) (B : List Bn) (F : Nat → Int) : List AV := wnC e B ++ (vecF 64 F).map (.int .i64)
theorem wdCL {n : Nat} (e : Int) (B : List Bn) (F : Nat → Int) : lowL n (wdC e B F) = true := by
  rw [lowL_iff]
  intro x hx
  rcases List.mem_append.1 hx with h | h
  · exact lowL_iff.1 (wnCL e B) x h
  · obtain ⟨z, -, rfl⟩ := List.mem_map.1 h; rfl
theorem wd_at (e : Int) (B : List Bn) (F : Nat → Int) {j : Nat} (hj : j < 64) : (wdC e B F)[4 + j]? = some (.int .i64 (F j)) := by
  unfold wdC
  rw [List.getElem?_append_right (by show 4 ≤ 4 + j; omega), show 4 + j - (wnC e B).length = j by show 4 + j - 4 = j; omega]
  exact vec_at (f := AV.int .i64) hj
theorem wd_len (e : Int) (B : List Bn) (F : Nat → Int) : (wdC e B F).length = 68 := by unfold wdC; rw [List.length_append, List.length_map, vecF_len]; rfl
theorem wd_set (e : Int) (B : List Bn) (F : Nat → Int) {j : Nat} {v : Int} : (wdC e B F).set (4 + j) (.int .i64 v) = wdC e B (updV F j v) := by
  unfold wdC
  rw [List.set_append_right _ _ (by show 4 ≤ 4 + j; omega), show 4 + j - (wnC e B).length = j by show 4 + j - 4 = j; omega, ← List.map_set, vecF_set]
theorem xspl_wd {e : Int} {B : List Bn} {F : Nat → Int} {o : Nat} {v : Int} {k : List AV → Prop} (j : Nat) (ho : o = 4 + j) (hj : j < 64) (hk : k (wdC e B (updV F j v))) : xspl (wdC e B F) o [.int .i64 v] k := by
  subst ho
  refine xsplA (by rw [wd_len]; omega) ?_
  rw [wd_set]; exact hk
theorem xdrop_wd {e : Int} {B : List Bn} {F : Nat → Int} {o : Nat} {k : List AV → Prop} (j : Nat) (ho : o = 4 + j) (hj : j < 64) (hk : k (.int .i64 (F j) :: (wdC e B F).drop (4 + j + 1))) : xdrop o (wdC e B F) k := by
  subst ho
  exact xdrop_at _ (wd_at e B F hj) hk
theorem wdOne {e : Int} {B : List Bn} {F : Nat → Int} : ∀ x ∈ wdC e B F, x.one = true := fun x hx => by
  rcases List.mem_append.1 hx with h | h
  · exact wnOne e B x h
  · obtain ⟨z, -, rfl⟩ := List.mem_map.1 h; rfl
theorem wd_congr {e : Int} {B : List Bn} {F G : Nat → Int} (h : ∀ j, j < 64 → F j = G j) : wdC e B F = wdC e B G := by unfold wdC; rw [vecF_congr h]
def gz (a b j : Nat) : Int := if j / 8 < a ∨ (j / 8 = a ∧ j % 8 < b) then gap0 j else 0
theorem gz_row (a : Nat) : gz a 8 = gz (a + 1) 0 := by
  funext j
  unfold gz
  by_cases h : j / 8 < a ∨ (j / 8 = a ∧ j % 8 < 8)
  · rw [if_pos h, if_pos (by omega)]
  · rw [if_neg h, if_neg (by omega)]
theorem gz_one {a b : Nat} (ha : a < 8) (hb : b < 8) (h : a ≠ b) : updV (gz a b) (8 * a + b) 1099511627776 = gz a (b + 1) := by
  funext j
  unfold updV gz
  by_cases e : j = 8 * a + b
  · rw [if_pos e, if_pos (by omega)]
    unfold gap0
    rw [if_neg (by omega)]; rfl
  · rw [if_neg e]
    by_cases h : j / 8 < a ∨ (j / 8 = a ∧ j % 8 < b)
    · rw [if_pos h, if_pos (by omega)]
    · rw [if_neg h, if_neg (by omega)]
theorem gz_two {a b : Nat} (hb : b < 8) (h : a = b) : gz a b = gz a (b + 1) := by
  funext j
  unfold gz
  by_cases h : j / 8 < a ∨ (j / 8 = a ∧ j % 8 < b)
  · rw [if_pos h, if_pos (by omega)]
  · rw [if_neg h]
    by_cases h2 : j / 8 < a ∨ (j / 8 = a ∧ j % 8 < b + 1)
    · rw [if_pos h2]
      unfold gap0
      rw [if_pos (by omega)]
    · rw [if_neg h2]
theorem rlxR_step {x : Bn} (hf : 0 ≤ x.1 ∧ x.1 ≤ 4) (ht : 0 ≤ x.2.1 ∧ x.2.1 ≤ 4) (G : Nat → Int) {a : Nat} (h : rlxR x G a (8 * a + x.1.toNat) ≠ farZ) : rlxR x G (a + 1) = updV (rlxR x G a) (8 * a + x.2.1.toNat) (min (rlxR x G a (8 * a + x.2.1.toNat)) (rlxR x G a (8 * a + x.1.toNat) + x.2.2)) := by
  funext j
  rw [rlxR_next hf ht]
  unfold updV
  rw [if_pos h]
theorem rlxR_stay {x : Bn} (hf : 0 ≤ x.1 ∧ x.1 ≤ 4) (ht : 0 ≤ x.2.1 ∧ x.2.1 ≤ 4) (G : Nat → Int) {a : Nat} (h : ¬ rlxR x G a (8 * a + x.1.toNat) ≠ farZ) : rlxR x G (a + 1) = rlxR x G a := by
  funext j
  rw [rlxR_next hf ht, if_neg h]
  by_cases e : j = 8 * a + x.2.1.toNat
  · rw [if_pos e, e]
  · rw [if_neg e]
theorem wd1 : (vecF 64 (gz 0 0)).map (AV.int .i64) = List.replicate 64 (.int .i64 0) := by
  have : vecF 64 (gz 0 0) = vecF 64 fun _ => (0 : Int) := vecF_congr fun j hj => by unfold gz; rw [if_neg (by omega)]
  rw [this, vecF_eq]; rfl
theorem bvL {n : Nat} (e : Int) (B : List Bn) : (AV.fn 121 [.pim (wnC e B), .pim [.fn 122 []]]).low n = true := by simp only [AV.low, lowL, wnCL]; rfl
theorem wnBelieved_c (e : Int) (B : List Bn) : Comp Tryz.prog 92 [wnA e B, .agg [.fn 122 []]] (.fn 121 [.pim (wnC e B), .pim [.fn 122 []]]) := by
  refine Comp.body (T := tab) (res := [.tmp 4]) tab_ok [] Tryz.func92 rfl (by kernel_rfl) Tryz.ntmps92 rfl (by simp only [List.length_cons, List.length_nil]; decide) (by simp only [lowL, AV.low, wnL]; rfl) ?_; conv => whnf
  skip
  exact ⟨.low (bvL e B)⟩
set_option maxHeartbeats 4000000 in
theorem worked_c (e : Int) (B : List Bn) (ok : WnOk e B) : Comp Tryz.prog 132 [wnA e B, .agg [.fn 122 []]] (.pim (wdC e B (gapK B 8))) := by
  have l1 := ok.ok.len
  have e1 : ((B.map wyA).length : Int) = B.length := by rw [List.length_map]
  refine Comp.body' (T := tab) (res := [.tmp 4]) tab_ok [14] Tryz.func132 rfl (by kernel_rfl) Tryz.ntmps132 rfl (by simp only [List.length_cons, List.length_nil]; decide) (by simp only [lowL, AV.low, wnL]; rfl) ?_; conv => whnf
  skip
  refine Walk.loopK tab_ok [] [(2, _), (3, _), (4, _), (5, _)] ⟨rfl, rfl, rfl, rfl, trivial⟩ (fun a : Nat => a ≤ 8) (fun a => [(15, natA a)]) (fun a => [.cells (wdC e B (gz a 0)), .cells [.ptr 0 0]]) (fun a => 8 - a) 0 (Nat.zero_le _) (by unfold wdC; rw [show (vecF 64 (gz 0 0)).map (AV.int .i64) = List.replicate 64 (.int .i64 0) from wd1]; rfl) ⟨rfl, trivial⟩ ?_
  intro a ha
  conv => whnf
  by_cases hlt : a < 8
  · skip
    repeat' ((with_reducible first | refine XBr.y fun h => ?_ | refine XBr.n fun h => ?_ | refine XBr.dec (fun h => ?_) fun h => ?_) <;> conv => whnf)
    refine Walk.loopK tab_ok [] [(2, _), (3, _), (4, _), (5, _), (6, _), (15, _)] ⟨rfl, rfl, rfl, rfl, rfl, rfl, trivial⟩ (fun b : Nat => b ≤ 8) (fun b => [(18, natA b)]) (fun b => [.cells (wdC e B (gz a b)), .cells [.ptr 0 0]]) (fun b => 8 - b) 0 (Nat.zero_le _) rfl ⟨rfl, trivial⟩ ?_
    intro b hb
    conv => whnf
    by_cases hlt2 : b < 8
    · by_cases hab : a = b
      · skip
        repeat' ((with_reducible first | refine XBr.y fun h => ?_ | refine XBr.n fun h => ?_ | refine XBr.dec (fun h => ?_) fun h => ?_ | refine XBr.y2 fun h => ?_ | refine XBr.n2 fun h => ?_ | refine XBr.bne (fun h => ?_) fun h => ?_ | refine XInt.a ?_) <;> conv => whnf)
        exact XAgain.go (b + 1) (by omega) (by omega) (by rw [← gz_two hlt2 hab]) ⟨rfl, rfl, rfl, rfl, rfl, rfl, rfl, trivial⟩
      · skip
        repeat' first | ((with_reducible first | refine XBr.y fun h => ?_ | refine XBr.n fun h => ?_ | refine XBr.dec (fun h => ?_) fun h => ?_ | refine XBr.y2 fun h => ?_ | refine XBr.n2 fun h => ?_ | refine XBr.bne (fun h => ?_) fun h => ?_ | refine XInt.a ?_) <;> conv => whnf) | ((first | ((with_reducible refine XArr.ptr ?_ ?_ ?_); omega; omega) | (refine xspl_wd (8 * a + b) (by omega) (by omega) ?_)); conv => whnf) | fail
        exact XAgain.go (b + 1) (by omega) (by omega) (by rw [← gz_one hlt hlt2 hab]) ⟨rfl, rfl, rfl, rfl, rfl, rfl, rfl, trivial⟩
    obtain rfl : b = 8 := by omega
    repeat' ((with_reducible first | refine XBr.y fun h => ?_ | refine XBr.n fun h => ?_ | refine XBr.dec (fun h => ?_) fun h => ?_ | refine XInt.a ?_) <;> conv => whnf)
    exact XAgain.go (a + 1) (by omega) (by omega) (by rw [← gz_row]) ⟨rfl, rfl, rfl, rfl, rfl, trivial⟩
  obtain rfl : a = 8 := by omega
  rw [show wdC e B (gz 8 0) = wdC e B (gapK B 0) from wd_congr fun j hj => by show gz 8 0 j = gap0 j; unfold gz; rw [if_pos (by omega)]]
  repeat' ((with_reducible first | refine XBr.y fun h => ?_ | refine XBr.n fun h => ?_ | refine XBr.dec (fun h => ?_) fun h => ?_) <;> conv => whnf)
  have hlL : ∀ n : Nat, ∀ z ∈ ([(2, .pim (wnC e B)), (3, .pim [.fn 122 []]), (4, .nilp), (5, .ptr 1 0), (33, natA n)] : List (Nat × AV)), z.2.low 2 = true := fun n z hz => by
    simp only [List.mem_cons, List.not_mem_nil, or_false] at hz
    rcases hz with rfl | rfl | rfl | rfl | rfl <;> first | rfl | exact wnCL _ _
  have hlH : ∀ F : Nat → Int, ∀ z ∈ [Blk.cells (wdC e B F), .cells [.ptr 0 0]], z.low 2 = true := fun F z hz => by
    simp only [List.mem_cons, List.not_mem_nil, or_false] at hz
    rcases hz with rfl | rfl
    · exact wdCL _ _ _
    · rfl
  refine Walk.loopM tab_ok [] (fun n : Nat => n ≤ 8) (fun n => [(2, .pim (wnC e B)), (3, .pim [.fn 122 []]), (4, .nilp), (5, .ptr 1 0), (33, natA n)]) (fun n => [.cells (wdC e B (gapK B n)), .cells [.ptr 0 0]]) (fun n => 8 - n) 0 2 (Nat.zero_le _) rfl rfl ⟨rfl, rfl, rfl, rfl, rfl, trivial⟩ ?_
  intro n hn
  have hgb := gapK_b ok.ok
  have hl64 : ∀ F : Nat → Int, (vecF 64 F).length = 64 := fun F => vecF_len 64 F
  conv => whnf
  by_cases hlt : n < 8
  · have hgn := gapK_b ok.ok n hn
    repeat' first | ((with_reducible first | refine XBr.y fun h => ?_ | refine XBr.n fun h => ?_ | refine XBr.dec (fun h => ?_) fun h => ?_) <;> conv => whnf) | ((first | refine xtk_vec rfl ?_ | refine xn_vec rfl ?_ | (refine xspl_full (by rw [List.length_map, vecF_len]; rfl) ?_) | refine XCall.ret (wnBelieved_c e B) ?_); conv => whnf) | fail
    refine Walk.range (own := []) tab_ok [(5, .ptr 1 0)] rfl ⟨rfl, trivial⟩ ?_
    intro fn
    refine XCall.inl (T := tab) (res := []) tab_ok [] Tryz.func121 rfl (by kernel_rfl) Tryz.ntmps121 rfl (by simp only [List.length_append, List.length_cons, List.length_nil]; decide) ?_; conv => whnf
    skip
    refine Walk.loopGKL tab_ok [] _ [(0, _), (1, _), (2, _), (12, _), (13, _)] ⟨rfl, rfl, rfl, rfl, rfl, trivial⟩ (fun i : Nat => i ≤ B.length) (fun i => [(14, natA i)]) (fun lp i => [.cells (wdC e B (rndW (B.take i) (gapK B n))), .cells [.ptr 0 0], .cells ((vecF 64 (gapK B n)).map (.int .i64)), .raw (.deferred (some [])), lp]) (fun i => B.length - i) 0 (Nat.zero_le _) rfl ⟨rfl, trivial⟩ ?_ (fun _ _ => (show (5 : Nat) ≤ 5 from Nat.le_refl 5)) ?_
    · intro i _
      refine ⟨fun z hz => ?_, fun z hz => ?_⟩
      · simp only [List.mem_cons, List.not_mem_nil, or_false] at hz
        rcases hz with rfl | rfl | rfl | rfl | rfl
        · exact wdCL _ _ _
        · rfl
        · exact vec_low fun _ => rfl
        · rfl
        · rfl
      · simp only [List.cons_append, List.nil_append, List.mem_cons, List.not_mem_nil, or_false] at hz
        rcases hz with rfl | rfl | rfl | rfl | rfl | rfl <;> first | rfl | exact wnCL _ _ | exact lowWy _
    intro i hi
    conv => whnf
    by_cases hlt2 : i < B.length
    · have hnx := rndW_next B (gapK B n) hlt2
      have hgi := rndW_b ok.ok hgn (by omega) i hi
      have hmx := getD_mem (xs := B) (i := i) (d := default) hlt2
      have hmo := ok.ok.mo _ hmx
      have hfr := ok.ok.fr _ hmx
      have hto := ok.ok.to _ hmx
      repeat' first | ((with_reducible first | refine XBr.y fun h => ?_ | refine XBr.n fun h => ?_ | refine XBr.dec (fun h => ?_) fun h => ?_) <;> conv => whnf) | (refine XIx.a ?_; conv => whnf) | (((refine XYield.go (own := []) tab_ok rfl rfl (by decide) ?_); intro ρ); conv => whnf) | fail
      generalize rndW (B.take i) (gapK B n) = G at *
      generalize B.getD i default = x at *
      rw [show wdC e B G = wdC e B (rlxR x G 0) by rw [rlxR_0]]
      refine Walk.loopGKL tab_ok [] _ [(5, _), (10, _)] ⟨rfl, rfl, trivial⟩ (fun a : Nat => a ≤ 8) (fun a => [(44, natA a)]) (fun lp a => [.cells (wdC e B (rlxR x G a)), .cells [.ptr 0 0], .cells ((vecF 64 (gapK B n)).map (.int .i64)), .raw (.deferred (some [])), lp, .cells [.int .i64 x.1, .int .i64 x.2.1, .int .i64 x.2.2], .cells [.int .i64 x.1, .int .i64 x.2.1, .int .i64 x.2.2]]) (fun a => 8 - a) 0 (Nat.zero_le _) rfl ⟨rfl, trivial⟩ ?_ (fun _ _ => (show (7 : Nat) ≤ 7 from Nat.le_refl 7)) ?_
      · intro i _
        refine ⟨fun z hz => ?_, fun z hz => ?_⟩
        · simp only [List.mem_cons, List.not_mem_nil, or_false] at hz
          rcases hz with rfl | rfl | rfl | rfl | rfl | rfl | rfl
          · exact wdCL _ _ _
          · rfl
          · exact vec_low fun _ => rfl
          · rfl
          · rfl
          · rfl
          · rfl
        · simp only [List.cons_append, List.nil_append, List.mem_cons, List.not_mem_nil, or_false] at hz
          rcases hz with rfl | rfl | rfl <;> rfl
      intro a ha
      have e2 : rlxR x G a (8 * a + x.1.toNat) = G (8 * a + x.1.toNat) := by unfold rlxR; rw [if_neg (by omega)]
      conv => whnf
      by_cases hlt3 : a < 8
      · have q1 := hgi (8 * a + x.1.toNat) (by omega)
        unfold farZ at q1
        have hle := wnLeast_c (rlxR x G a (8 * a + x.2.1.toNat)) (rlxR x G a (8 * a + x.1.toNat) + x.2.2)
        by_cases hfar : rlxR x G a (8 * a + x.1.toNat) ≠ 1099511627776
        · have hst := rlxR_step hfr hto G hfar
          repeat' first | ((with_reducible first | refine XBr.y fun h => ?_ | refine XBr.n fun h => ?_ | refine XBr.dec (fun h => ?_) fun h => ?_ | refine XBr.y2 fun h => ?_ | refine XBr.n2 fun h => ?_ | refine XBr.bne (fun h => ?_) fun h => ?_ | refine XInt.a ?_ | apply Chk.go | apply ChkA.go | apply ChkF.go | apply ChkB.go | apply XNext.mk) <;> conv => whnf) | (refine XHold.a ?_; conv => whnf) | (with_reducible first | apply XAnd.mk | exact trivial) | (exact XSame.mk rfl rfl) | (((with_reducible refine XArr.ptr ?_ ?_ ?_); omega; omega); conv => whnf) | (apply Walk.drawN (id := 20) tab_ok mixed_ok [] [] (hsU _) [_, _, _, _, _, _, _, _, _, _] (by kernel_rfl) rfl) | (apply Walk.drawN (id := 21) tab_ok mixed_ok [] [31] (hsC [_, _]) [_, _, _, _, _, _, _, _, _, _, _, _, _, _, _, _, _, _, _, _, _, _, _, _, _, _, _, _, _, _, _, _] (by kernel_rfl) rfl) | ((first | refine XCall.ret hle ?_ | (first | refine xdrop_wd (8 * a + x.1.toNat) (by omega) (by omega) ?_ | refine xdrop_wd (8 * a + x.2.1.toNat) (by omega) (by omega) ?_) | refine xspl_wd (8 * a + x.2.1.toNat) (by omega) (by omega) ?_); conv => whnf) | fail
          exact XAgainG.go (a + 1) [] (by omega) (by omega) (by rw [hst]; rfl) ⟨rfl, rfl, rfl, trivial⟩
        · have hst := rlxR_stay hfr hto G hfar
          repeat' first | ((with_reducible first | refine XBr.y fun h => ?_ | refine XBr.n fun h => ?_ | refine XBr.dec (fun h => ?_) fun h => ?_ | refine XBr.y2 fun h => ?_ | refine XBr.n2 fun h => ?_ | refine XBr.bne (fun h => ?_) fun h => ?_ | refine XInt.a ?_ | apply Chk.go | apply ChkA.go | apply ChkF.go | apply ChkB.go | apply XNext.mk) <;> conv => whnf) | (with_reducible first | apply XAnd.mk | exact trivial) | (exact XSame.mk rfl rfl) | (((with_reducible refine XArr.ptr ?_ ?_ ?_); omega; omega); conv => whnf) | (apply Walk.drawN (id := 20) tab_ok mixed_ok [] [] (hsU _) [_, _, _, _, _, _, _, _, _, _] (by kernel_rfl) rfl) | ((first | refine xdrop_wd (8 * a + x.1.toNat) (by omega) (by omega) ?_ | refine xdrop_wd (8 * a + x.2.1.toNat) (by omega) (by omega) ?_); conv => whnf) | fail
          exact XAgainG.go (a + 1) [] (by omega) (by omega) (by rw [hst]; rfl) ⟨rfl, rfl, rfl, trivial⟩
      obtain rfl : a = 8 := by omega
      rw [show wdC e B (rlxR x G 8) = wdC e B (rlx x G) from wd_congr fun j hj => rlxR_8 x G hj]
      repeat' first | ((with_reducible first | apply XBr.tt | refine XBr.y fun h => ?_ | refine XBr.n fun h => ?_ | refine XBr.dec (fun h => ?_) fun h => ?_ | refine XInt.a ?_) <;> conv => whnf) | with_reducible apply XBr.not | fail
      exact XAgainG.go (i + 1) [_, _] (by omega) (by omega) (by rw [hnx]; rfl) ⟨rfl, rfl, rfl, rfl, rfl, rfl, trivial⟩
    obtain rfl : i = B.length := by omega
    rw [List.take_length]
    have e0 : (([] : List AV).length : Int) = 0 := rfl
    repeat' ((with_reducible first | refine XBr.y fun h => ?_ | refine XBr.n fun h => ?_ | refine XBr.dec (fun h => ?_) fun h => ?_) <;> conv => whnf)
    refine Walk.loopGKL tab_ok [] _ [(0, _), (2, _), (29, _), (30, _)] ⟨rfl, rfl, rfl, rfl, trivial⟩ (fun i : Nat => i ≤ 0) (fun i => [(31, natA i)]) (fun lp i => [.cells (wdC e B (rndW B (gapK B n))), .cells [.ptr 0 0], .cells ((vecF 64 (gapK B n)).map (.int .i64)), .raw (.deferred (some [])), lp]) (fun i => 0 - i) 0 (Nat.zero_le _) rfl ⟨rfl, trivial⟩ ?_ (fun _ _ => (show (5 : Nat) ≤ 5 from Nat.le_refl 5)) ?_
    · intro i _
      refine ⟨fun z hz => ?_, fun z hz => ?_⟩
      · simp only [List.mem_cons, List.not_mem_nil, or_false] at hz
        rcases hz with rfl | rfl | rfl | rfl | rfl
        · exact wdCL _ _ _
        · rfl
        · exact vec_low fun _ => rfl
        · rfl
        · rfl
      · simp only [List.cons_append, List.nil_append, List.mem_cons, List.not_mem_nil, or_false] at hz
        rcases hz with rfl | rfl | rfl | rfl | rfl <;> rfl
    intro i2 hi2
    obtain rfl : i2 = 0 := by omega
    conv => whnf
    by_cases hs : vecF 64 (gapK B n) = vecF 64 (gapK B (n + 1))
    · have hb : (vecF 64 (gapK B n) == vecF 64 (rndW B (gapK B n))) = true := by rw [show rndW B (gapK B n) = gapK B (n + 1) from rfl, ← hs]; exact beq_self_eq_true _
      repeat' first | ((with_reducible first | apply XBr.tt | refine XBr.y fun h => ?_ | refine XBr.n fun h => ?_ | refine XBr.dec (fun h => ?_) fun h => ?_ | apply Chk.go | apply ChkA.go | apply ChkF.go | apply ChkB.go | apply XNext.mk) <;> conv => whnf) | (with_reducible first | apply XAnd.mk | exact trivial) | (exact XSame.mk rfl rfl) | (apply Walk.drawN (id := 23) tab_ok mixed_ok [] [] (hsU _) [_, _, _, _, _, _] (by kernel_rfl) rfl) | ((refine xtk_vec rfl ?_); conv => whnf) | ((refine XEqA.mk ⟨_, _, rfl, rfl, by rw [hl64, hl64], (hl64 _).symm, ?_⟩); exact XSame.mk (congrArg AV.bool hb) rfl) | fail
      have hg8 : ∀ j, j < 64 → gapK B (n + 1) j = gapK B 8 j := fun j hj => by
        have h1 : ∀ j, j < 64 → gapK B (n + 1) j = gapK B n j := fun j hj => by
          have := congrArg (fun l => l.getD j 0) hs
          rw [vecF_get 0 hj, vecF_get 0 hj] at this
          exact this.symm
        have h2 := gapK_stop ok.ok h1 (8 - n) j hj
        rw [show n + (8 - n) = 8 by omega] at h2
        rw [h2, h1 j hj]
      rw [show wdC e B (rndW B (gapK B n)) = wdC e B (gapK B 8) from wd_congr hg8]
      exact ⟨Froz.ptr rfl wdOne (.low (wdCL _ _ _))⟩
    · have hb : (vecF 64 (gapK B n) == vecF 64 (rndW B (gapK B n))) = false := by rw [beq_eq_false_iff_ne]; exact hs
      repeat' first | ((with_reducible first | apply XBr.ff | refine XBr.y fun h => ?_ | refine XBr.n fun h => ?_ | refine XBr.dec (fun h => ?_) fun h => ?_ | refine XInt.a ?_ | apply Chk.go | apply ChkA.go | apply ChkF.go | apply ChkB.go | apply XNext.mk) <;> conv => whnf) | (with_reducible first | apply XAnd.mk | exact trivial) | (exact XSame.mk rfl rfl) | (apply Walk.drawN (id := 23) tab_ok mixed_ok [] [] (hsU _) [_, _, _, _, _, _] (by kernel_rfl) rfl) | ((refine xtk_vec rfl ?_); conv => whnf) | ((refine XEqA.mk ⟨_, _, rfl, rfl, by rw [hl64, hl64], (hl64 _).symm, ?_⟩); exact XSame.mk (congrArg AV.bool hb) rfl) | fail
      exact XAgainM.go (n + 1) [.cells ((vecF 64 (gapK B n)).map (.int .i64)), .raw (.deferred (some [])), .dead] (by omega) (by omega) rfl ⟨rfl, rfl, rfl, rfl, rfl, trivial⟩ (Nat.le_refl _) (hlH _) (hlL _) (by simp) (fun i hi => by rw [List.mem_singleton] at hi; subst hi; exact ⟨show 2 ≤ 3 by omega, rfl⟩)
  obtain rfl : n = 8 := by omega
  repeat' ((with_reducible first | refine XBr.y fun h => ?_ | refine XBr.n fun h => ?_ | refine XBr.dec (fun h => ?_) fun h => ?_) <;> conv => whnf)
  exact ⟨Froz.ptr rfl wdOne (.low (wdCL _ _ _))⟩
end GA
end

section
namespace GA
open Go Go.RowKit Go.Proofs
set_option pp.deepTerms true
set_option maxRecDepth 8000
set_option linter.unusedVariables false
set_option linter.unusedSimpArgs false

theorem XArr.gpP {F : Nat → Int} {p : Int} {k : AV → Prop} (q : Nat) (hq : p = q) (h1 : q < 8) (h : k (.pim (((vecF 64 F).map (AV.int .i64)).drop (8 * q)))) : XArr (.pim ((vecF 64 F).map (AV.int .i64))) p 8 8 k := by
  subst hq
  refine XArr.pim (by omega) (by omega) ?_
  rw [show ((q : Int).toNat) * 8 = 8 * q by omega]; exact h
theorem XArr.gpM {F : Nat → Int} {m : Int} {k : AV → Prop} {p : Nat} (q : Nat) (hq : m = q) (h1 : q < 8) (h2 : p < 8) (h : k (.pim (.int .i64 (F (8 * p + q)) :: (((vecF 64 F).map (AV.int .i64)).drop (8 * p)).drop (q * 1 + 1)))) : XArr (.pim (((vecF 64 F).map (AV.int .i64)).drop (8 * p))) m 8 1 k := by
  subst hq
  refine XArr.at _ (by omega) (by omega) ?_ h
  rw [show (q : Int).toNat * 1 = q by omega, List.getElem?_drop]
  exact vec_at (f := AV.int .i64) (by omega)
theorem wdTL {n : Nat} (e : Int) (B : List Bn) (F : Nat → Int) : (AV.tup [.pim (wdC e B F), .int .i64 0]).low n = true := by simp only [AV.low, lowL, wdCL]; rfl
theorem wnClash_c (e : Int) (B : List Bn) (F : Nat → Int) (h : ∀ a, a < 8 → 0 ≤ F (8 * a + a)) : Comp Tryz.prog 120 [.pim (wdC e B F)] (.bool false) := by
  refine Comp.body (T := tab) (res := [.tmp 2]) tab_ok [] Tryz.func120 rfl (by kernel_rfl) Tryz.ntmps120 rfl (by simp only [List.length_cons, List.length_nil]; decide) (by simp only [lowL, AV.low, wdCL]; rfl) ?_; conv => whnf
  skip
  refine Walk.loopK tab_ok [] [(0, _)] ⟨rfl, trivial⟩ (fun a : Nat => a ≤ 8) (fun a => [(2, .bool false), (4, natA a)]) (fun _ => []) (fun a => 8 - a) 0 (by omega) rfl ⟨rfl, rfl, trivial⟩ ?_
  intro a ha
  conv => whnf
  by_cases hlt : a < 8
  · have ha := h a hlt
    repeat' first | ((with_reducible first | refine XBr.y fun h => ?_ | refine XBr.n fun h => ?_ | refine XBr.dec (fun h => ?_) fun h => ?_ | refine XInt.a ?_) <;> conv => whnf) | ((first | refine XArr.gpP a rfl hlt ?_ | refine XArr.gpM a rfl hlt hlt ?_); conv => whnf) | fail
    exact XAgain.go (a + 1) (by omega) (by omega) rfl ⟨rfl, rfl, rfl, trivial⟩
  obtain rfl : a = 8 := by omega
  repeat' ((with_reducible first | refine XBr.y fun h => ?_ | refine XBr.n fun h => ?_ | refine XBr.dec (fun h => ?_) fun h => ?_) <;> conv => whnf)
  exact XOut.bool rfl
theorem wnOpened_c (e : Int) (B : List Bn) (ok : WnOk e B) : Comp Tryz.prog 119 [wnA e B] (.tup [.pim (wdC e B (gapK B 8)), .int .i64 0]) := by
  have hc := wnCheck_c e B ok
  have he := wnEveryone_c
  have hw := worked_c e B ok
  generalize gapK B 8 = G at *
  refine Comp.body (T := tab) (res := [.tmp 2, .tmp 3]) tab_ok [] Tryz.func119 rfl (by kernel_rfl) Tryz.ntmps119 rfl (by simp only [List.length_cons, List.length_nil]; decide) (by simp only [lowL, AV.low, wnL]; rfl) ?_; conv => whnf
  repeat' first | ((with_reducible first | refine XBr.y2 fun h => ?_ | refine XBr.n2 fun h => ?_ | refine XBr.bne (fun h => ?_) fun h => ?_ | apply Chk.go | apply ChkA.go | apply ChkF.go | apply ChkB.go | apply XNext.mk) <;> conv => whnf) | (with_reducible first | apply XAnd.mk | exact trivial) | (exact XSame.mk rfl rfl) | (apply Walk.drawN (id := 4) tab_ok mixed_ok [] [] (hsU _) [_, _, _, _, _] (by kernel_rfl) rfl) | ((first | refine XCall.ret hc ?_ | refine XCall.ret he ?_ | refine XCall.ret hw ?_); conv => whnf) | fail
  exact ⟨.low (wdTL _ _ _)⟩
structure WnT (e : Int) (B : List Bn) (π : Nat → Int) : Prop where
  ok : WnOk e B
  t : ∀ x ∈ B, π x.2.1.toNat ≤ π x.1.toNat + x.2.2
theorem wnTold_c (e : Int) (B : List Bn) (π : Nat → Int) (ok : WnT e B π) : Comp Tryz.prog 91 [wnA e B] (.tup [.pim (wdC e B (gapK B 8)), .int .i64 0]) := by
  have ho := wnOpened_c e B ok.ok
  have hc := wnClash_c e B (gapK B 8) fun a ha => gapK_diag ok.ok.ok ok.t ha 8
  generalize gapK B 8 = G at *
  refine Comp.body (T := tab) (res := [.tmp 2, .tmp 3]) tab_ok [] Tryz.func91 rfl (by kernel_rfl) Tryz.ntmps91 rfl (by simp only [List.length_cons, List.length_nil]; decide) (by simp only [lowL, AV.low, wnL]; rfl) ?_; conv => whnf
  repeat' first | ((with_reducible first | apply XBr.tt | apply XBr.ff | refine XBr.y1 fun h => ?_ | refine XBr.n1 fun h => ?_ | refine XBr.beq (fun h => ?_) fun h => ?_) <;> conv => whnf) | ((first | refine XCall.ret ho ?_ | refine XCall.ret hc ?_); conv => whnf) | fail
  exact ⟨.low (wdTL _ _ _)⟩
theorem wnAsked_c (e : Int) (B : List Bn) (π : Nat → Int) (ok : WnT e B π) (xs : List Int) (hx : xs.length ≤ 100) (hm : ∀ x ∈ xs, 0 ≤ x ∧ x < e) : Comp Tryz.prog 57 [wnA e B, .sl false (ints xs)] (.tup [.pim (wdC e B (gapK B 8)), .int .i64 0]) := by
  have hc := wnCheck_c e B ok.ok
  have ht := wnTold_c e B π ok
  have h1 := ok.ok.e1; have h2 := ok.ok.e2
  have hev := everyw_zi false xs 62 [wnA e B] (fun n => inZ n 0 (e - 1)) (by simp only [lowL, wnL]; rfl) (by omega) fun x _ => wnEvent_c e B x h1 h2
  rw [List.all_eq_true.2 fun x hx => inZ_iff.2 (by have := hm x hx; omega)] at hev
  generalize gapK B 8 = G at *
  refine Comp.body (T := tab) (res := [.tmp 4, .tmp 5]) tab_ok [] Tryz.func57 rfl (by kernel_rfl) Tryz.ntmps57 rfl (by simp only [List.length_cons, List.length_nil]; decide) (by simp only [lowL, AV.low, wnL, lowI]; rfl) ?_; conv => whnf
  repeat' first | ((with_reducible first | apply XBr.tt | refine XBr.y2 fun h => ?_ | refine XBr.n2 fun h => ?_ | refine XBr.bne (fun h => ?_) fun h => ?_) <;> conv => whnf) | with_reducible apply XBr.not | ((first | refine XCall.ret hc ?_ | refine XCall.ret hev ?_ | refine XCall.ret ht ?_); conv => whnf) | fail
  exact ⟨.low (wdTL _ _ _)⟩
theorem wnVerdict_c (e : Int) (B : List Bn) (F : Nat → Int) (a b : Nat) (ha : a < 8) (hb : b < 8) (h : F (8 * b + a) < 0) : Comp Tryz.prog 58 [.pim (wdC e B F), natA a, natA b] (.int .i64 1) := by
  refine Comp.body (T := tab) (res := [.tmp 6]) tab_ok [] Tryz.func58 rfl (by kernel_rfl) Tryz.ntmps58 rfl (by simp only [List.length_cons, List.length_nil]; decide) (by simp only [lowL, AV.low, wdCL]; rfl) ?_; conv => whnf
  repeat' first | ((with_reducible first | refine XBr.y fun h => ?_ | refine XBr.n fun h => ?_ | refine XBr.dec (fun h => ?_) fun h => ?_) <;> conv => whnf) | ((first | refine XArr.gpP b rfl hb ?_ | refine XArr.gpM a rfl ha hb ?_); conv => whnf) | fail
  exact XOut.int rfl
theorem wnBefore_c (e : Int) (B : List Bn) (π : Nat → Int) (ok : WnT e B π) (a b : Nat) (ha : (a : Int) < e) (hb : (b : Int) < e) (h : gapK B 8 (8 * b + a) < 0) : Comp Tryz.prog 13 [wnA e B, natA a, natA b] (.tup [.int .i64 1, .int .i64 0]) := by
  have h2 := ok.ok.e2
  have hq := wnAsked_c e B π ok [(a : Int), (b : Int)] (by simp) (fun x hx => by simp only [List.mem_cons, List.not_mem_nil, or_false] at hx; omega)
  have hv := wnVerdict_c e B (gapK B 8) a b (by omega) (by omega) h
  generalize gapK B 8 = G at *
  refine Comp.body (T := tab) (res := [.tmp 6, .tmp 7]) tab_ok [] Tryz.func13 rfl (by kernel_rfl) Tryz.ntmps13 rfl (by simp only [List.length_cons, List.length_nil]; decide) (by simp only [lowL, AV.low, wnL]; rfl) ?_; conv => whnf
  repeat' first | ((with_reducible first | refine XBr.y2 fun h => ?_ | refine XBr.n2 fun h => ?_ | refine XBr.bne (fun h => ?_) fun h => ?_) <;> conv => whnf) | ((first | refine XHold.a ?_ | refine XCall.ret hq ?_ | refine XCall.ret hv ?_); conv => whnf) | fail
  exact ⟨.low rfl⟩
end GA
end
