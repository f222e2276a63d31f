/- Part 7 of a proof: F38, F39, F40, F41, F42, F43, F45, F49, F53, F54. -/
import Derived.Test.YtmeankpoalkloaaGreatP6
section
namespace GA
open Go Go.RowKit Go.Proofs
set_option pp.deepTerms true
set_option maxRecDepth 8000
set_option linter.unusedVariables false
set_option linter.unusedSimpArgs false

theorem rNumber_c (s : Sn) (nt : Bool) (T : List Rs) (h : TbOk s T) (y : Sta) (hy : vld s y) : Comp Tryz.prog 101 [.sl nt (T.map rsT), staA y] (.int .i64 (tbN T y)) := by
  obtain ⟨h1, h2, h3, h4, h5⟩ := h.at hy
  have e1 : ((T.map rsT).length : Int) = T.length := by rw [List.length_map]
  have e2 : (((T.getD y.p default).2.map rwA).length : Int) = (T.getD y.p default).2.length := by rw [List.length_map]
  have e3 : ((ints ((T.getD y.p default).2.getD y.m default).2).length : Int) = ((T.getD y.p default).2.getD y.m default).2.length := by rw [ints_len]
  refine Comp.body (T := tab) (res := [.tmp 4]) tab_ok [] Tryz.func101 rfl (by kernel_rfl) Tryz.ntmps101 rfl (by simp only [List.length_cons, List.length_nil]; decide) (by simp only [lowL, AV.low, staL, lowRs]; rfl) ?_; conv => whnf
  repeat' first | (((with_reducible refine XIx.nat ?_ ?_ ?_); omega; (intro _; rfl)); conv => whnf) | (with_reducible apply XAnd.mk) | ((first | (with_reducible apply Chk.go) | (with_reducible apply ChkA.go) | (with_reducible apply ChkF.go) | (with_reducible apply ChkB.go)); conv => whnf) | (exact XSame.mk rfl rfl) | (with_reducible exact trivial) | (apply Walk.drawN (id := 1) tab_ok mixed_ok [] [] (hsU _) [_, _, _, _, _, _, _, _, _, _, _, _, _, _] (by kernel_rfl) rfl) | ((with_reducible apply XNext.mk); conv => whnf) | fail
  exact XOut.int rfl
def mnK (f : Sta → Int) (l : List Sta) : Int := if l.isEmpty = true then -1 else minL f l
theorem mnK_next (f : Sta → Int) (l : List Sta) (y : Sta) : mnK f (l ++ [y]) = if l.isEmpty = true ∨ f y < mnK f l then f y else mnK f l := by
  cases l with
  | nil => rw [if_pos (.inl rfl)]; rfl
  | cons x l =>
    have h1 : mnK f (x :: l) = minL f (x :: l) := if_neg (by simp)
    have h2 : mnK f (x :: l ++ [y]) = min (minL f (x :: l)) (f y) := by
      rw [mnK, if_neg (by simp)]
      show (l ++ [y]).foldl (fun n y => min n (f y)) (f x) = _
      rw [List.foldl_append]; rfl
    rw [h1, h2]
    by_cases h : f y < minL f (x :: l)
    · rw [if_pos (.inr h)]; omega
    · rw [if_neg (by simp [h])]; omega
theorem rGives_c (s : Sn) (hb : SnB s) (ok : SnOk s) (nt : Bool) (T : List Rs) (hT : TbOk s T) (x : Sta) (hx : StOk s x) (hxl : x.l ≤ allN s) (t : Int × Int) (y0 : Sta) (l0 : List Sta) (ha : afterS s x t = y0 :: l0) :
    Comp Tryz.prog 41 [rsA s, .sl nt (T.map rsT), staA x, sgA t] (.int .i64 (gainZ s (tbN T) x t)) := by
  have hra := rAfter_c s hb ok x hx hxl t
  have hvy := fun y (hy : y ∈ afterS s x t) => afterS_vld ok hy
  have hal := afterS_len s x t
  rw [gain_eq]
  rw [ha] at hra hvy hal ⊢
  have hne : y0 :: l0 ≠ [] := List.cons_ne_nil _ _
  have hpos : 0 < (y0 :: l0).length := by simp
  generalize hl : y0 :: l0 = l at hra hvy hal hne hpos
  have hie : l.isEmpty = false := by rw [← hl]; rfl
  have hmm := minL_mem (f := tbN T) hne
  have hra' : Comp Tryz.prog 17 [rsA s, staA x, sgA t] (.sl false (l.map staA)) := by rw [← hl] at hra ⊢; exact hra
  have e1 : ((l.map staA).length : Int) = l.length := by rw [List.length_map]
  refine Comp.body (T := tab) (res := [.tmp 8]) tab_ok [] Tryz.func41 rfl (by kernel_rfl) Tryz.ntmps41 rfl (by simp only [List.length_cons, List.length_nil]; decide) (by simp only [lowL, AV.low, rsL, staL, sgL, lowRs]; rfl) ?_; conv => whnf
  repeat' first | ((refine XCall.ret hra' ?_); conv => whnf) | fail
  refine Walk.loopK tab_ok [] [(1, _), (4, _), (6, _), (7, _), (9, _)] ⟨rfl, rfl, rfl, rfl, rfl, trivial⟩ (fun i : Nat => i ≤ l.length ∧ ∀ j, j < i → 0 ≤ tbN T (l.getD j default)) (fun i => [(10, .int .i64 (mnK (tbN T) (l.take i))), (11, natA i)]) (fun _ => []) (fun i => l.length - i) 0 ⟨Nat.zero_le _, fun j hj => by omega⟩ rfl ⟨rfl, rfl, trivial⟩ ?_
  rintro i ⟨hi, hI⟩
  have hnx : i < l.length → mnK (tbN T) (l.take (i + 1)) = if i = 0 ∨ tbN T (l.getD i default) < mnK (tbN T) (l.take i) then tbN T (l.getD i default) else mnK (tbN T) (l.take i) := fun h => by
    rw [take_next h, mnK_next]
    have : (l.take i).isEmpty = true ↔ i = 0 := by
      rw [List.isEmpty_iff, List.take_eq_nil_iff]
      exact ⟨fun h => h.elim id (fun h => absurd h hne), .inl⟩
    simp only [this]
  have hend : i = l.length → mnK (tbN T) (l.take i) = minL (tbN T) l := fun h => by rw [h, List.take_length, mnK, if_neg (by rw [hie]; simp)]
  generalize mnK (tbN T) (l.take i) = v at hnx hend
  conv => whnf
  by_cases hlt : i < l.length
  · have hnum := rNumber_c s nt T hT _ (hvy _ (getD_mem (d := default) hlt))
    have hrg := (hT.at (hvy _ (getD_mem (d := default) hlt))).2.2.2
    have hnx := hnx hlt
    by_cases hneg : tbN T (l.getD i default) < 0
    · have hgl : gainL s (tbN T) x t l = -1 := by
        have h1 := hmm.2 _ (getD_mem (d := default) hlt)
        obtain ⟨y, hy, e⟩ := hmm.1
        have h2 := (hT.at (hvy _ hy)).2.2.2.1
        have h3 : minL (tbN T) l = -1 := by omega
        unfold gainL; rw [h3]; exact if_neg (fun h => h.1 rfl)
      rw [hgl]
      repeat' first | ((with_reducible apply XBr.dec) <;> (intro h; first | (exfalso; omega) | ((try simp only [List.length_map] at h); first | (exfalso; omega) | (conv => whnf)))) | ((first | ((with_reducible refine XIx.nat ?_ ?_ ?_); omega; (intro _; rfl)) | (refine XCall.ret hnum ?_)); conv => whnf) | fail
      exact XOut.int rfl
    · have hI' : ∀ j, j < i + 1 → 0 ≤ tbN T (l.getD j default) := fun j hj => by
        by_cases e : j = i
        · subst e; omega
        · exact hI j (by omega)
      by_cases hc : i = 0 ∨ tbN T (l.getD i default) < v
      · rw [if_pos hc] at hnx
        repeat' first | ((first | (with_reducible apply XBr.tt) | (with_reducible apply XBr.ff)); conv => whnf) | ((with_reducible apply XBr.dec) <;> (intro h; first | (exfalso; omega) | ((try simp only [List.length_map] at h); first | (exfalso; omega) | (conv => whnf)))) | ((with_reducible apply XBr.beq) <;> (intro h; first | (exfalso; omega) | (conv => whnf))) | ((first | (with_reducible refine XInt.i64 (by omega) (by omega) ?_) | ((with_reducible refine XIx.nat ?_ ?_ ?_); omega; (intro _; rfl)) | (refine XCall.ret hnum ?_)); conv => whnf) | fail
        all_goals first
          | exact XAgain.go (i + 1) ⟨by omega, hI'⟩ (by omega) rfl ⟨rfl, rfl, rfl, rfl, rfl, (by rw [hnx]; rfl), rfl, trivial⟩
          | (exfalso; omega)
      · rw [if_neg hc] at hnx
        repeat' first | ((with_reducible apply XBr.ff); conv => whnf) | ((with_reducible apply XBr.dec) <;> (intro h; first | (exfalso; omega) | ((try simp only [List.length_map] at h); first | (exfalso; omega) | (conv => whnf)))) | ((with_reducible apply XBr.beq) <;> (intro h; first | (exfalso; omega) | (conv => whnf))) | ((first | (with_reducible refine XInt.i64 (by omega) (by omega) ?_) | ((with_reducible refine XIx.nat ?_ ?_ ?_); omega; (intro _; rfl)) | (refine XCall.ret hnum ?_)); conv => whnf) | fail
        all_goals first
          | exact XAgain.go (i + 1) ⟨by omega, hI'⟩ (by omega) rfl ⟨rfl, rfl, rfl, rfl, rfl, (by rw [hnx]; rfl), rfl, trivial⟩
          | (exfalso; omega)
  obtain rfl : i = l.length := by omega
  have hv := hend rfl
  have hv0 : 0 ≤ v := by
    obtain ⟨y, hy, e⟩ := hmm.1
    obtain ⟨j, hj, rfl⟩ := List.mem_iff_getElem.1 hy
    have := hI j hj
    rw [List.getD_eq_getElem?_getD, List.getElem?_eq_getElem hj] at this
    rw [hv, e]; exact this
  have hv1 : v ≤ 60 := by
    obtain ⟨y, hy, e⟩ := hmm.1
    have h2 := (hT.at (hvy _ hy)).2.2.2.2
    omega
  have hgl : gainL s (tbN T) x t l = if (x.p : Int) = s.bed ∧ t.1 = s.bed then v + 1 else v := by
    unfold gainL; rw [← hv]
    by_cases c : (x.p : Int) = s.bed ∧ t.1 = s.bed
    · rw [if_pos c]; exact if_pos ⟨by omega, c⟩
    · rw [if_neg c]; exact if_neg (fun h => c h.2)
  rw [hgl]
  clear hgl hmm hend hnx hI hv
  by_cases c2 : (x.p : Int) = s.bed
  · by_cases c3 : t.1 = s.bed
    · rw [if_pos ⟨c2, c3⟩]
      repeat' first | ((with_reducible apply XBr.tt); conv => whnf) | ((with_reducible apply XBr.dec) <;> (intro h; first | (exfalso; omega) | ((try simp only [List.length_map] at h); first | (exfalso; omega) | (conv => whnf)))) | ((with_reducible apply XBr.beq) <;> (intro h; first | (exfalso; omega) | (conv => whnf))) | ((with_reducible refine XInt.i64 (by omega) (by omega) ?_); conv => whnf) | fail
      exact XOut.int rfl
    · rw [if_neg (fun h => c3 h.2)]
      repeat' first | ((with_reducible apply XBr.tt); conv => whnf) | ((with_reducible apply XBr.dec) <;> (intro h; first | (exfalso; omega) | ((try simp only [List.length_map] at h); first | (exfalso; omega) | (conv => whnf)))) | ((with_reducible apply XBr.beq) <;> (intro h; first | (exfalso; omega) | (conv => whnf))) | fail
      exact XOut.int rfl
  · rw [if_neg (fun h => c2 h.1)]
    repeat' first | ((first | (with_reducible apply XBr.tt) | (with_reducible apply XBr.ff)); conv => whnf) | ((with_reducible apply XBr.dec) <;> (intro h; first | (exfalso; omega) | ((try simp only [List.length_map] at h); first | (exfalso; omega) | (conv => whnf)))) | ((with_reducible apply XBr.beq) <;> (intro h; first | (exfalso; omega) | (conv => whnf))) | fail
    exact XOut.int rfl
theorem rBound_c (s : Sn) (hb : SnB s) (ok : SnOk s) (nt : Bool) (T : List Rs) (hT : TbOk s T) (x : Sta) (hx : StOk s x) (hxl : x.l ≤ allN s) :
    Comp Tryz.prog 91 [rsA s, .sl nt (T.map rsT), staA x] (.int .i64 (bestZ s (tbN T) x)) := by
  have p1 := ok.p1; have p2 := ok.p2
  have hsf := rSafe_c s hb ok x hx.p hxl
  have hst := rSteps_c s hb ok x hx hxl
  have hho : homeZ s x = if (x.p : Int) = s.home then 0 else -1 := rfl
  cases h1 : safeB s x with
  | false =>
    rw [h1] at hsf
    rw [show bestZ s (tbN T) x = -1 by unfold bestZ; rw [if_neg (by rw [h1]; simp)]]
    refine Comp.body (T := tab) (res := [.tmp 6]) tab_ok [] Tryz.func91 rfl (by kernel_rfl) Tryz.ntmps91 rfl (by simp only [List.length_cons, List.length_nil]; decide) (by simp only [lowL, AV.low, rsL, staL, lowRs]; rfl) ?_; conv => whnf
    repeat' first | ((with_reducible apply XBr.ff); conv => whnf) | (with_reducible apply XBr.not) | ((refine XCall.ret hsf ?_); conv => whnf) | fail
    exact XOut.int rfl
  | true =>
    rw [h1] at hsf
    rw [show bestZ s (tbN T) x = (stepsS s x).foldl (fun n t => max n (gainZ s (tbN T) x t)) (homeZ s x) by unfold bestZ; rw [if_pos h1]]
    have hmem := fun t (h : t ∈ stepsS s x) => h
    have hsl : (stepsS s x).length ≤ 55 := by
      have hwl : (waysL s x.p).length ≤ 55 := by
        have h := waysK_len s x.p s.places.toNat
        have w1 := ok.w1
        have h2 : s.places.toNat * (1 + s.ways.length) ≤ 5 * 11 := Nat.mul_le_mul (by omega) (by omega)
        show (waysK s x.p s.places.toNat).length ≤ 55
        omega
      exact Nat.le_trans (List.length_filter_le _ _) hwl
    have hg : ∀ t ∈ stepsS s x, Comp Tryz.prog 41 [rsA s, .sl nt (T.map rsT), staA x, sgA t] (.int .i64 (gainZ s (tbN T) x t)) := fun t ht => by
      have hne : (!(afterS s x t).isEmpty) = true := (List.mem_filter.1 ht).2
      cases ha : afterS s x t with
      | nil => rw [ha] at hne; cases hne
      | cons y0 l0 => exact rGives_c s hb ok nt T hT x hx hxl t y0 l0 ha
    generalize stepsS s x = W at hst hmem hsl hg
    have e1 : ((W.map sgA).length : Int) = W.length := by rw [List.length_map]
    by_cases hph : (x.p : Int) = s.home
    · rw [hho, if_pos hph]
      refine Comp.body (T := tab) (res := [.tmp 6]) tab_ok [] Tryz.func91 rfl (by kernel_rfl) Tryz.ntmps91 rfl (by simp only [List.length_cons, List.length_nil]; decide) (by simp only [lowL, AV.low, rsL, staL, lowRs]; rfl) ?_; conv => whnf
      repeat' first | ((with_reducible apply XBr.tt); conv => whnf) | (with_reducible apply XBr.not) | ((with_reducible apply XBr.beq) <;> (intro h; first | (exfalso; omega) | (conv => whnf))) | ((first | (refine XCall.ret hsf ?_) | (refine XCall.ret hst ?_)); conv => whnf) | fail
      refine Walk.loopK tab_ok [] [(1, _), (3, _), (5, _), (8, _)] ⟨rfl, rfl, rfl, rfl, trivial⟩ (fun i : Nat => i ≤ W.length) (fun i => [(7, .int .i64 ((W.take i).foldl (fun n t => max n (gainZ s (tbN T) x t)) 0)), (9, natA i)]) (fun _ => []) (fun i => W.length - i) 0 (Nat.zero_le _) rfl ⟨rfl, rfl, trivial⟩ ?_
      intro i hi
      have hnx : i < W.length → (W.take (i + 1)).foldl (fun n t => max n (gainZ s (tbN T) x t)) 0 = max ((W.take i).foldl (fun n t => max n (gainZ s (tbN T) x t)) 0) (gainZ s (tbN T) x (W.getD i default)) := fun h => by rw [take_next h, List.foldl_append]; rfl
      have hend : i = W.length → (W.take i).foldl (fun n t => max n (gainZ s (tbN T) x t)) 0 = W.foldl (fun n t => max n (gainZ s (tbN T) x t)) 0 := fun h => by rw [h, List.take_length]
      generalize (W.take i).foldl (fun n t => max n (gainZ s (tbN T) x t)) 0 = v at hnx hend
      conv => whnf
      by_cases hlt : i < W.length
      · have hgi := hg _ (getD_mem (d := default) hlt)
        repeat' first | ((with_reducible apply XBr.dec) <;> (intro h; first | (exfalso; omega) | ((try simp only [List.length_map] at h); first | (exfalso; omega) | (conv => whnf)))) | ((first | (with_reducible refine XInt.i64 (by omega) (by omega) ?_) | ((with_reducible refine XIx.nat ?_ ?_ ?_); omega; (intro _; rfl))); conv => whnf) | (with_reducible apply XAnd.mk) | ((first | (with_reducible apply Chk.go) | (with_reducible apply ChkA.go) | (with_reducible apply ChkF.go) | (with_reducible apply ChkB.go)); conv => whnf) | (exact XSame.mk rfl rfl) | (with_reducible exact trivial) | (apply Walk.drawN (id := 10) tab_ok mixed_ok [] [] (hsU _) [_, _, _, _, _, _, _, _, _, _, _] (by kernel_rfl) rfl) | ((first | (with_reducible apply XNext.mk) | (refine XCall.ret hgi ?_)); conv => whnf) | fail
        exact XAgain.go (i + 1) (by omega) (by omega) rfl ⟨rfl, rfl, rfl, rfl, (by rw [hnx hlt]; rfl), rfl, trivial⟩
      obtain rfl : i = W.length := by omega
      rw [← hend rfl]
      repeat' first | ((with_reducible apply XBr.dec) <;> (intro h; first | (exfalso; omega) | ((try simp only [List.length_map] at h); first | (exfalso; omega) | (conv => whnf)))) | fail
      exact XOut.int rfl
    · rw [hho, if_neg hph]
      refine Comp.body (T := tab) (res := [.tmp 6]) tab_ok [] Tryz.func91 rfl (by kernel_rfl) Tryz.ntmps91 rfl (by simp only [List.length_cons, List.length_nil]; decide) (by simp only [lowL, AV.low, rsL, staL, lowRs]; rfl) ?_; conv => whnf
      repeat' first | ((with_reducible apply XBr.tt); conv => whnf) | (with_reducible apply XBr.not) | ((with_reducible apply XBr.beq) <;> (intro h; first | (exfalso; omega) | (conv => whnf))) | ((first | (refine XCall.ret hsf ?_) | (refine XCall.ret hst ?_)); conv => whnf) | fail
      refine Walk.loopK tab_ok [] [(1, _), (3, _), (5, _), (8, _)] ⟨rfl, rfl, rfl, rfl, trivial⟩ (fun i : Nat => i ≤ W.length) (fun i => [(7, .int .i64 ((W.take i).foldl (fun n t => max n (gainZ s (tbN T) x t)) (-1))), (9, natA i)]) (fun _ => []) (fun i => W.length - i) 0 (Nat.zero_le _) rfl ⟨rfl, rfl, trivial⟩ ?_
      intro i hi
      have hnx : i < W.length → (W.take (i + 1)).foldl (fun n t => max n (gainZ s (tbN T) x t)) (-1) = max ((W.take i).foldl (fun n t => max n (gainZ s (tbN T) x t)) (-1)) (gainZ s (tbN T) x (W.getD i default)) := fun h => by rw [take_next h, List.foldl_append]; rfl
      have hend : i = W.length → (W.take i).foldl (fun n t => max n (gainZ s (tbN T) x t)) (-1) = W.foldl (fun n t => max n (gainZ s (tbN T) x t)) (-1) := fun h => by rw [h, List.take_length]
      generalize (W.take i).foldl (fun n t => max n (gainZ s (tbN T) x t)) (-1) = v at hnx hend
      conv => whnf
      by_cases hlt : i < W.length
      · have hgi := hg _ (getD_mem (d := default) hlt)
        repeat' first | ((with_reducible apply XBr.dec) <;> (intro h; first | (exfalso; omega) | ((try simp only [List.length_map] at h); first | (exfalso; omega) | (conv => whnf)))) | ((first | (with_reducible refine XInt.i64 (by omega) (by omega) ?_) | ((with_reducible refine XIx.nat ?_ ?_ ?_); omega; (intro _; rfl))); conv => whnf) | (with_reducible apply XAnd.mk) | ((first | (with_reducible apply Chk.go) | (with_reducible apply ChkA.go) | (with_reducible apply ChkF.go) | (with_reducible apply ChkB.go)); conv => whnf) | (exact XSame.mk rfl rfl) | (with_reducible exact trivial) | (apply Walk.drawN (id := 10) tab_ok mixed_ok [] [] (hsU _) [_, _, _, _, _, _, _, _, _, _, _] (by kernel_rfl) rfl) | ((first | (with_reducible apply XNext.mk) | (refine XCall.ret hgi ?_)); conv => whnf) | fail
        exact XAgain.go (i + 1) (by omega) (by omega) rfl ⟨rfl, rfl, rfl, rfl, (by rw [hnx hlt]; rfl), rfl, trivial⟩
      obtain rfl : i = W.length := by omega
      rw [← hend rfl]
      repeat' first | ((with_reducible apply XBr.dec) <;> (intro h; first | (exfalso; omega) | ((try simp only [List.length_map] at h); first | (exfalso; omega) | (conv => whnf)))) | fail
      exact XOut.int rfl
end GA
end

section
namespace GA
open Go Go.RowKit Go.Proofs
set_option pp.deepTerms true
set_option maxRecDepth 8000
set_option linter.unusedVariables false
set_option linter.unusedSimpArgs false

structure UpTo (s : Sn) (r : Sta → Prop) (p m l : Nat) (b : Bool) : Prop where
  iff : b = true ↔ ∀ y, vld s y → y.p < p ∨ (y.p = p ∧ (y.m < m ∨ (y.m = m ∧ y.l < l))) → r y
theorem UpTo.zero (s : Sn) (r : Sta → Prop) : UpTo s r 0 0 0 true := ⟨⟨fun _ y _ h => by omega, fun _ => rfl⟩⟩
theorem UpTo.next {s : Sn} {r : Sta → Prop} {p m l : Nat} {b : Bool} (h : UpTo s r p m l b) (hv : vld s ⟨p, m, l⟩) (b' : Bool) (hb : b' = true ↔ r ⟨p, m, l⟩) : UpTo s r p m (l + 1) (b && b') := by
  refine ⟨?_⟩
  rw [Bool.and_eq_true, h.iff, hb]
  refine ⟨fun ⟨h1, h2⟩ y hy hlt => ?_, fun h' => ⟨fun y hy hlt => h' y hy (by omega), h' _ hv (.inr ⟨rfl, .inr ⟨rfl, by show l < l + 1; omega⟩⟩)⟩⟩
  by_cases e : y = ⟨p, m, l⟩
  · subst e; exact h2
  · refine h1 y hy ?_
    have : ¬ (y.p = p ∧ y.m = m ∧ y.l = l) := fun ⟨a, b, c⟩ => e (by cases y; simp_all)
    omega
theorem UpTo.row {s : Sn} {r : Sta → Prop} {p m : Nat} {b : Bool} (h : UpTo s r p m (allN s + 1) b) : UpTo s r p (m + 1) 0 b := by
  refine ⟨h.iff.trans ⟨fun h' y hy hlt => h' y hy ?_, fun h' y hy hlt => h' y hy ?_⟩⟩
  · have := hy.2.2; omega
  · have := hy.2.2; omega
theorem UpTo.place {s : Sn} {r : Sta → Prop} {p m : Nat} {b : Bool} (hm : (m : Int) = s.last + 1) (h : UpTo s r p m 0 b) : UpTo s r (p + 1) 0 0 b := by
  refine ⟨h.iff.trans ⟨fun h' y hy hlt => h' y hy ?_, fun h' y hy hlt => h' y hy ?_⟩⟩
  · have := hy.2.1; omega
  · have := hy.2.1; omega
theorem UpTo.all {s : Sn} {r : Sta → Prop} {p : Nat} {b : Bool} (hp : (p : Int) = s.places) (h : UpTo s r p 0 0 b) : b = true ↔ ∀ y, vld s y → r y := by
  refine h.iff.trans ⟨fun h' y hy => h' y hy (.inl ?_), fun h' y hy _ => h' y hy⟩
  have := hy.1; omega
end GA
end

section
namespace GA
open Go Go.RowKit Go.Proofs
set_option pp.deepTerms true
set_option maxRecDepth 8000
set_option linter.unusedVariables false
set_option linter.unusedSimpArgs false

theorem SnEq.vld {s u : Sn} (e : SnEq s u) (y : Sta) : GA.vld s y ↔ GA.vld u y := by unfold GA.vld; rw [e.places, e.last, e.allN]
end GA
end

section
namespace GA
open Go Go.RowKit Go.Proofs
set_option maxRecDepth 8000
set_option linter.unusedVariables false
set_option linter.unusedSimpArgs false

def mkT (P M N : Nat) (W : T3 Int) : List Rs := vecF P fun p => (false, vecF M fun m => (false, vecF N fun l => W p m l))
theorem mkT_congr {P M N : Nat} {W V : T3 Int} (h : ∀ p m l, p < P → m < M → l < N → W p m l = V p m l) : mkT P M N W = mkT P M N V :=
  vecF_congr fun p hp => congrArg _ (vecF_congr fun m hm => congrArg _ (vecF_congr fun l hl => h p m l hp hm hl))
theorem mkT_len (P M N : Nat) (W : T3 Int) : (mkT P M N W).length = P := vecF_len _ _
theorem mkT_p {P M N : Nat} {W : T3 Int} {p : Nat} (h : p < P) : (mkT P M N W).getD p default = (false, vecF M fun m => (false, vecF N fun l => W p m l)) := vecF_get _ h
theorem mkT_m {P M N : Nat} {W : T3 Int} {p m : Nat} (h : p < P) (h2 : m < M) : ((mkT P M N W).getD p default).2.getD m default = (false, vecF N fun l => W p m l) := by rw [mkT_p h]; exact vecF_get _ h2
theorem mkT_at {P M N : Nat} {W : T3 Int} {y : Sta} (h : y.p < P) (h2 : y.m < M) (h3 : y.l < N) : tbN (mkT P M N W) y = W y.p y.m y.l := by
  unfold tbN; rw [mkT_m h h2]; exact vecF_get _ h3
theorem mkT_ok {s : Sn} {P M N : Nat} {W : T3 Int} (hP : (P : Int) = s.places) (hM : (M : Int) = s.last + 1) (hN : N = allN s + 1) (hW : ∀ p m l, p < P → m < M → l < N → -1 ≤ W p m l ∧ W p m l ≤ 60) : TbOk s (mkT P M N W) := by
  have hl := mkT_len P M N W
  have hb : ∀ p, p < P → ((mkT P M N W).getD p default).2.length = M := fun p hp => by rw [mkT_p hp]; exact vecF_len _ _
  have hc : ∀ p m, p < P → m < M → (((mkT P M N W).getD p default).2.getD m default).2.length = N := fun p m hp hm => by rw [mkT_m hp hm]; exact vecF_len _ _
  refine ⟨by rw [hl]; exact hP, fun p hp => ?_, fun p m hp hm => ?_, fun p m l hp hm hl' => ?_⟩
  · rw [hb p (by omega)]; exact hM
  · rw [hl] at hp
    rw [hb p hp] at hm
    rw [hc p m hp hm]; exact hN
  · rw [hl] at hp
    rw [hb p hp] at hm
    rw [hc p m hp hm] at hl'
    have e : tbN (mkT P M N W) ⟨p, m, l⟩ = W p m l := mkT_at (y := ⟨p, m, l⟩) hp hm hl'
    rw [e]; exact hW p m l hp hm hl'
def rowI (M p : Nat) : Nat := 1 + p * (M + 1)
def celI (M p m : Nat) : Nat := rowI M p + 1 + m
theorem rowI_q {M p : Nat} : (rowI M p - 1) / (M + 1) = p ∧ (rowI M p - 1) % (M + 1) = 0 := by
  unfold rowI
  rw [Nat.add_sub_cancel_left]
  exact ⟨Nat.mul_div_cancel _ (by omega), Nat.mul_mod_left _ _⟩
theorem celI_q {M p m : Nat} (h : m < M) : (celI M p m - 1) / (M + 1) = p ∧ (celI M p m - 1) % (M + 1) = m + 1 := by
  unfold celI rowI
  rw [show 1 + p * (M + 1) + 1 + m - 1 = (m + 1) + p * (M + 1) by omega]
  exact ⟨by rw [Nat.add_mul_div_right _ _ (by omega), Nat.div_eq_of_lt (by omega)]; omega, by rw [Nat.add_mul_mod_self_right, Nat.mod_eq_of_lt (by omega)]⟩
theorem rowI_succ (M p : Nat) : rowI M (p + 1) = rowI M p + 1 + M := by unfold rowI; rw [Nat.add_mul, Nat.one_mul]; omega
theorem rowI_mono {M p q : Nat} (h : p ≤ q) : rowI M p ≤ rowI M q := by
  unfold rowI
  have := Nat.mul_le_mul_right (M + 1) h
  omega
def memB (M N P0 m0 : Nat) (W : T3 Int) (j : Nat) : Blk :=
  if j = 0 then .grow 23 (decide (P0 = 0)) (vecF P0 fun p => .gr (rowI M p) M)
  else if (j - 1) % (M + 1) = 0 then
    .grow 68 (decide ((j - 1) / (M + 1) = P0 ∧ m0 = 0)) (vecF (if (j - 1) / (M + 1) = P0 then m0 else M) fun m => .gr (celI M ((j - 1) / (M + 1)) m) N)
  else .grow 3 false (zvs N fun l => W ((j - 1) / (M + 1)) ((j - 1) % (M + 1) - 1) l)
theorem memB_t {M N P0 m0 : Nat} {W : T3 Int} : memB M N P0 m0 W 0 = .grow 23 (decide (P0 = 0)) (vecF P0 fun p => .gr (rowI M p) M) := if_pos rfl
theorem memB_r {M N P0 m0 : Nat} {W : T3 Int} (p : Nat) : memB M N P0 m0 W (rowI M p) = .grow 68 (decide (p = P0 ∧ m0 = 0)) (vecF (if p = P0 then m0 else M) fun m => .gr (celI M p m) N) := by
  obtain ⟨h1, h2⟩ := rowI_q (M := M) (p := p)
  unfold memB
  rw [if_neg (by unfold rowI; omega), if_pos h2, h1]
theorem memB_c {M N P0 m0 : Nat} {W : T3 Int} {p m : Nat} (h : m < M) : memB M N P0 m0 W (celI M p m) = .grow 3 false (zvs N fun l => W p m l) := by
  obtain ⟨h1, h2⟩ := celI_q (p := p) h
  unfold memB
  rw [if_neg (by unfold celI; omega), if_neg (by rw [h2]; omega), h1, h2]; rfl
def memW (M N P : Nat) (W : T3 Int) : List Blk := vecF (rowI M P) (memB M N P 0 W)
theorem memW_len (M N P : Nat) (W : T3 Int) : (memW M N P W).length = rowI M P := vecF_len _ _
theorem rowI_lt {M P p : Nat} (h : p < P) : rowI M p < rowI M P := by
  have := rowI_mono (M := M) (show p + 1 ≤ P by omega)
  rw [rowI_succ] at this; omega
theorem celI_lt {M P p m : Nat} (h : p < P) (hm : m < M) : celI M p m < rowI M P := by
  have := rowI_mono (M := M) (show p + 1 ≤ P by omega)
  rw [rowI_succ] at this; unfold celI; omega
theorem memW_t {M N P : Nat} {W : T3 Int} (hP : 0 < P) : lget (memW M N P W) 0 = some (.grow 23 false (vecF P fun p => .gr (rowI M p) M)) := by
  unfold memW
  rw [lget_vec (by unfold rowI; omega), memB_t, decide_eq_false (by omega)]
theorem memW_r {M N P : Nat} {W : T3 Int} {p : Nat} (h : p < P) : lget (memW M N P W) (rowI M p) = some (.grow 68 false (vecF M fun m => .gr (celI M p m) N)) := by
  unfold memW
  rw [lget_vec (rowI_lt h), memB_r, decide_eq_false (by omega), if_neg (by omega)]
theorem memW_c {M N P : Nat} {W : T3 Int} {p m : Nat} (h : p < P) (hm : m < M) : lget (memW M N P W) (celI M p m) = some (.grow 3 false (zvs N fun l => W p m l)) := by
  unfold memW
  rw [lget_vec (celI_lt h hm), memB_c hm]
theorem memW_set {M N P : Nat} {W : T3 Int} {p m l : Nat} {v : Int} (h : p < P) (hm : m < M) : (memW M N P W).set (celI M p m) (.grow 3 false (zvs N (updV (fun l => W p m l) l v))) = memW M N P (upd3 W p m l v) := by
  unfold memW
  rw [vecF_set]
  refine vecF_congr fun j hj => ?_
  unfold updV
  by_cases e : j = celI M p m
  · rw [if_pos e, e, memB_c hm]
    congr 2
    funext l'
    unfold upd3
    by_cases e2 : l' = l
    · rw [if_pos e2, if_pos ⟨rfl, rfl, e2⟩]
    · rw [if_neg e2, if_neg (fun h => e2 h.2.2)]
  · rw [if_neg e]
    unfold memB
    by_cases e0 : j = 0
    · rw [if_pos e0, if_pos e0]
    rw [if_neg e0, if_neg e0]
    by_cases e1 : (j - 1) % (M + 1) = 0
    · rw [if_pos e1, if_pos e1]
    rw [if_neg e1, if_neg e1]
    congr 2
    funext l'
    unfold upd3
    rw [if_neg]
    rintro ⟨h1, h2, -⟩
    refine e ?_
    have := Nat.div_add_mod (j - 1) (M + 1)
    rw [h1] at this
    unfold celI rowI
    rw [Nat.mul_comm] at this
    omega
theorem memW_froz {M N P : Nat} (W : T3 Int) (hP : 0 < P) : Froz Tryz.prog (memW M N P W) (.gr 0 P) (.sl false ((mkT P M N W).map rsT)) := by
  unfold mkT
  rw [vecF_map]
  refine froz_vec (memW_t hP) (by kernel_rfl) (fun _ _ => rfl) (fun _ _ => rfl) fun p hp => ?_
  show Froz _ _ _ (.sl false ((vecF M fun m => (false, vecF N fun l => W p m l)).map rwA))
  rw [vecF_map]
  refine froz_vec (memW_r hp) (by kernel_rfl) (fun _ _ => rfl) (fun _ _ => rfl) fun m hm => ?_
  exact Froz.grow (memW_c hp hm) (zvs_len _ _) (zvs_low _ _)
def bldW (M N p m : Nat) (W : T3 Int) : List Blk := vecF (rowI M p + 1 + m) (memB M N p m W)
theorem bld_init (M N : Nat) (W : T3 Int) : vecF (rowI M 0) (memB M N 0 0 W) = [.grow 23 true []] := by
  have e : rowI M 0 = 0 + 1 := by unfold rowI; omega
  rw [e, vecF_succ, memB_t, decide_eq_true rfl, vecF_eq, vecF_eq]; rfl
theorem bld_row (M N p : Nat) (W : T3 Int) : vecF (rowI M p) (memB M N p 0 W) ++ [Blk.grow 68 true []] = bldW M N p 0 W := by
  refine vecF_push (fun _ _ => rfl) ?_
  rw [memB_r, decide_eq_true ⟨rfl, rfl⟩, if_pos rfl, vecF_eq]; rfl
theorem bld_len (M N p m : Nat) (W : T3 Int) : (bldW M N p m W).length = celI M p m := vecF_len _ _
theorem bld_r (M N p m : Nat) (W : T3 Int) : lget (bldW M N p m W) (rowI M p) = some (.grow 68 (decide (p = p ∧ m = 0)) (vecF m fun m => .gr (celI M p m) N)) := by
  unfold bldW
  rw [lget_vec (by omega), memB_r, if_pos rfl]
theorem bld_t (M N p m : Nat) (W : T3 Int) : lget (bldW M N p m W) 0 = some (.grow 23 (decide (p = 0)) (vecF p fun p => .gr (rowI M p) M)) := by
  unfold bldW
  rw [lget_vec (by unfold rowI; omega), memB_t]
theorem rowI_of {M j p : Nat} (h0 : j ≠ 0) (h : (j - 1) % (M + 1) = 0) (hp : (j - 1) / (M + 1) = p) : j = rowI M p := by
  have := Nat.div_add_mod (j - 1) (M + 1)
  rw [hp, h, Nat.mul_comm] at this
  unfold rowI; omega
theorem bld_app {M N p m : Nat} {W : T3 Int} (hm : m < M) : (bldW M N p m W ++ [Blk.grow 3 false (zvs N fun l => W p m l)]).set (rowI M p) (Blk.grow 68 false (vecF m (fun m => AV.gr (celI M p m) N) ++ [AV.gr (celI M p m) N])) = bldW M N p (m + 1) W := by
  have h1 : bldW M N p m W ++ [Blk.grow 3 false (zvs N fun l => W p m l)] = vecF (rowI M p + 1 + (m + 1)) (memB M N p m W) := by
    unfold bldW
    exact vecF_push (fun _ _ => rfl) (memB_c hm)
  rw [h1, vecF_set]
  unfold bldW
  refine vecF_congr fun j hj => ?_
  unfold updV
  by_cases e : j = rowI M p
  · rw [if_pos e, e, memB_r, if_pos rfl, decide_eq_false (by omega), vecF_succ]
  · rw [if_neg e]
    unfold memB
    by_cases e0 : j = 0
    · rw [if_pos e0, if_pos e0]
    rw [if_neg e0, if_neg e0]
    by_cases e1 : (j - 1) % (M + 1) = 0
    · have hq : (j - 1) / (M + 1) ≠ p := fun h => e (rowI_of e0 e1 h)
      rw [if_pos e1, if_pos e1, decide_eq_false (fun h => hq h.1), decide_eq_false (fun h => hq h.1), if_neg hq, if_neg hq]
    · rw [if_neg e1, if_neg e1]
theorem bld_next {M N p : Nat} {W : T3 Int} (hM : 0 < M) : (bldW M N p M W).set 0 (Blk.grow 23 false (vecF p (fun p => AV.gr (rowI M p) M) ++ [AV.gr (rowI M p) M])) = vecF (rowI M (p + 1)) (memB M N (p + 1) 0 W) := by
  unfold bldW
  rw [vecF_set, ← rowI_succ]
  refine vecF_congr fun j hj => ?_
  unfold updV
  by_cases e0 : j = 0
  · rw [if_pos e0, e0, memB_t, decide_eq_false (by omega), vecF_succ]
  · rw [if_neg e0]
    unfold memB
    rw [if_neg e0, if_neg e0]
    by_cases e1 : (j - 1) % (M + 1) = 0
    · have hq : (j - 1) / (M + 1) ≠ p + 1 := fun h => by have := rowI_of e0 e1 h; omega
      rw [if_pos e1, if_pos e1, decide_eq_false (by omega), decide_eq_false (fun h => hq h.1), if_neg hq]
      congr 2
      split <;> rfl
    · rw [if_neg e1, if_neg e1]
end GA
end

section
namespace GA
open Go Go.RowKit Go.Proofs
set_option pp.deepTerms true
set_option maxRecDepth 8000
set_option linter.unusedVariables false
set_option linter.unusedSimpArgs false

structure RInv (s : Sn) (M p l : Nat) (W : T3 Int) : Prop where
  a : ∀ y, vld s y → W y.p y.m y.l = -1 ∨ W y.p y.m y.l = worthZ s y
  b : ∀ y, vld s y → (M ≤ y.m ∨ (y.m + 1 = M ∧ (y.p < p ∨ (y.p = p ∧ y.l < l)))) → W y.p y.m y.l = worthZ s y
def RAll (s : Sn) (W : T3 Int) : Prop := ∀ y, vld s y → W y.p y.m y.l = worthZ s y
theorem RInv.set {s : Sn} {m p l : Nat} {W : T3 Int} (h : RInv s (m + 1) p l W) (hv : vld s ⟨p, m, l⟩) : RInv s (m + 1) p (l + 1) (upd3 W p m l (worthZ s ⟨p, m, l⟩)) := by
  refine ⟨fun y hy => ?_, fun y hy hd => ?_⟩
  · by_cases e : y.p = p ∧ y.m = m ∧ y.l = l
    · obtain ⟨rfl, rfl, rfl⟩ := e
      rw [upd3_at]; exact .inr rfl
    · rw [upd3_ne _ _ e]; exact h.a y hy
  · by_cases e : y.p = p ∧ y.m = m ∧ y.l = l
    · obtain ⟨rfl, rfl, rfl⟩ := e
      rw [upd3_at]
    · rw [upd3_ne _ _ e]; exact h.b y hy (by omega)
theorem RInv.same {s : Sn} {m p l : Nat} {W : T3 Int} (h : RInv s (m + 1) p l W) (hw : W p m l = worthZ s ⟨p, m, l⟩) : RInv s (m + 1) p (l + 1) W := by
  refine ⟨h.a, fun y hy hd => ?_⟩
  by_cases e : y.p = p ∧ y.m = m ∧ y.l = l
  · obtain ⟨rfl, rfl, rfl⟩ := e; exact hw
  · exact h.b y hy (by omega)
theorem RInv.row {s : Sn} {m p : Nat} {W : T3 Int} (h : RInv s (m + 1) p (allN s + 1) W) : RInv s (m + 1) (p + 1) 0 W :=
  ⟨h.a, fun y hy hd => h.b y hy (by have := hy.2.2; omega)⟩
theorem RInv.minute {s : Sn} {m p : Nat} {W : T3 Int} (hp : (p : Int) = s.places) (h : RInv s (m + 1) p 0 W) : RInv s m 0 0 W :=
  ⟨h.a, fun y hy hd => h.b y hy (by have := hy.1; omega)⟩
theorem RInv.fin {s : Sn} {W : T3 Int} (h : RInv s 0 0 0 W) : RAll s W := fun y hy => h.b y hy (.inl (Nat.zero_le _))
theorem RInv.again {s : Sn} {M : Nat} {W : T3 Int} (hM : (M : Int) = s.last + 1) (h : RInv s 0 0 0 W) : RInv s M 0 0 W := ⟨h.a, fun y hy _ => h.fin y hy⟩
theorem RInv.bound {s : Sn} (ok : SnOk s) {m p l : Nat} {W : T3 Int} (h : RInv s (m + 1) p l W) (hv : vld s ⟨p, m, l⟩) (f : Sta → Int) (hf : ∀ y, vld s y → f y = W y.p y.m y.l) : bestZ s f ⟨p, m, l⟩ = worthZ s ⟨p, m, l⟩ := by
  rw [worthZ_eq ok hv.2.1]
  refine bestZ_congr fun t _ y hy => ?_
  have hvy := afterS_vld ok hy
  have := (afterS_later ok hy).1
  rw [hf y hvy]
  exact h.b y hvy (.inl (by dsimp only at this; omega))
theorem worthT_ok {s : Sn} {P M N : Nat} {W : T3 Int} (hP : (P : Int) = s.places) (hM : (M : Int) = s.last + 1) (hN : N = allN s + 1) (hL : s.last ≤ 59) (h : ∀ y, vld s y → W y.p y.m y.l = -1 ∨ W y.p y.m y.l = worthZ s y) : TbOk s (mkT P M N W) := by
  refine mkT_ok hP hM hN fun p m l hp hm hl => ?_
  have hv : vld s ⟨p, m, l⟩ := ⟨by show (p : Int) < s.places; omega, by show (m : Int) ≤ s.last; omega, by show l ≤ allN s; omega⟩
  have h1 := worthZ_ge s ⟨p, m, l⟩
  have h2 := worthZ_le s ⟨p, m, l⟩ hv.2.1
  have h2' : worthZ s ⟨p, m, l⟩ ≤ s.last + 1 - m := h2
  rcases h _ hv with h | h <;> dsimp only at h <;> omega
def wrT (s : Sn) : List Rs := mkT s.places.toNat (s.last + 1).toNat (allN s + 1) fun p m l => worthZ s ⟨p, m, l⟩
theorem wrT_ok {s : Sn} (ok : SnOk s) (hL : s.last ≤ 59) : TbOk s (wrT s) := by
  have := ok.p1; have := ok.l1
  exact worthT_ok (by omega) (by omega) rfl hL fun y _ => .inr rfl
theorem wrT_at {s : Sn} (ok : SnOk s) {y : Sta} (hv : vld s y) : tbN (wrT s) y = worthZ s y := by
  have := hv.1; have := hv.2.1; have := hv.2.2
  exact mkT_at (by omega) (by omega) (by omega)
set_option maxHeartbeats 4000000 in
theorem rMade_c (s : Sn) (hb : SnB s) (ok : SnOk s) (hL59 : s.last ≤ 59) : Comp Tryz.prog 40 [rsA s] (.sl false ((wrT s).map rsT)) := by
  have p1 := ok.p1; have p2 := ok.p2; have l1 := ok.l1
  have hal := allN_lt ok
  have hac := rAll_c s (by have := ok.t2; omega)
  obtain ⟨P0, hP0⟩ : ∃ P0 : Nat, s.places = P0 := ⟨s.places.toNat, by omega⟩
  obtain ⟨L0, hL0⟩ : ∃ L0 : Nat, s.last = L0 := ⟨s.last.toNat, by omega⟩
  obtain ⟨N0, hN0⟩ : ∃ N0 : Nat, N0 = allN s + 1 := ⟨_, rfl⟩
  have hNt : (((allN s : Nat) : Int) + 1).toNat = N0 := by omega
  have hrep : List.replicate (((allN s : Nat) : Int) + 1).toNat (AV.int .i64 0) = zvs N0 fun k => if k < 0 then -1 else 0 := by
    rw [hNt, zvs0]; unfold zvs; rw [vecF_congr fun i _ => (if_neg (Nat.not_lt_zero i)).symm]
  refine Comp.body (T := tab) (res := [.tmp 2]) tab_ok [] Tryz.func40 rfl (by kernel_rfl) Tryz.ntmps40 rfl (by simp only [List.length_cons, List.length_nil]; decide) (by simp only [lowL, AV.low, rsL]; rfl) ?_; conv => whnf
  skip
  refine Walk.nilgr 3 23 rfl ?_
  refine Walk.loopK tab_ok [] [(1, _), (2, _)] ⟨rfl, rfl, trivial⟩ (fun p : Nat => p ≤ P0) (fun p => [(3, .gr 0 p), (4, natA p)]) (fun p => vecF (rowI (L0 + 1) p) (memB (L0 + 1) N0 p 0 fun _ _ _ => -1)) (fun p => P0 - p) 0 (Nat.zero_le _) (bld_init _ _ _) ⟨rfl, rfl, trivial⟩ ?_
  intro p hp
  obtain ⟨H, hH⟩ : ∃ H, H = vecF (rowI (L0 + 1) p) (memB (L0 + 1) N0 p 0 fun _ _ _ => -1) := ⟨_, rfl⟩
  refine XRun.heap H hH ?_
  conv => whnf
  by_cases hlt : p < P0
  · skip
    repeat' first | ((with_reducible apply XBr.dec) <;> (intro h; first | (exfalso; omega) | ((try simp only [List.length_map] at h); first | (exfalso; omega) | (conv => whnf)))) | fail
    refine Walk.nilgr 5 68 rfl ?_
    refine Walk.loopK tab_ok [] [(1, _), (2, _), (3, _), (4, _)] ⟨rfl, rfl, rfl, rfl, trivial⟩ (fun m : Nat => m ≤ L0 + 1) (fun m => [(5, .gr (rowI (L0 + 1) p) m), (6, natA m)]) (fun m => bldW (L0 + 1) N0 p m fun _ _ _ => -1) (fun m => L0 + 1 - m) 0 (Nat.zero_le _) (by rw [hH]; exact (bld_row _ _ _ _).symm) ⟨(by rw [hH]; show some (AV.gr (vecF _ _).length 0) = _; rw [vecF_len]), rfl, trivial⟩ ?_
    intro m hm
    obtain ⟨H1, hH1⟩ : ∃ H1, H1 = bldW (L0 + 1) N0 p m fun _ _ _ => -1 := ⟨_, rfl⟩
    have hl1 : H1.length = celI (L0 + 1) p m := by rw [hH1]; exact bld_len _ _ _ _ _
    have h1t : lget H1 0 = some (.grow 23 (decide (p = 0)) (vecF p fun p => .gr (rowI (L0 + 1) p) (L0 + 1))) := by rw [hH1]; exact bld_t _ _ _ _ _
    have h1r : lget H1 (rowI (L0 + 1) p) = some (.grow 68 (decide (p = p ∧ m = 0)) (vecF m fun m => .gr (celI (L0 + 1) p m) N0)) := by rw [hH1]; exact bld_r _ _ _ _ _
    have hrl : rowI (L0 + 1) p < H1.length := by rw [hl1]; unfold celI; omega
    refine XRun.heap H1 hH1 ?_
    conv => whnf
    by_cases hlt2 : m < L0 + 1
    · skip
      repeat' first | ((with_reducible apply XBr.dec) <;> (intro h; first | (exfalso; omega) | ((try simp only [List.length_map] at h); first | (exfalso; omega) | (conv => whnf)))) | ((with_reducible refine XInt.i64 (by omega) (by omega) ?_); conv => whnf) | ((with_reducible refine XHold.mk ?_ ?_); (first | omega | rfl | decide | exact ⟨rfl, by decide, rfl⟩ | exact wideI _ | exact widePr _ | exact wideSk _ | (unfold Room; constructor <;> ((try simp) <;> omega)) | exact ⟨rfl, by simp only [List.length_map], by unfold Room; constructor <;> ((try simp) <;> omega)⟩ | exact ⟨by omega, by omega, by unfold Room; constructor <;> ((try simp) <;> omega)⟩); conv => whnf) | ((refine XCall.ret hac ?_); conv => whnf) | fail
      refine hpush_to (celI (L0 + 1) p m) (H1 ++ [Blk.grow 3 false (zvs N0 fun k => if k < 0 then -1 else 0)]) (by rw [Nat.zero_add]; exact hl1) (by rw [hrep]) ?_
      conv => whnf
      skip
      refine Walk.loopK tab_ok [] [(1, _), (2, _), (3, _), (4, _), (5, _), (6, _), (7, .gr (celI (L0 + 1) p m) N0)] ⟨rfl, rfl, rfl, rfl, rfl, rfl, (by show some (AV.gr _ _) = some (AV.gr _ _); rw [hNt]), trivial⟩ (fun l : Nat => l ≤ N0) (fun l => [(8, natA l)]) (fun l => H1 ++ [Blk.grow 3 false (zvs N0 fun k => if k < l then -1 else 0)]) (fun l => N0 - l) 0 (Nat.zero_le _) rfl ⟨rfl, trivial⟩ ?_
      intro l hl
      have hzl : (zvs N0 fun k => if k < l then -1 else 0).length = N0 := zvs_len _ _
      have hzs : (zvs N0 fun k => if k < l then -1 else 0).set l (.int .i64 (-1)) = zvs N0 fun k => if k < l + 1 then -1 else 0 := by
        rw [zvs_set]
        unfold zvs
        congr 1
        refine vecF_congr fun k _ => ?_
        unfold updV
        show (if k = l then (-1 : Int) else if k < l then -1 else 0) = if k < l + 1 then -1 else 0
        by_cases e : k = l
        · rw [if_pos e, if_pos (by omega)]
        · rw [if_neg e]
          by_cases e2 : k < l
          · rw [if_pos e2, if_pos (by omega)]
          · rw [if_neg e2, if_neg (by omega)]
      have hze : l = N0 → (zvs N0 fun k => if k < l then -1 else 0) = zvs N0 fun _ => -1 := fun h => by
        unfold zvs
        congr 1
        exact vecF_congr fun k hk => if_pos (by omega)
      generalize (zvs N0 fun k => if k < l then -1 else 0) = zs at hzl hzs hze
      obtain ⟨H2, hH2⟩ : ∃ H2, H2 = H1 ++ [Blk.grow 3 false zs] := ⟨_, rfl⟩
      have h2c : lget H2 (celI (L0 + 1) p m) = some (.grow 3 false zs) := by rw [hH2]; exact lget_push hl1.symm
      have h2r : lget H2 (rowI (L0 + 1) p) = some (.grow 68 (decide (p = p ∧ m = 0)) (vecF m fun m => .gr (celI (L0 + 1) p m) N0)) := by rw [hH2, lget_eq, List.getElem?_append_left hrl, ← lget_eq]; exact h1r
      have h2l : H2.length = celI (L0 + 1) p m + 1 := by rw [hH2, List.length_append, hl1]; rfl
      refine XRun.heap H2 hH2 ?_
      conv => whnf
      by_cases hlt3 : l < N0
      · skip
        repeat' first | ((with_reducible apply XBr.dec) <;> (intro h; first | (exfalso; omega) | ((try simp only [List.length_map] at h); first | (exfalso; omega) | (conv => whnf)))) | ((with_reducible refine XHold.mk ?_ ?_); (first | omega | rfl | decide | exact ⟨rfl, by decide, rfl⟩ | exact wideI _ | exact widePr _ | exact wideSk _ | (unfold Room; constructor <;> ((try simp) <;> omega)) | exact ⟨rfl, by simp only [List.length_map], by unfold Room; constructor <;> ((try simp) <;> omega)⟩ | exact ⟨by omega, by omega, by unfold Room; constructor <;> ((try simp) <;> omega)⟩); conv => whnf) | (rw [h2c]; conv => whnf) | ((first | (refine XHold.mk ⟨hzl, rfl, by omega, by omega⟩ ?_) | (refine XPut.to (zvs N0 fun k => if k < l + 1 then -1 else 0) hzl.symm hlt3 hzs ?_)); conv => whnf) | fail
        refine hset_to (H1 ++ [Blk.grow 3 false (zvs N0 fun k => if k < l + 1 then -1 else 0)]) (by omega) (by rw [hH2]; exact set_push hl1.symm) ?_
        conv => whnf
        repeat' first | ((with_reducible refine XInt.i64 (by omega) (by omega) ?_); conv => whnf) | fail
        exact XAgain.go (l + 1) (by omega) (by omega) rfl ⟨rfl, rfl, rfl, rfl, rfl, rfl, rfl, rfl, trivial⟩
      obtain rfl : l = N0 := by omega
      have hze := hze rfl
      repeat' first | ((with_reducible apply XBr.dec) <;> (intro h; first | (exfalso; omega) | ((try simp only [List.length_map] at h); first | (exfalso; omega) | (conv => whnf)))) | ((with_reducible refine XHold.mk ?_ ?_); (first | omega | rfl | decide | exact ⟨rfl, by decide, rfl⟩ | exact wideI _ | exact widePr _ | exact wideSk _ | (unfold Room; constructor <;> ((try simp) <;> omega)) | exact ⟨rfl, by simp only [List.length_map], by unfold Room; constructor <;> ((try simp) <;> omega)⟩ | exact ⟨by omega, by omega, by unfold Room; constructor <;> ((try simp) <;> omega)⟩); conv => whnf) | (rw [h2c]; conv => whnf) | (rw [h2r]; conv => whnf) | ((refine XHold.mk ⟨rfl, vecF_len _ _, by unfold Room; constructor <;> ((try simp) <;> omega)⟩ ?_); conv => whnf) | fail
      refine hset_to (bldW (L0 + 1) l p (m + 1) fun _ _ _ => -1) (by omega) ?_ ?_
      · rw [hH2, hH1, hze]
        show (_ : List Blk).set _ (.grow _ (_ && false) _) = _
        rw [Bool.and_false]; exact bld_app hlt2
      conv => whnf
      repeat' first | ((with_reducible refine XInt.i64 (by omega) (by omega) ?_); conv => whnf) | fail
      exact XAgain.go (m + 1) (by omega) (by omega) rfl ⟨rfl, rfl, rfl, rfl, rfl, rfl, trivial⟩
    obtain rfl : m = L0 + 1 := by omega
    repeat' first | ((with_reducible apply XBr.dec) <;> (intro h; first | (exfalso; omega) | ((try simp only [List.length_map] at h); first | (exfalso; omega) | (conv => whnf)))) | ((with_reducible refine XHold.mk ?_ ?_); (first | omega | rfl | decide | exact ⟨rfl, by decide, rfl⟩ | exact wideI _ | exact widePr _ | exact wideSk _ | (unfold Room; constructor <;> ((try simp) <;> omega)) | exact ⟨rfl, by simp only [List.length_map], by unfold Room; constructor <;> ((try simp) <;> omega)⟩ | exact ⟨by omega, by omega, by unfold Room; constructor <;> ((try simp) <;> omega)⟩); conv => whnf) | (rw [h1t]; conv => whnf) | ((refine XHold.mk ⟨rfl, vecF_len _ _, by unfold Room; constructor <;> ((try simp) <;> omega)⟩ ?_); conv => whnf) | fail
    refine hset_to (vecF (rowI (L0 + 1) (p + 1)) (memB (L0 + 1) N0 (p + 1) 0 fun _ _ _ => -1)) (by omega) ?_ ?_
    · rw [hH1]
      show (_ : List Blk).set _ (.grow _ (_ && false) _) = _
      rw [Bool.and_false]; exact bld_next (by omega)
    conv => whnf
    repeat' first | ((with_reducible refine XInt.i64 (by omega) (by omega) ?_); conv => whnf) | fail
    exact XAgain.go (p + 1) (by omega) (by omega) rfl ⟨rfl, rfl, rfl, rfl, trivial⟩
  obtain rfl : p = P0 := by omega
  repeat' first | ((with_reducible apply XBr.dec) <;> (intro h; first | (exfalso; omega) | ((try simp only [List.length_map] at h); first | (exfalso; omega) | (conv => whnf)))) | fail
  refine Walk.loopK tab_ok [] [(1, _), (2, _), (3, _)] ⟨rfl, rfl, rfl, trivial⟩ (fun g : Bool × T3 Int × Bool => RInv s (L0 + 1) 0 0 g.2.1 ∧ (g.1 = true → RAll s g.2.1) ∧ (g.2.2 = false → g.1 = true)) (fun g => [(9, .bool g.2.2)]) (fun g => memW (L0 + 1) N0 p g.2.1) (fun g => (if g.1 = true then 0 else 2) + if g.2.2 = true then 1 else 0) (false, (fun _ _ _ => -1), true) ⟨⟨fun _ _ => .inl rfl, fun y hy hd => by have := hy.2.1; omega⟩, by simp, by simp⟩ hH.symm ⟨rfl, trivial⟩ ?_
  rintro ⟨ph, W, r⟩ ⟨hI, hA, hr⟩
  dsimp only at hI hA hr ⊢
  obtain ⟨H1, hH1⟩ : ∃ H1, H1 = memW (L0 + 1) N0 p W := ⟨_, rfl⟩
  refine XRun.heap H1 hH1 ?_
  conv => whnf
  cases r with
  | false =>
    repeat' first | ((with_reducible apply XBr.ff); conv => whnf) | fail
    refine ⟨?_⟩
    have hall := hA (hr rfl)
    have e : wrT s = mkT p (L0 + 1) N0 W := by
      unfold wrT
      rw [show s.places.toNat = p by omega, show (s.last + 1).toNat = L0 + 1 by omega, ← hN0]
      exact mkT_congr fun q m l hq hm hl => (hall ⟨q, m, l⟩ ⟨by show (q : Int) < s.places; omega, by show (m : Int) ≤ s.last; omega, by show l ≤ allN s; omega⟩).symm
    rw [e, hH1]
    exact memW_froz W (by omega)
  | true =>
  repeat' first | ((with_reducible apply XBr.tt); conv => whnf) | fail
  refine Walk.loopK tab_ok [] [(1, _), (2, _), (3, _)] ⟨rfl, rfl, rfl, trivial⟩ (fun g : Nat × T3 Int × Bool => g.1 ≤ L0 + 1 ∧ RInv s g.1 0 0 g.2.1 ∧ (ph = true → RAll s g.2.1 ∧ g.2.2 = false)) (fun g => [(9, .bool g.2.2), (10, .int .i64 ((g.1 : Int) - 1))]) (fun g => memW (L0 + 1) N0 p g.2.1) (fun g => g.1) (L0 + 1, W, false) ⟨Nat.le_refl _, hI, fun h => ⟨hA h, rfl⟩⟩ hH1.symm ⟨rfl, (by show some (AV.int .i64 s.last) = some (AV.int .i64 (((L0 + 1 : Nat) : Int) - 1)); congr 2; omega), trivial⟩ ?_
  clear hI hA hr hH1
  rintro ⟨M, W, r⟩ ⟨hM, hI, hA⟩
  dsimp only at hM hI hA ⊢
  obtain ⟨H1, hH1⟩ : ∃ H1, H1 = memW (L0 + 1) N0 p W := ⟨_, rfl⟩
  refine XRun.heap H1 hH1 ?_
  conv => whnf
  cases M with
  | zero =>
    repeat' first | ((with_reducible apply XBr.dec) <;> (intro h; first | (exfalso; omega) | ((try simp only [List.length_map] at h); first | (exfalso; omega) | (conv => whnf)))) | fail
    refine XAgain.go (true, W, r) ⟨hI.again (by omega), fun _ => hI.fin, fun _ => rfl⟩ ?_ hH1.symm ⟨rfl, rfl, rfl, rfl, trivial⟩
    dsimp only
    cases ph with
    | true => obtain ⟨-, rfl⟩ := hA rfl; simp
    | false => cases r <;> simp
  | succ m =>
  repeat' first | ((with_reducible apply XBr.dec) <;> (intro h; first | (exfalso; omega) | ((try simp only [List.length_map] at h); first | (exfalso; omega) | (conv => whnf)))) | fail
  refine Walk.loopK tab_ok [] [(1, _), (2, _), (3, _), (10, natA m)] ⟨rfl, rfl, rfl, (by show some (AV.int .i64 (((m + 1 : Nat) : Int) - 1)) = some (AV.int .i64 (m : Int)); congr 2; omega), trivial⟩ (fun g : Nat × T3 Int × Bool => g.1 ≤ p ∧ RInv s (m + 1) g.1 0 g.2.1 ∧ (ph = true → RAll s g.2.1 ∧ g.2.2 = false)) (fun g => [(9, .bool g.2.2), (11, natA g.1)]) (fun g => memW (L0 + 1) N0 p g.2.1) (fun g => p - g.1) (0, W, r) ⟨Nat.zero_le _, hI, hA⟩ hH1.symm ⟨rfl, rfl, trivial⟩ ?_
  clear hI hA hH1
  rintro ⟨q, W, r⟩ ⟨hq, hI, hA⟩
  dsimp only at hq hI hA ⊢
  obtain ⟨H1, hH1⟩ : ∃ H1, H1 = memW (L0 + 1) N0 p W := ⟨_, rfl⟩
  refine XRun.heap H1 hH1 ?_
  conv => whnf
  by_cases hlt : q < p
  rotate_left
  · obtain rfl : q = p := by omega
    repeat' first | ((with_reducible apply XBr.dec) <;> (intro h; first | (exfalso; omega) | ((try simp only [List.length_map] at h); first | (exfalso; omega) | (conv => whnf)))) | ((with_reducible refine XInt.i64 (by omega) (by omega) ?_); conv => whnf) | fail
    exact XAgain.go (m, W, r) ⟨by dsimp only; omega, hI.minute (by omega), hA⟩ (by dsimp only; omega) hH1.symm ⟨rfl, rfl, rfl, rfl, rfl, trivial⟩
  repeat' first | ((with_reducible apply XBr.dec) <;> (intro h; first | (exfalso; omega) | ((try simp only [List.length_map] at h); first | (exfalso; omega) | (conv => whnf)))) | fail
  refine Walk.loopK tab_ok [] [(1, _), (2, _), (3, _), (10, _), (11, _)] ⟨rfl, rfl, rfl, rfl, rfl, trivial⟩ (fun g : Nat × T3 Int × Bool => g.1 ≤ N0 ∧ RInv s (m + 1) q g.1 g.2.1 ∧ (ph = true → RAll s g.2.1 ∧ g.2.2 = false)) (fun g => [(9, .bool g.2.2), (12, natA g.1)]) (fun g => memW (L0 + 1) N0 p g.2.1) (fun g => N0 - g.1) (0, W, r) ⟨Nat.zero_le _, hI, hA⟩ hH1.symm ⟨rfl, rfl, trivial⟩ ?_
  clear hI hA hH1
  rintro ⟨l, W, r⟩ ⟨hl, hI, hA⟩
  dsimp only at hl hI hA ⊢
  obtain ⟨H1, hH1⟩ : ∃ H1, H1 = memW (L0 + 1) N0 p W := ⟨_, rfl⟩
  refine XRun.heap H1 hH1 ?_
  conv => whnf
  by_cases hlt2 : l < N0
  rotate_left
  · obtain rfl : l = N0 := by omega
    repeat' first | ((with_reducible apply XBr.dec) <;> (intro h; first | (exfalso; omega) | ((try simp only [List.length_map] at h); first | (exfalso; omega) | (conv => whnf)))) | ((first | (with_reducible refine XInt.i64 (by omega) (by omega) ?_) | (refine XCall.ret hac ?_)); conv => whnf) | fail
    exact XAgain.go (q + 1, W, r) ⟨by dsimp only; omega, RInv.row (by rw [← hN0]; exact hI), hA⟩ (by dsimp only; omega) hH1.symm ⟨rfl, rfl, rfl, rfl, rfl, rfl, trivial⟩
  have hv : vld s ⟨q, m, l⟩ := ⟨by show (q : Int) < s.places; omega, by show (m : Int) ≤ s.last; omega, by show l ≤ allN s; omega⟩
  have hT : TbOk s (mkT p (L0 + 1) N0 W) := worthT_ok (by omega) (by omega) hN0 hL59 hI.a
  have hbo := rBound_c s hb ok false _ hT ⟨q, m, l⟩ ⟨hv.1, hv.2.1, by show l ≤ 1000; omega⟩ hv.2.2
  rw [hI.bound ok hv (tbN (mkT p (L0 + 1) N0 W)) (fun y hy => mkT_at (by have := hy.1; omega) (by have := hy.2.1; omega) (by have := hy.2.2; omega))] at hbo
  have hfl : FrozL Tryz.prog H1 [rsA s, .gr 0 p, staA ⟨q, m, l⟩] [rsA s, .sl false ((mkT p (L0 + 1) N0 W).map rsT), staA ⟨q, m, l⟩] :=
    .cons (.low (rsL s)) (.cons (by rw [hH1]; exact memW_froz W (by omega)) (.cons (.low rfl) .nil))
  have h0 : lget H1 0 = some (.grow 23 false (vecF p fun p => .gr (rowI (L0 + 1) p) (L0 + 1))) := by rw [hH1]; exact memW_t (by omega)
  have h1 : lget H1 (rowI (L0 + 1) q) = some (.grow 68 false (vecF (L0 + 1) fun m => .gr (celI (L0 + 1) q m) N0)) := by rw [hH1]; exact memW_r hlt
  have h2 : lget H1 (celI (L0 + 1) q m) = some (.grow 3 false (zvs N0 fun l => W q m l)) := by rw [hH1]; exact memW_c hlt (by omega)
  have hlen : celI (L0 + 1) q m < H1.length := by rw [hH1, memW_len]; exact celI_lt hlt (by omega)
  have hset : H1.set (celI (L0 + 1) q m) (.grow 3 false (zvs N0 (updV (fun l => W q m l) l (worthZ s ⟨q, m, l⟩)))) = memW (L0 + 1) N0 p (upd3 W q m l (worthZ s ⟨q, m, l⟩)) := by rw [hH1]; exact memW_set hlt (by omega)
  have hIs := hI.set hv
  have hIa := hI.a _ hv
  have hge := worthZ_ge s ⟨q, m, l⟩
  have hIm := hI.same (p := q) (l := l)
  have hAl : ph = true → W q m l = worthZ s ⟨q, m, l⟩ := fun h => (hA h).1 _ hv
  dsimp only at hIa
  generalize worthZ s ⟨q, m, l⟩ = wz at hbo hset hIs hIa hge hIm hAl
  have hm' : m < L0 + 1 := by omega
  by_cases hgt : W q m l < wz
  · skip
    repeat' first | ((with_reducible apply XBr.dec) <;> (intro h; first | (exfalso; omega) | ((try simp only [List.length_map] at h); first | (exfalso; omega) | (conv => whnf)))) | ((first | (with_reducible refine XInt.i64 (by omega) (by omega) ?_) | (refine XCall.ret hac ?_) | (refine XCall.lend hbo hfl rfl ?_)); conv => whnf) | (rw [h0]; conv => whnf) | (rw [h1]; conv => whnf) | (rw [h2]; conv => whnf) | ((first | (refine XHold.mk ⟨vecF_len _ _, rfl, by omega, by omega⟩ ?_) | (refine XHold.mk ⟨zvs_len _ _, rfl, by omega, by omega⟩ ?_) | (refine XGet.to (.gr (rowI (L0 + 1) q) (L0 + 1)) (vecF_len _ _).symm hlt (vecF_get _ hlt) ?_) | (refine XGet.to (.gr (celI (L0 + 1) q m) N0) (vecF_len _ _).symm hm' (vecF_get _ hm') ?_) | (refine XGet.to (.int .i64 (W q m l)) (zvs_len _ _).symm hlt2 (zvs_at hlt2) ?_) | (refine XPut.to _ (zvs_len _ _).symm hlt2 (zvs_set _ _ _ _) ?_) | (refine hset_to _ hlen hset ?_)); conv => whnf) | fail
    refine XAgain.go (l + 1, upd3 W q m l wz, true) ⟨by dsimp only; omega, hIs, fun h => ?_⟩ (by dsimp only; omega) rfl ⟨rfl, rfl, rfl, rfl, rfl, rfl, rfl, trivial⟩
    have := hAl h
    omega
  · have hw : W q m l = wz := by omega
    repeat' first | ((with_reducible apply XBr.dec) <;> (intro h; first | (exfalso; omega) | ((try simp only [List.length_map] at h); first | (exfalso; omega) | (conv => whnf)))) | ((first | (with_reducible refine XInt.i64 (by omega) (by omega) ?_) | (refine XCall.ret hac ?_) | (refine XCall.lend hbo hfl rfl ?_)); conv => whnf) | (rw [h0]; conv => whnf) | (rw [h1]; conv => whnf) | (rw [h2]; conv => whnf) | ((first | (refine XHold.mk ⟨vecF_len _ _, rfl, by omega, by omega⟩ ?_) | (refine XHold.mk ⟨zvs_len _ _, rfl, by omega, by omega⟩ ?_) | (refine XGet.to (.gr (rowI (L0 + 1) q) (L0 + 1)) (vecF_len _ _).symm hlt (vecF_get _ hlt) ?_) | (refine XGet.to (.gr (celI (L0 + 1) q m) N0) (vecF_len _ _).symm hm' (vecF_get _ hm') ?_) | (refine XGet.to (.int .i64 (W q m l)) (zvs_len _ _).symm hlt2 (zvs_at hlt2) ?_)); conv => whnf) | fail
    exact XAgain.go (l + 1, W, r) ⟨by dsimp only; omega, hIm hw, hA⟩ (by dsimp only; omega) hH1.symm ⟨rfl, rfl, rfl, rfl, rfl, rfl, rfl, trivial⟩
end GA
end

section
namespace GA
open Go Go.RowKit Go.Proofs
set_option pp.deepTerms true
set_option maxRecDepth 8000
set_option linter.unusedVariables false
set_option linter.unusedSimpArgs false

theorem XCall.as {P : Program} {f : FuncId} {rs rs' : List AV} {H : List Blk} {k : AV → List Blk → Prop} (e : rs' = rs) (x : XCall P f rs' H k) : XCall P f rs H k := e ▸ x
end GA
end

section
namespace GA
open Go Go.RowKit Go.Proofs
set_option pp.deepTerms true
set_option maxRecDepth 8000
set_option linter.unusedVariables false
set_option linter.unusedSimpArgs false

def wideB (s : Sn) (n : Int) : Bool := decide (n < s.last) && decide (s.last ≤ 60)
theorem wide02_c (s : Sn) (n : Int) : Comp Tryz.prog 35 [snA s, .int .i64 n] (.bool (wideB s n)) := by
  refine Comp.body (T := tab) (res := [.tmp 4]) tab_ok [] Tryz.func35 rfl (by kernel_rfl) Tryz.ntmps35 rfl (by simp only [List.length_cons, List.length_nil]; decide) (by simp only [lowL, AV.low, snL]; rfl) ?_; conv => whnf
  repeat' first | ((first | (with_reducible apply XBr.tt) | (with_reducible apply XBr.ff)); conv => whnf) | ((with_reducible apply XBr.dec) <;> (intro h; first | (exfalso; omega) | ((try simp only [List.length_map] at h); first | (exfalso; omega) | (conv => whnf)))) | fail
  all_goals (refine XOut.bool ?_; unfold wideB; rw [Bool.eq_iff_iff]; simp; try omega)
theorem wide_last {s : Sn} {n : Int} (ok : SnOk s) (h : wideB s n = false) : s.last ≤ n := by
  unfold wideB at h
  rw [decide_eq_true ok.l2, Bool.and_true, decide_eq_false_iff_not] at h
  omega
theorem SnEq.wrT {s u : Sn} (e : SnEq s u) : GA.wrT s = GA.wrT u := by
  unfold GA.wrT
  rw [e.places, e.last, e.allN]
  exact mkT_congr fun p m l _ _ _ => e.worth _
end GA
end

section
namespace GA
open Go Go.RowKit Go.Proofs
set_option pp.deepTerms true
set_option maxRecDepth 8000
set_option linter.unusedVariables false
set_option linter.unusedSimpArgs false

theorem rStart_c (s : Sn) (ok : SnOk s) (hL : s.last ≤ 59) (m : Nat) (hm : (m : Int) ≤ s.last) : Comp Tryz.prog 47 [rsA s, .sl false ((wrT s).map rsT), natA m] (.int .i64 (startZ s m)) := by
  have h1 := ok.h1; have hal := allN_lt ok
  have hac := rAll_c s (by have := ok.t2; omega)
  obtain ⟨h0, hh0⟩ : ∃ h0 : Nat, s.home = h0 := ⟨s.home.toNat, by omega⟩
  have hse := rSeen_c s ok h0 (allN s) (by omega) (by omega)
  have hT := wrT_ok ok hL
  have hat := fun l (h : l ∈ partsL s h0 (allN s)) => (hT.at (y := ⟨h0, m, l⟩) ⟨by show (h0 : Int) < s.places; omega, hm, partsL_all ok h⟩)
  have hwv := fun l (h : l ∈ partsL s h0 (allN s)) => (wrT_at ok (y := ⟨h0, m, l⟩) ⟨by show (h0 : Int) < s.places; omega, hm, partsL_all ok h⟩)
  have hlen := partsL_len s h0 (allN s)
  have hsd : startZ s m = (partsL s h0 (allN s)).foldl (fun n l => min n (worthZ s ⟨h0, m, l⟩)) 60 := by unfold startZ; rw [hh0]; rfl
  rw [hsd]
  generalize partsL s h0 (allN s) = L at hse hat hwv hlen
  have hse' : Comp Tryz.prog 71 [rsA s, .int .i64 s.home, natA (allN s)] (nsA L) := by rw [hh0]; exact hse
  have e1 : ((L.map natA).length : Int) = L.length := by rw [List.length_map]
  have e2 : (((wrT s).map rsT).length : Int) = (wrT s).length := by rw [List.length_map]
  generalize wrT s = T at hT hat hwv e2
  have hho : s.home.toNat = h0 := by rw [hh0]; rfl
  refine Comp.body (T := tab) (res := [.tmp 6]) tab_ok [] Tryz.func47 rfl (by kernel_rfl) Tryz.ntmps47 rfl (by simp only [List.length_cons, List.length_nil]; decide) (by simp only [lowL, AV.low, rsL, lowRs, natA]; rfl) ?_; conv => whnf
  repeat' first | (with_reducible apply XAnd.mk) | ((first | (with_reducible apply Chk.go) | (with_reducible apply ChkA.go) | (with_reducible apply ChkF.go) | (with_reducible apply ChkB.go)); conv => whnf) | (exact XSame.mk rfl rfl) | (with_reducible exact trivial) | (apply Walk.drawN (id := 1) tab_ok mixed_ok [] [] (hsU _) [_, _, _, _, _, _, _] (by kernel_rfl) rfl) | ((first | (with_reducible apply XNext.mk) | (refine XCall.ret hac ?_) | (refine XCall.ret hse' ?_)); conv => whnf) | fail
  refine Walk.loopK tab_ok [] [(1, _), (2, _), (3, _), (7, _)] ⟨rfl, rfl, rfl, rfl, trivial⟩ (fun k : Nat => k ≤ L.length) (fun k => [(8, .int .i64 ((L.take k).foldl (fun n l => min n (worthZ s ⟨h0, m, l⟩)) 60)), (9, natA k)]) (fun _ => []) (fun k => L.length - k) 0 (Nat.zero_le _) rfl ⟨rfl, rfl, trivial⟩ ?_
  intro k hk
  have hnx : k < L.length → (L.take (k + 1)).foldl (fun n l => min n (worthZ s ⟨h0, m, l⟩)) 60 = min ((L.take k).foldl (fun n l => min n (worthZ s ⟨h0, m, l⟩)) 60) (worthZ s ⟨h0, m, L.getD k default⟩) := fun h => by rw [take_next h, List.foldl_append]; rfl
  have hend : k = L.length → (L.take k).foldl (fun n l => min n (worthZ s ⟨h0, m, l⟩)) 60 = L.foldl (fun n l => min n (worthZ s ⟨h0, m, l⟩)) 60 := fun h => by rw [h, List.take_length]
  generalize (L.take k).foldl (fun n l => min n (worthZ s ⟨h0, m, l⟩)) 60 = v at hnx hend
  conv => whnf
  by_cases hlt : k < L.length
  · have hnx := hnx hlt
    obtain ⟨g1, g2, g3, -, -⟩ := hat _ (getD_mem (d := default) hlt)
    have hw := hwv _ (getD_mem (d := default) hlt)
    dsimp only at g1 g2 g3
    have hw2 : worthZ s ⟨h0, m, L.getD k default⟩ = ((T.getD s.home.toNat default).2.getD m default).2.getD (L.getD k default) default := by rw [← hw, hho]; rfl
    rw [hw2] at hnx
    rw [← hho] at g1 g2 g3
    have e3 : (((T.getD s.home.toNat default).2.map rwA).length : Int) = (T.getD s.home.toNat default).2.length := by rw [List.length_map]
    have e4 : ((ints ((T.getD s.home.toNat default).2.getD m default).2).length : Int) = ((T.getD s.home.toNat default).2.getD m default).2.length := by rw [ints_len]
    repeat' first | ((with_reducible apply XBr.dec) <;> (intro h; first | (exfalso; omega) | ((try simp only [List.length_map] at h); first | (exfalso; omega) | (conv => whnf)))) | ((first | (with_reducible refine XInt.i64 (by omega) (by omega) ?_) | ((with_reducible refine XIx.nat ?_ ?_ ?_); omega; (intro _; rfl)) | ((with_reducible refine XIx.map ?_ ?_ ?_ ?_); omega; omega; (intro _; rfl))); conv => whnf) | (with_reducible apply XAnd.mk) | ((first | (with_reducible apply Chk.go) | (with_reducible apply ChkA.go) | (with_reducible apply ChkF.go) | (with_reducible apply ChkB.go)); conv => whnf) | (exact XSame.mk rfl rfl) | (with_reducible exact trivial) | (apply Walk.drawN (id := 6) tab_ok mixed_ok [] [] (hsU _) [_, _, _, _, _, _, _, _, _, _, _, _, _, _, _, _, _] (by kernel_rfl) rfl) | ((with_reducible apply XNext.mk); conv => whnf) | fail
    exact XAgain.go (k + 1) (by omega) (by omega) rfl ⟨rfl, rfl, rfl, rfl, (by rw [hnx]; rfl), rfl, trivial⟩
  obtain rfl : k = L.length := by omega
  repeat' first | ((with_reducible apply XBr.dec) <;> (intro h; first | (exfalso; omega) | ((try simp only [List.length_map] at h); first | (exfalso; omega) | (conv => whnf)))) | fail
  exact XOut.int (hend rfl)
theorem rTold_c (s : Sn) (ok : SnOk s) (p : Nat) (hp : (p : Int) < s.places) : Comp Tryz.prog 49 [rsA s, natA p] (rsA (tolS s p)) := by
  have t2 := ok.t2; have k1 := ok.k1; have p2 := ok.p2
  obtain ⟨P0, hP0⟩ : ∃ P0 : Nat, s.places = P0 := ⟨s.places.toNat, by have := ok.p1; omega⟩
  have hrl : ∀ i, i < s.looks.length → (s.looks.getD i default).2.length = P0 := fun i hi => by have := ok.kl _ (getD_mem (d := default) hi); omega
  have e1 : ((s.looks.map rwA).length : Int) = s.looks.length := by rw [List.length_map]
  refine Comp.body (T := tab) (res := [.cell 4 38]) tab_ok [17] Tryz.func49 rfl (by kernel_rfl) Tryz.ntmps49 rfl (by simp only [List.length_cons, List.length_nil]; decide) (by simp only [lowL, AV.low, rsL]; rfl) ?_; conv => whnf
  skip
  refine Walk.nilcell 1 5 68 rfl rfl ?_
  refine Walk.loopK tab_ok [] [(1, _), (2, _), (4, _), (5, _)] ⟨rfl, rfl, rfl, rfl, trivial⟩ (fun k : Nat => k ≤ s.looks.length) (fun k => [(6, natA k)]) (fun k => .cells rsZ' :: .cells [.int .i64 s.places, .int .i64 s.home, .int .i64 s.bed, .int .i64 s.last, .sl s.nw (s.ways.map wyA), .gr 2 k, .sl s.truths.isEmpty (s.truths.map tdA)] :: .grow 68 (vecF k (tolV s P0)).isEmpty (vecF k (tolV s P0)) :: vecF k (tolB s p)) (fun k => s.looks.length - k) 0 (Nat.zero_le _) ?_ ⟨rfl, trivial⟩ ?_
  · rw [vecF_eq, vecF_eq]; rfl
  intro k hk
  have hel : (vecF k (tolV s P0)).length = k := vecF_len _ _
  have hes := vecF_succ k (tolV s P0)
  have hRl : (vecF k (tolB s p)).length = k := vecF_len _ _
  have hRn : vecF k (tolB s p) ++ [tolB s p k] = vecF (k + 1) (tolB s p) := (vecF_succ _ _).symm
  have hRe : k = s.looks.length → ∀ A B, Froz Tryz.prog (A :: B :: .grow 68 (vecF k (tolV s P0)).isEmpty (vecF k (tolV s P0)) :: vecF k (tolB s p)) (.gr 2 s.looks.length) (.sl false ((tolS s p).looks.map rwA)) := fun h A B => by
    have he : (vecF k (tolV s P0)).isEmpty = false := by
      cases hv : vecF k (tolV s P0) with
      | nil => rw [hv] at hel; have := ok.t1; simp at hel; omega
      | cons _ _ => rfl
    rw [he, h]; exact tol_froz (n := s.looks.length) rfl rfl hrl
  generalize vecF k (tolV s P0) = els at hel hes hRe
  generalize vecF k (tolB s p) = R at hRl hRn hRe
  obtain ⟨A, hA⟩ : ∃ A, A = Blk.cells rsZ' := ⟨_, rfl⟩
  obtain ⟨CB, hCB⟩ : ∃ CB : Nat → List AV, CB = fun k => [.int .i64 s.places, .int .i64 s.home, .int .i64 s.bed, .int .i64 s.last, .sl s.nw (s.ways.map wyA), .gr 2 k, .sl s.truths.isEmpty (s.truths.map tdA)] := ⟨_, rfl⟩
  obtain ⟨H0, hH0⟩ : ∃ H0, H0 = A :: .cells (CB k) :: Blk.grow 68 els.isEmpty els :: R := ⟨_, rfl⟩
  have h0l : H0.length = k + 3 := by rw [hH0]; simp only [List.length_cons, hRl]
  have h01 : lget H0 1 = some (.cells [.int .i64 s.places, .int .i64 s.home, .int .i64 s.bed, .int .i64 s.last, .sl s.nw (s.ways.map wyA), .gr 2 k, .sl s.truths.isEmpty (s.truths.map tdA)]) := by rw [hH0, hCB]; rfl
  refine XRun.heap H0 (by rw [hH0, hA, hCB]) ?_
  conv => whnf
  by_cases hlt : k < s.looks.length
  · have hrow := hrl k hlt
    have hkn := ok.kn _ (getD_mem (d := default) hlt)
    have htb : tolB s p k = .grow 3 false (ints ((s.looks.getD k default).2.set p (k : Int))) := rfl
    have e2 : ((ints (s.looks.getD k default).2).length : Int) = P0 := by rw [ints_len, hrow]
    have e4 : (((s.looks[k]?.getD default).snd.length : Nat) : Int) = P0 := by rw [← List.getD_eq_getElem?_getD]; omega
    have hlp : (ints (s.looks.getD k default).2).length = P0 := by rw [ints_len]; exact hrow
    have hps : (ints (s.looks.getD k default).2).set p (natA k) = ints ((s.looks.getD k default).2.set p (k : Int)) := (List.map_set (f := AV.int .i64)).symm
    obtain ⟨b1, hb1⟩ : ∃ b1, b1 = Blk.grow 3 false (ints (s.looks.getD k default).2) := ⟨_, rfl⟩
    obtain ⟨v, hv⟩ : ∃ v, v = AV.gr (k + 3) (ints (s.looks.getD k default).2).length := ⟨_, rfl⟩
    have hvP : v = tolV s P0 k := by rw [hv, hlp]; rfl
    obtain ⟨H1, hH1⟩ : ∃ H1, H1 = A :: .cells (CB k) :: Blk.grow 68 els.isEmpty els :: (R ++ [b1]) := ⟨_, rfl⟩
    obtain ⟨H2, hH2⟩ : ∃ H2, H2 = A :: .cells (CB k) :: Blk.grow 68 els.isEmpty els :: (R ++ [tolB s p k]) := ⟨_, rfl⟩
    obtain ⟨H3, hH3⟩ : ∃ H3, H3 = A :: .cells (CB k) :: Blk.grow 68 (els.isEmpty && false) (els ++ [v]) :: (R ++ [tolB s p k]) := ⟨_, rfl⟩
    obtain ⟨H4, hH4⟩ : ∃ H4, H4 = A :: .cells (CB (k + 1)) :: Blk.grow 68 (els.isEmpty && false) (els ++ [v]) :: (R ++ [tolB s p k]) := ⟨_, rfl⟩
    have h1k : lget H1 (k + 3) = some (.grow 3 false (ints (s.looks.getD k default).2)) := by rw [hH1, lget_3, ← hb1]; exact lget_push hRl.symm
    have h1s : H1.set (k + 3) (.grow 3 false (ints ((s.looks.getD k default).2.set p (k : Int)))) = H2 := by rw [hH1, hH2, set_3, ← htb, set_push hRl.symm]
    have h21 : lget H2 1 = some (.cells [.int .i64 s.places, .int .i64 s.home, .int .i64 s.bed, .int .i64 s.last, .sl s.nw (s.ways.map wyA), .gr 2 k, .sl s.truths.isEmpty (s.truths.map tdA)]) := by rw [hH2, hCB]; rfl
    have h22 : lget H2 2 = some (.grow 68 els.isEmpty els) := by rw [hH2]; rfl
    have h2s : H2.set 2 (.grow 68 (els.isEmpty && false) (els ++ [v])) = H3 := by rw [hH2, hH3]; rfl
    have h31 : lget H3 1 = some (.cells [.int .i64 s.places, .int .i64 s.home, .int .i64 s.bed, .int .i64 s.last, .sl s.nw (s.ways.map wyA), .gr 2 k, .sl s.truths.isEmpty (s.truths.map tdA)]) := by rw [hH3, hCB]; rfl
    have h3s : H3.set 1 (.cells [.int .i64 s.places, .int .i64 s.home, .int .i64 s.bed, .int .i64 s.last, .sl s.nw (s.ways.map wyA), .gr 2 (k + 1), .sl s.truths.isEmpty (s.truths.map tdA)]) = H4 := by rw [hH3, hH4, hCB]; rfl
    have hl1 : H1.length = k + 4 := by rw [hH1]; simp only [List.length_cons, List.length_append, hRl, List.length_nil]
    have hl2 : H2.length = k + 4 := by rw [hH2]; simp only [List.length_cons, List.length_append, hRl, List.length_nil]
    have hl3 : H3.length = k + 4 := by rw [hH3]; simp only [List.length_cons, List.length_append, hRl, List.length_nil]
    repeat' first | ((with_reducible apply XBr.dec) <;> (intro h; first | (exfalso; omega) | ((try simp only [List.length_map] at h); first | (exfalso; omega) | (conv => whnf)))) | ((with_reducible refine XHold.mk ?_ ?_); (first | omega | rfl | decide | exact ⟨rfl, by decide, rfl⟩ | exact wideI _ | exact widePr _ | exact wideSk _ | (unfold Room; constructor <;> ((try simp) <;> omega)) | exact ⟨rfl, by simp only [List.length_map], by unfold Room; constructor <;> ((try simp) <;> omega)⟩ | exact ⟨by omega, by omega, by unfold Room; constructor <;> ((try simp) <;> omega)⟩); conv => whnf) | (((with_reducible refine XIx.nat ?_ ?_ ?_); omega; (intro _; rfl)); conv => whnf) | fail
    refine hpush_to (k + 3) H1 (by omega) (by rw [hH0, hH1, hb1]; rfl) ?_
    conv => whnf
    repeat' first | (rw [h1k]; conv => whnf) | ((first | (refine XHold.mk ⟨rfl, rfl, by omega, by omega⟩ ?_) | (refine XPut.to (ints ((s.looks.getD k default).2.set p (k : Int))) rfl (by omega) hps ?_)); conv => whnf) | fail
    refine hset_to H2 (by omega) h1s ?_
    conv => whnf
    repeat' first | ((with_reducible refine XHold.mk ?_ ?_); (first | omega | rfl | decide | exact ⟨rfl, by decide, rfl⟩ | exact wideI _ | exact widePr _ | exact wideSk _ | (unfold Room; constructor <;> ((try simp) <;> omega)) | exact ⟨rfl, by simp only [List.length_map], by unfold Room; constructor <;> ((try simp) <;> omega)⟩ | exact ⟨by omega, by omega, by unfold Room; constructor <;> ((try simp) <;> omega)⟩); conv => whnf) | (rw [h21]; conv => whnf) | (rw [h22]; conv => whnf) | fail
    refine hset_to H3 (by omega) (by rw [← h2s, hv]; rfl) ?_
    conv => whnf
    repeat' first | (rw [h31]; conv => whnf) | fail
    refine hset_to H4 (by omega) h3s ?_
    conv => whnf
    repeat' first | ((with_reducible refine XInt.i64 (by omega) (by omega) ?_); conv => whnf) | fail
    refine XAgain.go (k + 1) (by omega) (by omega) ?_ ⟨rfl, rfl, rfl, rfl, rfl, trivial⟩
    rw [hes, isEmpty_app, ← hvP, ← hRn, hH4, hA, hCB]
  obtain rfl : k = s.looks.length := by omega
  have hRe := hRe rfl
  rw [hA] at hH0
  obtain ⟨H5, hH5⟩ : ∃ H5, H5 = .cells (CB s.looks.length) :: .cells (CB s.looks.length) :: Blk.grow 68 els.isEmpty els :: R := ⟨_, rfl⟩
  have h00 : lget H0 0 = some (.cells rsZ') := by rw [hH0]; rfl
  have h0s : H0.set 0 (.cells [.int .i64 s.places, .int .i64 s.home, .int .i64 s.bed, .int .i64 s.last, .sl s.nw (s.ways.map wyA), .gr 2 s.looks.length, .sl s.truths.isEmpty (s.truths.map tdA)]) = H5 := by rw [hH0, hH5, hCB]; rfl
  have h50 : lget H5 0 = some (.cells [.int .i64 s.places, .int .i64 s.home, .int .i64 s.bed, .int .i64 s.last, .sl s.nw (s.ways.map wyA), .gr 2 s.looks.length, .sl s.truths.isEmpty (s.truths.map tdA)]) := by rw [hH5, hCB]; rfl
  repeat' first | ((with_reducible apply XBr.dec) <;> (intro h; first | (exfalso; omega) | ((try simp only [List.length_map] at h); first | (exfalso; omega) | (conv => whnf)))) | (rw [h01]; conv => whnf) | (rw [h00]; conv => whnf) | ((refine hset_to H5 (by omega) h0s ?_); conv => whnf) | (rw [h50]; conv => whnf) | fail
  refine ⟨Froz.agg (rs := [.int .i64 s.places, .int .i64 s.home, .int .i64 s.bed, .int .i64 s.last, .sl s.nw (s.ways.map wyA), .gr 2 s.looks.length, .sl s.truths.isEmpty (s.truths.map tdA)]) (rsOne (tolS s p)) (.cons (.low rfl) (.cons (.low rfl) (.cons (.low rfl) (.cons (.low rfl) (.cons (.low (lowWy _)) (.cons (by rw [hH5]; exact hRe _ _) (.cons (.low (lowTd _)) .nil)))))))⟩
end GA
end

section
namespace GA
open Go Go.RowKit Go.Proofs
set_option pp.deepTerms true
set_option maxRecDepth 8000
set_option linter.unusedVariables false
set_option linter.unusedSimpArgs false

theorem SnEq.start {s u : Sn} (e : SnEq s u) (m : Nat) : startZ s m = startZ u m := by
  unfold startZ
  rw [e.home, e.allN, e.parts, show (fun n l => min n (worthZ s ⟨u.home.toNat, m, l⟩)) = (fun n l => min n (worthZ u ⟨u.home.toNat, m, l⟩)) from funext fun n => funext fun l => by rw [e.worth]]
theorem SnEq.begE {s u : Sn} (e : SnEq s u) (m : Int) : GA.begE s m = GA.begE u m := by unfold GA.begE; rw [e.err, e.last]
theorem SnEq.ok {s u : Sn} (e : SnEq s u) (ok : SnOk s) : SnOk u := snE_iff.1 (by rw [← e.err]; exact snE_iff.2 ok)
theorem SnEq.tol {s u : Sn} (e : SnEq s u) (p : Nat) : SnEq (tolS s p) (tolS u p) := by
  refine ⟨e.places, e.home, e.bed, e.last, e.ways, ?_, e.truths⟩
  show (vecF s.looks.length fun i => tolR p i (s.looks.getD i default)).map (·.2) = (vecF u.looks.length fun i => tolR p i (u.looks.getD i default)).map (·.2)
  rw [vecF_map, vecF_map, e.lenK]
  refine vecF_congr fun i _ => ?_
  show (s.looks.getD i default).2.set p (i : Int) = (u.looks.getD i default).2.set p (i : Int)
  have := congrArg (fun l => l.getD i (default : Rw).2) e.looks
  rw [getD_map' (fun r : Rw => r.2), getD_map' (fun r : Rw => r.2)] at this
  rw [this]
theorem SnEq.best2 {s u : Sn} (e : SnEq s u) : bstE s = bstE u := by
  unfold bstE
  rw [e.last]
  have : ∀ k, bstK s k = bstK u k := fun k => by
    induction k with
    | zero => rfl
    | succ k ih => rw [bstK, bstK, ih, e.start]
  exact this _
theorem SnEq.spy {s u : Sn} (e : SnEq s u) (m : Nat) : spyE s m = spyE u m := by
  unfold spyE
  rw [e.places]
  have : ∀ k, spyK s m k = spyK u m k := fun k => by
    induction k with
    | zero => rfl
    | succ k ih => rw [spyK, spyK, ih, e.home, (e.tol k).start]
  exact this _
theorem SnEq.turn {s u : Sn} (e : SnEq s u) (l : Nat) : turnN s l = turnN u l := by
  unfold turnN
  rw [e.last, show turnB s l = turnB u l from funext fun b => by unfold turnB; rw [e.worth, e.bed, e.last]]
theorem bstK_ge (s : Sn) : ∀ k, -1 ≤ (bstK s k).2
  | 0 => Int.le_refl _
  | k + 1 => by
    rw [bstK]
    split
    · have := bstK_ge s k; dsimp only; omega
    · exact bstK_ge s k
theorem spyK_ge (s : Sn) (m : Nat) : ∀ k, -1 ≤ (spyK s m k).1
  | 0 => Int.le_refl _
  | k + 1 => by
    rw [spyK]
    split
    · exact spyK_ge s m k
    · split
      · show (-1 : Int) ≤ (k : Int); omega
      · exact spyK_ge s m k
def lstK (s : Sn) (l : Nat) : Nat → Option Nat
  | 0 => none
  | k + 1 => if 0 ≤ worthZ s ⟨s.bed.toNat, k, l⟩ then some k else lstK s l k
theorem lstK_some {s : Sn} {l j : Nat} : ∀ {k : Nat}, lstK s l k = some j → j < k ∧ 0 ≤ worthZ s ⟨s.bed.toNat, j, l⟩ ∧ ∀ i, j < i → i < k → ¬ 0 ≤ worthZ s ⟨s.bed.toNat, i, l⟩
  | 0, h => by cases h
  | k + 1, h => by
    rw [lstK] at h
    split at h
    · cases h
      rename_i hw
      exact ⟨by omega, hw, fun i h1 h2 => by omega⟩
    · rename_i hw
      obtain ⟨h1, h2, h3⟩ := lstK_some h
      refine ⟨by omega, h2, fun i h4 h5 => ?_⟩
      by_cases e : i = k
      · rw [e]; exact hw
      · exact h3 i h4 (by omega)
theorem lstK_none {s : Sn} {l : Nat} : ∀ {k : Nat}, lstK s l k = none → ∀ i, i < k → ¬ 0 ≤ worthZ s ⟨s.bed.toNat, i, l⟩
  | 0, _, i, hi => by omega
  | k + 1, h, i, hi => by
    rw [lstK] at h
    split at h
    · cases h
    · rename_i hw
      by_cases e : i = k
      · rw [e]; exact hw
      · exact lstK_none h i (by omega)
theorem turn_lst {s : Sn} (ok : SnOk s) (l : Nat) : turnN s l = match lstK s l (s.last.toNat + 1) with | some j => (j : Int) | none => -1 := by
  have l1 := ok.l1
  have hb : ∀ b, turnB s l b = true ↔ 0 ≤ worthZ s ⟨s.bed.toNat, s.last.toNat - b, l⟩ := fun b => by
    have := worthZ_ge s ⟨s.bed.toNat, s.last.toNat - b, l⟩
    unfold turnB
    rw [bne_iff_ne]
    omega
  cases h : lstK s l (s.last.toNat + 1) with
  | some j =>
    obtain ⟨h1, h2, h3⟩ := lstK_some h
    unfold turnN
    rw [find_range_some (k := s.last.toNat - j) (by omega) ((hb _).2 (by rw [show s.last.toNat - (s.last.toNat - j) = j by omega]; exact h2)) fun i hi => by
      rw [← Bool.not_eq_true, hb]; exact h3 _ (by omega) (by omega)]
    show s.last - ((s.last.toNat - j : Nat) : Int) = j
    omega
  | none =>
    have h1 := lstK_none h
    unfold turnN
    rw [find_range_none fun i hi => by rw [← Bool.not_eq_true, hb]; exact h1 _ (by omega)]
theorem starts_start (s : Sn) (hb : SnB s) (ok : SnOk s) (m : Int) : ∃ n e : Int, Comp Tryz.prog 42 [snA (ownS s), .int .i64 m] (.tup [.int .i64 n, .int .i64 e]) ∧ (0 ≤ m ∧ m ≤ s.last → n = startZ s m.toNat ∧ e = 0) ∧ (¬ (0 ≤ m ∧ m ≤ s.last) → n = 0 ∧ e = 3) := by
  have e := own_eq s
  by_cases h : 0 ≤ m ∧ m ≤ s.last
  · have hc := fStart_ok (ownS s) (own_B hb) (e.ok ok) m.toNat (by rw [← e.last]; omega)
    rw [← e.start] at hc
    rw [show natA m.toNat = .int .i64 m by unfold natA; rw [Int.toNat_of_nonneg h.1]] at hc
    exact ⟨_, _, hc, fun _ => ⟨rfl, rfl⟩, fun h' => absurd h h'⟩
  · have hE : begE (ownS s) m = 3 := by
      rw [← e.begE]; unfold begE
      rw [if_neg (by simp [snE_iff.2 ok]), if_pos (by rw [← Bool.not_eq_true, inZ_iff]; exact h)]
    have hc := fStart_no (ownS s) (own_B hb) m (by rw [hE]; simp)
    rw [hE] at hc
    exact ⟨_, _, hc, fun h' => absurd h' h, fun _ => ⟨rfl, rfl⟩⟩
theorem starts_told (s : Sn) (hb : SnB s) (ok : SnOk s) (m : Int) : ∃ n e : Int, Comp Tryz.prog 45 [snA (ownS s), .int .i64 m] (.tup [.int .i64 n, .int .i64 e]) ∧ (0 ≤ m ∧ m ≤ s.last → n = startZ (tolS s s.home.toNat) m.toNat ∧ e = 0) ∧ (¬ (0 ≤ m ∧ m ≤ s.last) → n = 0 ∧ e = 3) := by
  have e := own_eq s
  by_cases h : 0 ≤ m ∧ m ≤ s.last
  · have hc := fTold_ok (ownS s) (own_B hb) (e.ok ok) m.toNat (by rw [← e.last]; omega)
    rw [← e.home, ← (e.tol s.home.toNat).start] at hc
    rw [show natA m.toNat = .int .i64 m by unfold natA; rw [Int.toNat_of_nonneg h.1]] at hc
    exact ⟨_, _, hc, fun _ => ⟨rfl, rfl⟩, fun h' => absurd h h'⟩
  · have hE : begE (ownS s) m = 3 := by
      rw [← e.begE]; unfold begE
      rw [if_neg (by simp [snE_iff.2 ok]), if_pos (by rw [← Bool.not_eq_true, inZ_iff]; exact h)]
    have hc := fTold_no (ownS s) (own_B hb) m (by rw [hE]; simp)
    rw [hE] at hc
    exact ⟨_, _, hc, fun h' => absurd h' h, fun _ => ⟨rfl, rfl⟩⟩
theorem starts_spy (s : Sn) (hb : SnB s) (ok : SnOk s) (m : Int) : ∃ a n e : Int, Comp Tryz.prog 46 [snA (ownS s), .int .i64 m] (.tup [.int .i64 a, .int .i64 n, .int .i64 e]) ∧ (0 ≤ m ∧ m ≤ s.last → a = (spyE s m.toNat).1 ∧ n = (spyE s m.toNat).2 ∧ e = 0) ∧ (¬ (0 ≤ m ∧ m ≤ s.last) → a = 0 ∧ n = 0 ∧ e = 3) := by
  have e := own_eq s
  by_cases h : 0 ≤ m ∧ m ≤ s.last
  · have hc := fSpy_ok (ownS s) (own_B hb) (e.ok ok) m.toNat (by rw [← e.last]; omega)
    rw [← e.spy] at hc
    rw [show natA m.toNat = .int .i64 m by unfold natA; rw [Int.toNat_of_nonneg h.1]] at hc
    exact ⟨_, _, _, hc, fun _ => ⟨rfl, rfl, rfl⟩, fun h' => absurd h h'⟩
  · have hE : begE (ownS s) m = 3 := by
      rw [← e.begE]; unfold begE
      rw [if_neg (by simp [snE_iff.2 ok]), if_pos (by rw [← Bool.not_eq_true, inZ_iff]; exact h)]
    have hc := fSpy_no (ownS s) (own_B hb) m (by rw [hE]; simp)
    rw [hE] at hc
    exact ⟨_, _, _, hc, fun h' => absurd h' h, fun _ => ⟨rfl, rfl, rfl⟩⟩
def oN (o : Option Nat) : Int := match o with | some j => (j : Int) | none => 0
def oE (o : Option Nat) : Int := match o with | some _ => 0 | none => 6
theorem starts_turn (s : Sn) (hb : SnB s) (ok : SnOk s) (l : Int) : ∃ n e : Int, Comp Tryz.prog 44 [snA (ownS s), .int .i64 l] (.tup [.int .i64 n, .int .i64 e]) ∧ (1 ≤ l ∧ l ≤ allN s → n = oN (lstK s l.toNat (s.last.toNat + 1)) ∧ e = oE (lstK s l.toNat (s.last.toNat + 1))) ∧ (¬ (1 ≤ l ∧ l ≤ allN s) → n = 0 ∧ e = 3) := by
  have e := own_eq s
  by_cases h : 1 ≤ l ∧ l ≤ allN s
  · have hc := fTurn_ok (ownS s) (own_B hb) l.toNat (e.ok ok) (by omega) (by rw [← e.allN]; omega)
    rw [← e.turn] at hc
    rw [show natA l.toNat = .int .i64 l by unfold natA; rw [Int.toNat_of_nonneg (by omega)]] at hc
    have ht := turn_lst ok l.toNat
    refine ⟨_, _, hc, fun _ => ?_, fun h' => absurd h h'⟩
    cases ho : lstK s l.toNat (s.last.toNat + 1) with
    | some j =>
      rw [ho] at ht
      have ht' : turnN s l.toNat = (j : Int) := ht
      rw [ht', if_neg (by omega), if_neg (by omega)]
      exact ⟨rfl, rfl⟩
    | none =>
      rw [ho] at ht
      have ht' : turnN s l.toNat = -1 := ht
      rw [ht', if_pos rfl, if_pos rfl]
      exact ⟨rfl, rfl⟩
  · have hf : inZ l 1 (allN (ownS s)) = false := by rw [← e.allN, ← Bool.not_eq_true, inZ_iff]; exact h
    have hc := fTurn_no (ownS s) (own_B hb) l (.inr hf)
    have hE : turnE (ownS s) l = 3 := by unfold turnE; rw [if_neg (by simp [snE_iff.2 (e.ok ok)]), if_pos hf]
    rw [hE] at hc
    exact ⟨_, _, hc, fun h' => absurd h' h, fun _ => ⟨rfl, rfl⟩⟩
def bs1 (b : Nat × Int) : Int := if b.2 = -1 then 0 else (b.1 : Int)
def bs2 (b : Nat × Int) : Int := if b.2 = -1 then 0 else b.2
def bs3 (b : Nat × Int) : Int := if b.2 = -1 then 6 else 0
theorem starts_best (s : Sn) (hb : SnB s) (ok : SnOk s) : Comp Tryz.prog 43 [snA (ownS s)] (.tup [.int .i64 (bs1 (bstE s)), .int .i64 (bs2 (bstE s)), .int .i64 (bs3 (bstE s))]) := by
  have e := own_eq s
  have hc := fBest_ok (ownS s) (own_B hb) (e.ok ok)
  rw [← e.best2] at hc
  have h1 : natA (if (bstE s).2 = -1 then 0 else (bstE s).1) = .int .i64 (bs1 (bstE s)) := by
    unfold natA bs1; split <;> rfl
  rw [h1] at hc
  exact hc
end GA
end

section
namespace GA
open Go Go.RowKit Go.Proofs
set_option pp.deepTerms true
set_option maxRecDepth 8000
set_option linter.unusedVariables false
set_option linter.unusedSimpArgs false

set_option maxHeartbeats 16000000 in
theorem fordStarts_c (s : Sn) (m l : Int) : Comp Tryz.prog 6 [snA s, .int .i64 m, .int .i64 l] (.bool true) := by
  have hgr := great02_c s
  have hwd := wide02_c s 16
  cases hgs : grtS s with
  | true =>
    rw [hgs] at hgr
    refine Comp.body (T := tab) (res := [.tmp 6]) tab_ok [] Tryz.func6 rfl (by kernel_rfl) Tryz.ntmps6 rfl (by simp only [List.length_cons, List.length_nil]; decide) (by simp only [lowL, AV.low, snL]; rfl) ?_; conv => whnf
    repeat' first | ((first | (with_reducible apply XBr.tt) | (refine XCall.ret hgr ?_) | (refine XCall.ret awake02_c ?_)); conv => whnf) | fail
    exact XOut.bool rfl
  | false =>
  rw [hgs] at hgr
  cases hws : wideB s 16 with
  | true =>
    rw [hws] at hwd
    refine Comp.body (T := tab) (res := [.tmp 6]) tab_ok [] Tryz.func6 rfl (by kernel_rfl) Tryz.ntmps6 rfl (by simp only [List.length_cons, List.length_nil]; decide) (by simp only [lowL, AV.low, snL]; rfl) ?_; conv => whnf
    repeat' first | ((first | (with_reducible apply XBr.tt) | (with_reducible apply XBr.ff) | (refine XCall.ret hgr ?_) | (refine XCall.ret hwd ?_) | (refine XCall.ret awake02_c ?_)); conv => whnf) | fail
    exact XOut.bool rfl
  | false =>
  rw [hws] at hwd
  have hb := (grt_B hgs).1
  have hbo := own_B hb
  have e := own_eq s
  have how := own02_c s hb
  have hth := theirs02_c s hb
  have hsa := same02_c s hb
  have hck := rCheck_c s hb
  by_cases h0 : snE s = 0
  rotate_left
  · have ho0 : snE (ownS s) ≠ 0 := by rw [← e.err]; exact h0
    have hbE : begE (ownS s) m = snE s := by rw [← e.begE]; unfold begE; rw [if_pos h0]
    have hSt := fStart_no (ownS s) hbo m (by rw [hbE]; exact h0)
    have hTo := fTold_no (ownS s) hbo m (by rw [hbE]; exact h0)
    have hSp := fSpy_no (ownS s) hbo m (by rw [hbE]; exact h0)
    have hBe := fBest_no (ownS s) hbo ho0
    have hTu := fTurn_no (ownS s) hbo l (.inl ho0)
    have htE : turnE (ownS s) l = snE s := by unfold turnE; rw [if_pos ho0, ← e.err]
    rw [hbE] at hSt hTo hSp
    rw [← e.err] at hBe
    rw [htE] at hTu
    have hrm := hck
    generalize snE s = v at h0 hck hSt hTo hSp hBe hTu hrm
    refine Comp.body (T := tab) (res := [.tmp 6]) tab_ok [] Tryz.func6 rfl (by kernel_rfl) Tryz.ntmps6 rfl (by simp only [List.length_cons, List.length_nil]; decide) (by simp only [lowL, AV.low, snL]; rfl) ?_; conv => whnf
    repeat' first | ((first | (with_reducible apply XBr.ff) | (refine XCall.ret hgr ?_) | (refine XCall.ret hwd ?_)); conv => whnf) | fail
    refine Walk.place (Walk.place ?_)
    apply Walk.drawX tab_ok mixed_ok [] [4, 5, 6, 7] (fun fl => match fl with
      | [a, b, x, y] => [(bif a then .cells (bif x then snC (ownS s) else rsZ') else .free), (bif b then .cells (bif y then rsC s else rsZ') else .free)]
      | _ => []) [_, _, _, _, .ptr 0 0, .ptr 1 0, _, _] (by kernel_rfl) rfl
    · skip
      repeat' first | (with_reducible apply XAnd.mk) | ((first | (with_reducible apply Chk.go) | (with_reducible apply ChkA.go)); conv => whnf) | (exact XSame.mk rfl rfl) | (with_reducible exact trivial) | ((first | (refine XCall.ret how ?_) | (refine XCall.ret hth ?_)); conv => whnf) | (first | ((refine XFree.at 0 rfl ?_); (conv => whnf); exact XSame.mk rfl rfl) | ((refine XFree.at 1 rfl ?_); (conv => whnf); exact XSame.mk rfl rfl)) | fail
    · skip
      repeat' first | (with_reducible apply XAnd.mk) | ((first | (with_reducible apply Chk.go) | (with_reducible apply ChkF.go) | (with_reducible apply ChkB.go)); conv => whnf) | (exact XSame.mk rfl rfl) | (with_reducible exact trivial) | ((first | (refine XCall.ret how ?_) | (refine XCall.ret hth ?_)); conv => whnf) | (first | ((refine XFree.at 0 rfl ?_); (conv => whnf); exact XSame.mk rfl rfl) | ((refine XFree.at 1 rfl ?_); (conv => whnf); exact XSame.mk rfl rfl)) | fail
    conv => whnf
    repeat' first | ((with_reducible apply XBr.bne) <;> (intro h; first | (exfalso; omega) | (conv => whnf))) | ((first | (refine XCall.ret hck ?_) | (refine XCall.ret hSt ?_) | (refine XCall.ret hBe ?_) | (refine XCall.ret hTu ?_) | (refine XCall.ret hTo ?_) | (refine XCall.ret hSp ?_)); conv => whnf) | fail
    refine Walk.norm tab_ok [] [(3, _), (7, _), (9, _), (10, _), (11, _), (12, _), (13, _), (14, _), (15, _), (16, _), (17, _), (18, _), (19, _), (20, _), (21, _)] ⟨rfl, rfl, rfl, rfl, rfl, rfl, rfl, rfl, rfl, rfl, rfl, rfl, rfl, rfl, rfl, trivial⟩ ?_
    conv => whnf
    repeat' first | ((with_reducible apply XBr.tt); conv => whnf) | ((with_reducible apply XBr.beq) <;> (intro h; first | (exfalso; omega) | (conv => whnf))) | ((first | (refine XCall.ret hsa ?_) | (refine XCall.ret awake02_c ?_)); conv => whnf) | fail
    exact XOut.bool rfl
  have ok := snE_iff.1 h0
  have hL := wide_last ok hws
  have h1 := ok.h1; have b1 := ok.b1; have p2 := ok.p2; have l1 := ok.l1; have l2 := ok.l2
  have hal := allN_lt ok
  rw [h0] at hck
  have hrm := rMade_c s hb ok (by omega)
  have hac := rAll_c s (by have := ok.t2; omega)
  obtain ⟨P0, hP0⟩ : ∃ P0 : Nat, s.places = P0 := ⟨s.places.toNat, by omega⟩
  obtain ⟨L0, hL0⟩ : ∃ L0 : Nat, s.last = L0 := ⟨s.last.toNat, by omega⟩
  obtain ⟨n1, n2, hSt, hS1, hS3⟩ := starts_start s hb ok m
  obtain ⟨n3, n4, hTo, hO1, hO3⟩ := starts_told s hb ok m
  obtain ⟨n5, n6, n7, hSp, hP1, hP3⟩ := starts_spy s hb ok m
  obtain ⟨n8, n9, hTu, hT1, hT3⟩ := starts_turn s hb ok l
  have hBe := starts_best s hb ok
  obtain ⟨y1, hy1⟩ : ∃ y, y = bs1 (bstE s) := ⟨_, rfl⟩
  obtain ⟨y2, hy2⟩ : ∃ y, y = bs2 (bstE s) := ⟨_, rfl⟩
  obtain ⟨y3, hy3⟩ : ∃ y, y = bs3 (bstE s) := ⟨_, rfl⟩
  rw [← hy1, ← hy2, ← hy3] at hBe
  have hrt : Comp Tryz.prog 49 [rsA s, .int .i64 s.home] (rsA (tolS s s.home.toNat)) := by
    have := rTold_c s ok s.home.toNat (by omega)
    rw [show natA s.home.toNat = .int .i64 s.home by unfold natA; rw [Int.toNat_of_nonneg h1.1]] at this
    exact this
  have hTl : (wrT s).length ≤ 5 := by unfold wrT; rw [mkT_len]; omega
  refine Comp.body (T := tab) (res := [.tmp 6]) tab_ok [] Tryz.func6 rfl (by kernel_rfl) Tryz.ntmps6 rfl (by simp only [List.length_cons, List.length_nil]; decide) (by simp only [lowL, AV.low, snL]; rfl) ?_; conv => whnf
  repeat' first | ((first | (with_reducible apply XBr.ff) | (refine XCall.ret hgr ?_) | (refine XCall.ret hwd ?_)); conv => whnf) | fail
  refine Walk.place (Walk.place ?_)
  apply Walk.drawX tab_ok mixed_ok [] [4, 5, 6, 7] (fun fl => match fl with
    | [a, b, x, y] => [(bif a then .cells (bif x then snC (ownS s) else rsZ') else .free), (bif b then .cells (bif y then rsC s else rsZ') else .free)]
    | _ => []) [_, _, _, _, .ptr 0 0, .ptr 1 0, _, _] (by kernel_rfl) rfl
  · skip
    repeat' first | (with_reducible apply XAnd.mk) | ((first | (with_reducible apply Chk.go) | (with_reducible apply ChkA.go)); conv => whnf) | (exact XSame.mk rfl rfl) | (with_reducible exact trivial) | ((first | (refine XCall.ret how ?_) | (refine XCall.ret hth ?_)); conv => whnf) | (first | ((refine XFree.at 0 rfl ?_); (conv => whnf); exact XSame.mk rfl rfl) | ((refine XFree.at 1 rfl ?_); (conv => whnf); exact XSame.mk rfl rfl)) | fail
  · skip
    repeat' first | (with_reducible apply XAnd.mk) | ((first | (with_reducible apply Chk.go) | (with_reducible apply ChkF.go) | (with_reducible apply ChkB.go)); conv => whnf) | (exact XSame.mk rfl rfl) | (with_reducible exact trivial) | ((first | (refine XCall.ret how ?_) | (refine XCall.ret hth ?_)); conv => whnf) | (first | ((refine XFree.at 0 rfl ?_); (conv => whnf); exact XSame.mk rfl rfl) | ((refine XFree.at 1 rfl ?_); (conv => whnf); exact XSame.mk rfl rfl)) | fail
  conv => whnf
  repeat' first | ((with_reducible apply XBr.bne) <;> (intro h; first | (exfalso; omega) | (conv => whnf))) | ((first | (with_reducible refine XInt.i64 (by omega) (by omega) ?_) | (refine XCall.ret hck ?_) | (refine XCall.ret hSt ?_) | (refine XCall.ret hBe ?_) | (refine XCall.ret hTu ?_) | (refine XCall.ret hTo ?_) | (refine XCall.ret hSp ?_) | (refine XCall.ret hrm ?_)); conv => whnf) | fail
  refine Walk.loopK tab_ok [] [(1, _), (2, _), (3, _), (7, _), (8, _), (10, _), (11, _), (12, _), (13, _), (14, _), (15, _), (16, _), (17, _), (18, _), (19, _), (20, _), (21, _), (22, _), (144, _)] ⟨rfl, rfl, rfl, rfl, rfl, rfl, rfl, rfl, rfl, rfl, rfl, rfl, rfl, rfl, rfl, rfl, rfl, rfl, rfl, trivial⟩ (fun k : Nat => k ≤ L0 + 1) (fun k => [(9, .int .i64 (bs3 (bstK s k))), (23, .int .i64 (bs1 (bstK s k))), (24, .int .i64 (bs2 (bstK s k))), (145, natA k)]) (fun k => [.cells (snC (ownS s)), .cells (rsC s)]) (fun k => L0 + 1 - k) 0 (Nat.zero_le _) rfl ⟨rfl, rfl, rfl, rfl, trivial⟩ ?_
  intro k hk
  have hnx : bstK s (k + 1) = if (bstK s k).2 < startZ s k then (k, startZ s k) else bstK s k := rfl
  have hge := bstK_ge s k
  have hend : k = L0 + 1 → bstE s = bstK s k := fun h => by unfold bstE; rw [hL0, h]; rfl
  generalize bstK s k = bb at hnx hge hend
  obtain ⟨ba, bv⟩ := bb
  dsimp only at hnx hge
  obtain ⟨x9, hx9⟩ : ∃ x, x = bs3 (ba, bv) := ⟨_, rfl⟩
  obtain ⟨x23, hx23⟩ : ∃ x, x = bs1 (ba, bv) := ⟨_, rfl⟩
  obtain ⟨x24, hx24⟩ : ∃ x, x = bs2 (ba, bv) := ⟨_, rfl⟩
  rw [← hx9, ← hx23, ← hx24]
  conv => whnf
  by_cases hlt : k < L0 + 1
  · have hs1 := rStart_c s ok (by omega) k (by omega)
    have hz1 := startZ_lo (s := s) (m := k)
    generalize startZ s k = zz at hs1 hnx hz1
    have hq9 : bv = -1 → x9 = 6 := fun h => by rw [hx9]; exact if_pos h
    have hq24 : bv ≠ -1 → x24 = bv ∧ x9 = 0 := fun h => by rw [hx9, hx24]; exact ⟨if_neg h, if_neg h⟩
    by_cases hup : bv < zz
    · rw [if_pos hup] at hnx
      have hb3 : bs3 (bstK s (k + 1)) = 0 := by rw [hnx]; exact if_neg (show zz ≠ -1 by omega)
      have hb1 : bs1 (bstK s (k + 1)) = (k : Int) := by rw [hnx]; exact if_neg (show zz ≠ -1 by omega)
      have hb2 : bs2 (bstK s (k + 1)) = zz := by rw [hnx]; exact if_neg (show zz ≠ -1 by omega)
      by_cases hv1 : bv = -1
      · have := hq9 hv1
        repeat' first | ((with_reducible apply XBr.tt); conv => whnf) | ((with_reducible apply XBr.dec) <;> (intro h; first | (exfalso; omega) | ((try simp only [List.length_map] at h); first | (exfalso; omega) | (conv => whnf)))) | ((with_reducible apply XBr.bne) <;> (intro h; first | (exfalso; omega) | (conv => whnf))) | ((first | (with_reducible refine XInt.i64 (by omega) (by omega) ?_) | (refine XCall.ret hs1 ?_)); conv => whnf) | fail
        all_goals exact XAgain.go (k + 1) (by omega) (by omega) rfl ⟨rfl, rfl, rfl, rfl, rfl, rfl, rfl, rfl, rfl, rfl, rfl, rfl, rfl, rfl, rfl, rfl, rfl, rfl, rfl, (by rw [hb3]; rfl), (by rw [hb1]; rfl), (by rw [hb2]; rfl), rfl, trivial⟩
      · have := hq24 hv1
        repeat' first | ((first | (with_reducible apply XBr.tt) | (with_reducible apply XBr.ff)); conv => whnf) | ((with_reducible apply XBr.dec) <;> (intro h; first | (exfalso; omega) | ((try simp only [List.length_map] at h); first | (exfalso; omega) | (conv => whnf)))) | ((with_reducible apply XBr.bne) <;> (intro h; first | (exfalso; omega) | (conv => whnf))) | ((first | (with_reducible refine XInt.i64 (by omega) (by omega) ?_) | (refine XCall.ret hs1 ?_)); conv => whnf) | fail
        all_goals exact XAgain.go (k + 1) (by omega) (by omega) rfl ⟨rfl, rfl, rfl, rfl, rfl, rfl, rfl, rfl, rfl, rfl, rfl, rfl, rfl, rfl, rfl, rfl, rfl, rfl, rfl, (by rw [hb3]; rfl), (by rw [hb1]; rfl), (by rw [hb2]; rfl), rfl, trivial⟩
    · rw [if_neg hup] at hnx
      by_cases hv1 : bv = -1
      · have := hq9 hv1
        repeat' first | ((with_reducible apply XBr.ff); conv => whnf) | ((with_reducible apply XBr.dec) <;> (intro h; first | (exfalso; omega) | ((try simp only [List.length_map] at h); first | (exfalso; omega) | (conv => whnf)))) | ((first | (with_reducible refine XInt.i64 (by omega) (by omega) ?_) | (refine XCall.ret hs1 ?_)); conv => whnf) | fail
        all_goals exact XAgain.go (k + 1) (by omega) (by omega) rfl ⟨rfl, rfl, rfl, rfl, rfl, rfl, rfl, rfl, rfl, rfl, rfl, rfl, rfl, rfl, rfl, rfl, rfl, rfl, rfl, (by rw [hnx, ← hx9]; rfl), (by rw [hnx, ← hx23]; rfl), (by rw [hnx, ← hx24]; rfl), rfl, trivial⟩
      · have := hq24 hv1
        repeat' first | ((first | (with_reducible apply XBr.tt) | (with_reducible apply XBr.ff)); conv => whnf) | ((with_reducible apply XBr.dec) <;> (intro h; first | (exfalso; omega) | ((try simp only [List.length_map] at h); first | (exfalso; omega) | (conv => whnf)))) | ((with_reducible apply XBr.bne) <;> (intro h; first | (exfalso; omega) | (conv => whnf))) | ((first | (with_reducible refine XInt.i64 (by omega) (by omega) ?_) | (refine XCall.ret hs1 ?_)); conv => whnf) | fail
        all_goals exact XAgain.go (k + 1) (by omega) (by omega) rfl ⟨rfl, rfl, rfl, rfl, rfl, rfl, rfl, rfl, rfl, rfl, rfl, rfl, rfl, rfl, rfl, rfl, rfl, rfl, rfl, (by rw [hnx, ← hx9]; rfl), (by rw [hnx, ← hx23]; rfl), (by rw [hnx, ← hx24]; rfl), rfl, trivial⟩
  have hend := hend (by omega)
  rw [hend] at hy1 hy2 hy3
  obtain rfl : x9 = y3 := hx9.trans hy3.symm
  obtain rfl : x23 = y1 := hx23.trans hy1.symm
  obtain rfl : x24 = y2 := hx24.trans hy2.symm
  clear hnx hge hend hx9 hx23 hx24 hy1 hy2 hy3
  obtain rfl : k = L0 + 1 := by omega
  by_cases hl : 1 ≤ l ∧ l ≤ allN s
  rotate_left
  · obtain ⟨hn8, hn9⟩ := hT3 hl
    by_cases hl1 : 1 ≤ l
    all_goals
      by_cases hm : ¬ (0 ≤ m ∧ m ≤ s.last)
      · obtain ⟨hn1, hn2⟩ := hS3 hm
        obtain ⟨hn3, hn4⟩ := hO3 hm
        obtain ⟨hn5, hn6, hn7⟩ := hP3 hm
        repeat' first | ((first | (with_reducible apply XBr.tt) | (with_reducible apply XBr.ff)); conv => whnf) | ((with_reducible apply XBr.dec) <;> (intro h; first | (exfalso; omega) | ((try simp only [List.length_map] at h); first | (exfalso; omega) | (conv => whnf)))) | ((with_reducible apply XBr.bne) <;> (intro h; first | (exfalso; omega) | (conv => whnf))) | ((refine XCall.ret hac ?_); conv => whnf) | fail
        all_goals
          refine Walk.norm tab_ok [] [(3, _), (7, _), (10, _), (11, _), (17, _), (18, _), (19, _), (20, _), (21, _)] ⟨rfl, rfl, rfl, rfl, rfl, rfl, rfl, rfl, rfl, trivial⟩ ?_
          conv => whnf
          repeat' first | ((with_reducible apply XBr.tt); conv => whnf) | ((with_reducible apply XBr.beq) <;> (intro h; first | (exfalso; omega) | (conv => whnf))) | ((first | (refine XCall.ret hsa ?_) | (refine XCall.ret awake02_c ?_)); conv => whnf) | fail
          exact XOut.bool rfl
      have hm := Classical.not_not.1 hm
      have hmn : natA m.toNat = AV.int .i64 m := by unfold natA; rw [Int.toNat_of_nonneg hm.1]
      obtain ⟨hn1, hn2⟩ := hS1 hm
      obtain ⟨hn3, hn4⟩ := hO1 hm
      obtain ⟨hn5, hn6, hn7⟩ := hP1 hm
      have hst := rStart_c s ok (by omega) m.toNat (by omega)
      have hst2 := rStart_c (tolS s s.home.toNat) (tol_ok ok (by omega)) (by show s.last ≤ 59; omega) m.toNat (by show _ ≤ s.last; omega)
      have hmt2 := rMade_c (tolS s s.home.toNat) (tol_B hb _) (tol_ok ok (by omega)) (by show s.last ≤ 59; omega)
      rw [hmn, ← hn1] at hst
      rw [hmn, ← hn3] at hst2
      repeat' first | ((first | (with_reducible apply XBr.tt) | (with_reducible apply XBr.ff)); conv => whnf) | ((with_reducible apply XBr.dec) <;> (intro h; first | (exfalso; omega) | ((try simp only [List.length_map] at h); first | (exfalso; omega) | (conv => whnf)))) | ((with_reducible apply XBr.bne) <;> (intro h; first | (exfalso; omega) | (conv => whnf))) | (with_reducible apply XAnd.mk) | ((first | (with_reducible apply Chk.go) | (with_reducible apply ChkA.go) | (with_reducible apply ChkF.go) | (with_reducible apply ChkB.go)); conv => whnf) | (exact XSame.mk rfl rfl) | (with_reducible exact trivial) | (apply Walk.drawN (id := 39) tab_ok mixed_ok [] [] (hsU _) [_, _, _, _, _, _, _, _, _, _, _, _, _, _, _, _, _, _, _, _, _, _, _, _, _, _, _] (by kernel_rfl) rfl) | ((first | (with_reducible apply XNext.mk) | (refine XCall.ret hac ?_) | (refine XCall.ret hrt ?_) | (refine XCall.ret hst ?_) | (refine XCall.ret hst2 ?_) | (refine XCall.ret hmt2 ?_)); conv => whnf) | fail
      refine Walk.loopGK tab_ok [] [(1, _), (3, _), (7, _), (8, _), (19, _), (20, _), (291, _)] ⟨rfl, rfl, rfl, rfl, rfl, rfl, rfl, trivial⟩ (fun k : Nat => k ≤ P0) (fun k => [(30, .int .i64 (spyK s m.toNat k).1), (31, .int .i64 (spyK s m.toNat k).2), (292, natA k)]) (fun k => [.cells (snC (ownS s)), .cells (rsC s), .cells (rsC (tolS s s.home.toNat))]) (fun k => P0 - k) 0 (Nat.zero_le _) rfl ⟨rfl, rfl, rfl, trivial⟩ ?_ (fun _ _ => (show (3 : Nat) ≤ 3 from Nat.le_refl 3)) ?_
      · intro k _
        refine ⟨fun z hz => ?_, fun z hz => ?_⟩
        · simp only [List.mem_cons, List.not_mem_nil, or_false] at hz
          rcases hz with rfl | rfl | rfl <;> first | exact snCL _ | exact rsCL _
        · simp only [List.cons_append, List.nil_append, List.mem_cons, List.not_mem_nil, or_false] at hz
          rcases hz with rfl | rfl | rfl | rfl | rfl | rfl | rfl | rfl | rfl | rfl <;> first | rfl | exact snCL _
      intro k hk
      have hnx : spyK s m.toNat (k + 1) = if (k : Int) = s.home then spyK s m.toNat k else if (spyK s m.toNat k).1 = -1 ∨ (spyK s m.toNat k).2 < startZ (tolS s k) m.toNat then ((k : Int), startZ (tolS s k) m.toNat) else spyK s m.toNat k := rfl
      have hge := spyK_ge s m.toNat k
      have hend : k = P0 → spyE s m.toNat = spyK s m.toNat k := fun h => by unfold spyE; rw [hP0, h]; rfl
      generalize spyK s m.toNat k = bb at hnx hge hend
      obtain ⟨ba, bv⟩ := bb
      dsimp only at hnx hge ⊢
      conv => whnf
      by_cases hltp : k < P0
      · have hrt2 := rTold_c s ok k (by omega)
        have hst3 := rStart_c (tolS s k) (tol_ok ok (by omega)) (by show s.last ≤ 59; omega) m.toNat (by show _ ≤ s.last; omega)
        have hmt3 := rMade_c (tolS s k) (tol_B hb _) (tol_ok ok (by omega)) (by show s.last ≤ 59; omega)
        rw [hmn] at hst3
        generalize startZ (tolS s k) m.toNat = zz at hst3 hnx
        by_cases hkh : (k : Int) = s.home
        · rw [if_pos hkh] at hnx
          repeat' first | ((with_reducible apply XBr.ff); conv => whnf) | ((with_reducible apply XBr.dec) <;> (intro h; first | (exfalso; omega) | ((try simp only [List.length_map] at h); first | (exfalso; omega) | (conv => whnf)))) | ((with_reducible apply XBr.bne) <;> (intro h; first | (exfalso; omega) | (conv => whnf))) | ((with_reducible refine XInt.i64 (by omega) (by omega) ?_); conv => whnf) | (with_reducible apply XAnd.mk) | ((first | (with_reducible apply Chk.go) | (with_reducible apply ChkA.go) | (with_reducible apply ChkF.go) | (with_reducible apply ChkB.go)); conv => whnf) | (exact XSame.mk rfl rfl) | (with_reducible exact trivial) | (apply Walk.drawN (id := 46) tab_ok mixed_ok [] [] (hsU _) [_, _, _, _, _, _] (by kernel_rfl) rfl) | ((first | (with_reducible apply XNext.mk) | (refine XCall.ret hrt2 ?_) | (refine XCall.ret hst3 ?_) | (refine XCall.ret hmt3 ?_)); conv => whnf) | fail
          exact XAgainG.go (k + 1) [.cells (rsC (tolS s k))] (by omega) (by omega) rfl ⟨rfl, rfl, rfl, rfl, rfl, rfl, rfl, (by rw [hnx]; rfl), (by rw [hnx]; rfl), rfl, trivial⟩
        rw [if_neg hkh] at hnx
        by_cases hup : ba = -1 ∨ bv < zz
        · rw [if_pos hup] at hnx
          repeat' first | ((first | (with_reducible apply XBr.tt) | (with_reducible apply XBr.ff)); conv => whnf) | ((with_reducible apply XBr.dec) <;> (intro h; first | (exfalso; omega) | ((try simp only [List.length_map] at h); first | (exfalso; omega) | (conv => whnf)))) | ((with_reducible apply XBr.bne) <;> (intro h; first | (exfalso; omega) | (conv => whnf))) | ((with_reducible refine XInt.i64 (by omega) (by omega) ?_); conv => whnf) | (with_reducible apply XAnd.mk) | ((first | (with_reducible apply Chk.go) | (with_reducible apply ChkA.go) | (with_reducible apply ChkF.go) | (with_reducible apply ChkB.go)); conv => whnf) | (exact XSame.mk rfl rfl) | (with_reducible exact trivial) | (apply Walk.drawN (id := 46) tab_ok mixed_ok [] [] (hsU _) [_, _, _, _, _, _] (by kernel_rfl) rfl) | ((first | (with_reducible apply XNext.mk) | (refine XCall.ret hrt2 ?_) | (refine XCall.ret hst3 ?_) | (refine XCall.ret hmt3 ?_)); conv => whnf) | fail
          all_goals exact XAgainG.go (k + 1) [.cells (rsC (tolS s k))] (by omega) (by omega) rfl ⟨rfl, rfl, rfl, rfl, rfl, rfl, rfl, (by rw [hnx]; rfl), (by rw [hnx]; rfl), rfl, trivial⟩
        · rw [if_neg hup] at hnx
          repeat' first | ((first | (with_reducible apply XBr.tt) | (with_reducible apply XBr.ff)); conv => whnf) | ((with_reducible apply XBr.dec) <;> (intro h; first | (exfalso; omega) | ((try simp only [List.length_map] at h); first | (exfalso; omega) | (conv => whnf)))) | ((with_reducible apply XBr.bne) <;> (intro h; first | (exfalso; omega) | (conv => whnf))) | ((with_reducible refine XInt.i64 (by omega) (by omega) ?_); conv => whnf) | (with_reducible apply XAnd.mk) | ((first | (with_reducible apply Chk.go) | (with_reducible apply ChkA.go) | (with_reducible apply ChkF.go) | (with_reducible apply ChkB.go)); conv => whnf) | (exact XSame.mk rfl rfl) | (with_reducible exact trivial) | (apply Walk.drawN (id := 46) tab_ok mixed_ok [] [] (hsU _) [_, _, _, _, _, _] (by kernel_rfl) rfl) | ((first | (with_reducible apply XNext.mk) | (refine XCall.ret hrt2 ?_) | (refine XCall.ret hst3 ?_) | (refine XCall.ret hmt3 ?_)); conv => whnf) | fail
          all_goals exact XAgainG.go (k + 1) [.cells (rsC (tolS s k))] (by omega) (by omega) rfl ⟨rfl, rfl, rfl, rfl, rfl, rfl, rfl, (by rw [hnx]; rfl), (by rw [hnx]; rfl), rfl, trivial⟩
      have hend := hend (by omega)
      rw [hend] at hn5 hn6
      dsimp only at hn5 hn6
      repeat' first | ((with_reducible apply XBr.tt); conv => whnf) | ((with_reducible apply XBr.dec) <;> (intro h; first | (exfalso; omega) | ((try simp only [List.length_map] at h); first | (exfalso; omega) | (conv => whnf)))) | ((with_reducible apply XBr.beq) <;> (intro h; first | (exfalso; omega) | (conv => whnf))) | ((first | (refine XCall.ret hsa ?_) | (refine XCall.ret awake02_c ?_)); conv => whnf) | fail
      exact XOut.bool rfl
  obtain ⟨hn8, hn9⟩ := hT1 hl
  repeat' first | ((first | (with_reducible apply XBr.tt) | (with_reducible apply XBr.ff)); conv => whnf) | ((with_reducible apply XBr.dec) <;> (intro h; first | (exfalso; omega) | ((try simp only [List.length_map] at h); first | (exfalso; omega) | (conv => whnf)))) | ((with_reducible apply XBr.bne) <;> (intro h; first | (exfalso; omega) | (conv => whnf))) | ((first | (with_reducible refine XInt.i64 (by omega) (by omega) ?_) | (refine XCall.ret hac ?_)); conv => whnf) | fail
  refine Walk.loopK tab_ok [] [(1, _), (2, _), (3, _), (7, _), (8, _), (10, _), (11, _), (15, _), (16, _), (17, _), (18, _), (19, _), (20, _), (21, _), (22, _), (189, _)] ⟨rfl, rfl, rfl, rfl, rfl, rfl, rfl, rfl, rfl, rfl, rfl, rfl, rfl, rfl, rfl, rfl, trivial⟩ (fun k : Nat => k ≤ L0 + 1) (fun k => [(9, .int .i64 (oE (lstK s l.toNat k))), (27, .int .i64 (oN (lstK s l.toNat k))), (190, natA k)]) (fun k => [.cells (snC (ownS s)), .cells (rsC s)]) (fun k => L0 + 1 - k) 0 (Nat.zero_le _) rfl ⟨rfl, rfl, rfl, trivial⟩ ?_
  intro k hk
  have hnx : lstK s l.toNat (k + 1) = if 0 ≤ worthZ s ⟨s.bed.toNat, k, l.toNat⟩ then some k else lstK s l.toNat k := rfl
  have hend : k = L0 + 1 → lstK s l.toNat (s.last.toNat + 1) = lstK s l.toNat k := fun h => by rw [hL0, h]; rfl
  generalize lstK s l.toNat k = oo at hnx hend
  obtain ⟨x9, hx9⟩ : ∃ x, x = oE oo := ⟨_, rfl⟩
  obtain ⟨x27, hx27⟩ : ∃ x, x = oN oo := ⟨_, rfl⟩
  rw [← hx9, ← hx27]
  conv => whnf
  by_cases hlt : k < L0 + 1
  · have hv : vld s ⟨s.bed.toNat, k, l.toNat⟩ := ⟨by show ((s.bed.toNat : Nat) : Int) < s.places; omega, by show (k : Int) ≤ s.last; omega, by show l.toNat ≤ allN s; omega⟩
    obtain ⟨g1, g2, g3, -, -⟩ := (wrT_ok ok (by omega)).at hv
    have hw := wrT_at ok hv
    dsimp only at g1 g2 g3
    have hw2 : worthZ s ⟨s.bed.toNat, k, l.toNat⟩ = (((wrT s).getD s.bed.toNat default).2.getD k default).2.getD l.toNat default := hw.symm
    rw [hw2] at hnx
    have e2 : (((wrT s).map rsT).length : Int) = (wrT s).length := by rw [List.length_map]
    have e3 : ((((wrT s).getD s.bed.toNat default).2.map rwA).length : Int) = ((wrT s).getD s.bed.toNat default).2.length := by rw [List.length_map]
    have e4 : ((ints (((wrT s).getD s.bed.toNat default).2.getD k default).2).length : Int) = (((wrT s).getD s.bed.toNat default).2.getD k default).2.length := by rw [ints_len]
    by_cases hup : 0 ≤ (((wrT s).getD s.bed.toNat default).2.getD k default).2.getD l.toNat default
    · rw [if_pos hup] at hnx
      repeat' first | ((with_reducible apply XBr.dec) <;> (intro h; first | (exfalso; omega) | ((try simp only [List.length_map] at h); first | (exfalso; omega) | (conv => whnf)))) | ((first | (with_reducible refine XInt.i64 (by omega) (by omega) ?_) | ((with_reducible refine XIx.nat ?_ ?_ ?_); omega; (intro _; rfl)) | ((with_reducible refine XIx.map ?_ ?_ ?_ ?_); omega; omega; (intro _; rfl))); conv => whnf) | fail
      exact XAgain.go (k + 1) (by omega) (by omega) rfl ⟨rfl, rfl, rfl, rfl, rfl, rfl, rfl, rfl, rfl, rfl, rfl, rfl, rfl, rfl, rfl, rfl, (by rw [hnx]; rfl), (by rw [hnx]; rfl), rfl, trivial⟩
    · rw [if_neg hup] at hnx
      repeat' first | ((with_reducible apply XBr.dec) <;> (intro h; first | (exfalso; omega) | ((try simp only [List.length_map] at h); first | (exfalso; omega) | (conv => whnf)))) | ((first | (with_reducible refine XInt.i64 (by omega) (by omega) ?_) | ((with_reducible refine XIx.nat ?_ ?_ ?_); omega; (intro _; rfl)) | ((with_reducible refine XIx.map ?_ ?_ ?_ ?_); omega; omega; (intro _; rfl))); conv => whnf) | fail
      exact XAgain.go (k + 1) (by omega) (by omega) rfl ⟨rfl, rfl, rfl, rfl, rfl, rfl, rfl, rfl, rfl, rfl, rfl, rfl, rfl, rfl, rfl, rfl, (by rw [hnx, ← hx9]; rfl), (by rw [hnx, ← hx27]; rfl), rfl, trivial⟩
  have hend := hend (by omega)
  rw [hend] at hn8 hn9
  obtain rfl : x9 = n9 := hx9.trans hn9.symm
  obtain rfl : x27 = n8 := hx27.trans hn8.symm
  clear hnx hend hx9 hx27 hn8 hn9
  by_cases hm : ¬ (0 ≤ m ∧ m ≤ s.last)
  · obtain ⟨hn1, hn2⟩ := hS3 hm
    obtain ⟨hn3, hn4⟩ := hO3 hm
    obtain ⟨hn5, hn6, hn7⟩ := hP3 hm
    repeat' first | ((first | (with_reducible apply XBr.tt) | (with_reducible apply XBr.ff)); conv => whnf) | ((with_reducible apply XBr.dec) <;> (intro h; first | (exfalso; omega) | ((try simp only [List.length_map] at h); first | (exfalso; omega) | (conv => whnf)))) | ((with_reducible apply XBr.bne) <;> (intro h; first | (exfalso; omega) | (conv => whnf))) | fail
    all_goals
      refine Walk.norm tab_ok [] [(3, _), (7, _), (10, _), (11, _), (17, _), (18, _), (19, _), (20, _), (21, _)] ⟨rfl, rfl, rfl, rfl, rfl, rfl, rfl, rfl, rfl, trivial⟩ ?_
      conv => whnf
      repeat' first | ((with_reducible apply XBr.tt); conv => whnf) | ((with_reducible apply XBr.beq) <;> (intro h; first | (exfalso; omega) | (conv => whnf))) | ((first | (refine XCall.ret hsa ?_) | (refine XCall.ret awake02_c ?_)); conv => whnf) | fail
      exact XOut.bool rfl
  have hm := Classical.not_not.1 hm
  have hmn : natA m.toNat = AV.int .i64 m := by unfold natA; rw [Int.toNat_of_nonneg hm.1]
  obtain ⟨hn1, hn2⟩ := hS1 hm
  obtain ⟨hn3, hn4⟩ := hO1 hm
  obtain ⟨hn5, hn6, hn7⟩ := hP1 hm
  have hst := rStart_c s ok (by omega) m.toNat (by omega)
  have hst2 := rStart_c (tolS s s.home.toNat) (tol_ok ok (by omega)) (by show s.last ≤ 59; omega) m.toNat (by show _ ≤ s.last; omega)
  have hmt2 := rMade_c (tolS s s.home.toNat) (tol_B hb _) (tol_ok ok (by omega)) (by show s.last ≤ 59; omega)
  rw [hmn, ← hn1] at hst
  rw [hmn, ← hn3] at hst2
  repeat' first | ((with_reducible apply XBr.ff); conv => whnf) | ((with_reducible apply XBr.dec) <;> (intro h; first | (exfalso; omega) | ((try simp only [List.length_map] at h); first | (exfalso; omega) | (conv => whnf)))) | ((with_reducible apply XBr.bne) <;> (intro h; first | (exfalso; omega) | (conv => whnf))) | (with_reducible apply XAnd.mk) | ((first | (with_reducible apply Chk.go) | (with_reducible apply ChkA.go) | (with_reducible apply ChkF.go) | (with_reducible apply ChkB.go)); conv => whnf) | (exact XSame.mk rfl rfl) | (with_reducible exact trivial) | (apply Walk.drawN (id := 39) tab_ok mixed_ok [] [] (hsU _) [_, _, _, _, _, _, _, _, _, _, _, _, _, _, _, _, _, _, _, _, _, _, _, _, _, _, _] (by kernel_rfl) rfl) | ((first | (with_reducible apply XNext.mk) | (refine XCall.ret hrt ?_) | (refine XCall.ret hst ?_) | (refine XCall.ret hst2 ?_) | (refine XCall.ret hmt2 ?_)); conv => whnf) | fail
  refine Walk.loopGK tab_ok [] [(1, _), (3, _), (7, _), (8, _), (19, _), (20, _), (291, _)] ⟨rfl, rfl, rfl, rfl, rfl, rfl, rfl, trivial⟩ (fun k : Nat => k ≤ P0) (fun k => [(30, .int .i64 (spyK s m.toNat k).1), (31, .int .i64 (spyK s m.toNat k).2), (292, natA k)]) (fun k => [.cells (snC (ownS s)), .cells (rsC s), .cells (rsC (tolS s s.home.toNat))]) (fun k => P0 - k) 0 (Nat.zero_le _) rfl ⟨rfl, rfl, rfl, trivial⟩ ?_ (fun _ _ => (show (3 : Nat) ≤ 3 from Nat.le_refl 3)) ?_
  · intro k _
    refine ⟨fun z hz => ?_, fun z hz => ?_⟩
    · simp only [List.mem_cons, List.not_mem_nil, or_false] at hz
      rcases hz with rfl | rfl | rfl <;> first | exact snCL _ | exact rsCL _
    · simp only [List.cons_append, List.nil_append, List.mem_cons, List.not_mem_nil, or_false] at hz
      rcases hz with rfl | rfl | rfl | rfl | rfl | rfl | rfl | rfl | rfl | rfl <;> first | rfl | exact snCL _
  intro k hk
  have hnx : spyK s m.toNat (k + 1) = if (k : Int) = s.home then spyK s m.toNat k else if (spyK s m.toNat k).1 = -1 ∨ (spyK s m.toNat k).2 < startZ (tolS s k) m.toNat then ((k : Int), startZ (tolS s k) m.toNat) else spyK s m.toNat k := rfl
  have hge := spyK_ge s m.toNat k
  have hend : k = P0 → spyE s m.toNat = spyK s m.toNat k := fun h => by unfold spyE; rw [hP0, h]; rfl
  generalize spyK s m.toNat k = bb at hnx hge hend
  obtain ⟨ba, bv⟩ := bb
  dsimp only at hnx hge ⊢
  conv => whnf
  by_cases hltp : k < P0
  · have hrt2 := rTold_c s ok k (by omega)
    have hst3 := rStart_c (tolS s k) (tol_ok ok (by omega)) (by show s.last ≤ 59; omega) m.toNat (by show _ ≤ s.last; omega)
    have hmt3 := rMade_c (tolS s k) (tol_B hb _) (tol_ok ok (by omega)) (by show s.last ≤ 59; omega)
    rw [hmn] at hst3
    generalize startZ (tolS s k) m.toNat = zz at hst3 hnx
    by_cases hkh : (k : Int) = s.home
    · rw [if_pos hkh] at hnx
      repeat' first | ((with_reducible apply XBr.ff); conv => whnf) | ((with_reducible apply XBr.dec) <;> (intro h; first | (exfalso; omega) | ((try simp only [List.length_map] at h); first | (exfalso; omega) | (conv => whnf)))) | ((with_reducible apply XBr.bne) <;> (intro h; first | (exfalso; omega) | (conv => whnf))) | ((with_reducible refine XInt.i64 (by omega) (by omega) ?_); conv => whnf) | (with_reducible apply XAnd.mk) | ((first | (with_reducible apply Chk.go) | (with_reducible apply ChkA.go) | (with_reducible apply ChkF.go) | (with_reducible apply ChkB.go)); conv => whnf) | (exact XSame.mk rfl rfl) | (with_reducible exact trivial) | (apply Walk.drawN (id := 46) tab_ok mixed_ok [] [] (hsU _) [_, _, _, _, _, _] (by kernel_rfl) rfl) | ((first | (with_reducible apply XNext.mk) | (refine XCall.ret hrt2 ?_) | (refine XCall.ret hst3 ?_) | (refine XCall.ret hmt3 ?_)); conv => whnf) | fail
      exact XAgainG.go (k + 1) [.cells (rsC (tolS s k))] (by omega) (by omega) rfl ⟨rfl, rfl, rfl, rfl, rfl, rfl, rfl, (by rw [hnx]; rfl), (by rw [hnx]; rfl), rfl, trivial⟩
    rw [if_neg hkh] at hnx
    by_cases hup : ba = -1 ∨ bv < zz
    · rw [if_pos hup] at hnx
      repeat' first | ((first | (with_reducible apply XBr.tt) | (with_reducible apply XBr.ff)); conv => whnf) | ((with_reducible apply XBr.dec) <;> (intro h; first | (exfalso; omega) | ((try simp only [List.length_map] at h); first | (exfalso; omega) | (conv => whnf)))) | ((with_reducible apply XBr.bne) <;> (intro h; first | (exfalso; omega) | (conv => whnf))) | ((with_reducible refine XInt.i64 (by omega) (by omega) ?_); conv => whnf) | (with_reducible apply XAnd.mk) | ((first | (with_reducible apply Chk.go) | (with_reducible apply ChkA.go) | (with_reducible apply ChkF.go) | (with_reducible apply ChkB.go)); conv => whnf) | (exact XSame.mk rfl rfl) | (with_reducible exact trivial) | (apply Walk.drawN (id := 46) tab_ok mixed_ok [] [] (hsU _) [_, _, _, _, _, _] (by kernel_rfl) rfl) | ((first | (with_reducible apply XNext.mk) | (refine XCall.ret hrt2 ?_) | (refine XCall.ret hst3 ?_) | (refine XCall.ret hmt3 ?_)); conv => whnf) | fail
      all_goals exact XAgainG.go (k + 1) [.cells (rsC (tolS s k))] (by omega) (by omega) rfl ⟨rfl, rfl, rfl, rfl, rfl, rfl, rfl, (by rw [hnx]; rfl), (by rw [hnx]; rfl), rfl, trivial⟩
    · rw [if_neg hup] at hnx
      repeat' first | ((first | (with_reducible apply XBr.tt) | (with_reducible apply XBr.ff)); conv => whnf) | ((with_reducible apply XBr.dec) <;> (intro h; first | (exfalso; omega) | ((try simp only [List.length_map] at h); first | (exfalso; omega) | (conv => whnf)))) | ((with_reducible apply XBr.bne) <;> (intro h; first | (exfalso; omega) | (conv => whnf))) | ((with_reducible refine XInt.i64 (by omega) (by omega) ?_); conv => whnf) | (with_reducible apply XAnd.mk) | ((first | (with_reducible apply Chk.go) | (with_reducible apply ChkA.go) | (with_reducible apply ChkF.go) | (with_reducible apply ChkB.go)); conv => whnf) | (exact XSame.mk rfl rfl) | (with_reducible exact trivial) | (apply Walk.drawN (id := 46) tab_ok mixed_ok [] [] (hsU _) [_, _, _, _, _, _] (by kernel_rfl) rfl) | ((first | (with_reducible apply XNext.mk) | (refine XCall.ret hrt2 ?_) | (refine XCall.ret hst3 ?_) | (refine XCall.ret hmt3 ?_)); conv => whnf) | fail
      all_goals exact XAgainG.go (k + 1) [.cells (rsC (tolS s k))] (by omega) (by omega) rfl ⟨rfl, rfl, rfl, rfl, rfl, rfl, rfl, (by rw [hnx]; rfl), (by rw [hnx]; rfl), rfl, trivial⟩
  have hend := hend (by omega)
  rw [hend] at hn5 hn6
  dsimp only at hn5 hn6
  repeat' first | ((with_reducible apply XBr.tt); conv => whnf) | ((with_reducible apply XBr.dec) <;> (intro h; first | (exfalso; omega) | ((try simp only [List.length_map] at h); first | (exfalso; omega) | (conv => whnf)))) | ((with_reducible apply XBr.beq) <;> (intro h; first | (exfalso; omega) | (conv => whnf))) | ((first | (refine XCall.ret hsa ?_) | (refine XCall.ret awake02_c ?_)); conv => whnf) | fail
  exact XOut.bool rfl
end GA
end
