/- Part 7 of a proof: F38, F39, F40. -/
import Derived.Test.YtmeankpoalkloaaGreatP6
section
namespace GA
open Go Go.RowKit Go.Proofs
set_option pp.deepTerms true
set_option maxRecDepth 8000
set_option linter.unusedVariables false
set_option linter.unusedSimpArgs false

theorem rNumber_c (s : Sn) (nt : Bool) (T : List Rs) (h : TbOk s T) (y : Sta) (hy : vld s y) : Comp Tryz.prog 101 [.sl nt (T.map rsT), staA y] (.int .i64 (tbN T y)) := by
  obtain ⟨h1, h2, h3, h4, h5⟩ := h.at hy
  have e1 : ((T.map rsT).length : Int) = T.length := by rw [List.length_map]
  have e2 : (((T.getD y.p default).2.map rwA).length : Int) = (T.getD y.p default).2.length := by rw [List.length_map]
  have e3 : ((ints ((T.getD y.p default).2.getD y.m default).2).length : Int) = ((T.getD y.p default).2.getD y.m default).2.length := by rw [ints_len]
  refine Comp.body (T := tab) (res := [.tmp 4]) tab_ok [] Tryz.func101 rfl (by kernel_rfl) Tryz.ntmps101 rfl (by simp only [List.length_cons, List.length_nil]; decide) (by simp only [lowL, AV.low, staL, lowRs]; rfl) ?_; conv => whnf
  repeat' first | (((with_reducible refine XIx.nat ?_ ?_ ?_); omega; (intro _; rfl)); conv => whnf) | (with_reducible apply XAnd.mk) | ((first | (with_reducible apply Chk.go) | (with_reducible apply ChkA.go) | (with_reducible apply ChkF.go) | (with_reducible apply ChkB.go)); conv => whnf) | (exact XSame.mk rfl rfl) | (with_reducible exact trivial) | (apply Walk.drawN (id := 1) tab_ok mixed_ok [] [] (hsU _) [_, _, _, _, _, _, _, _, _, _, _, _, _, _] (by kernel_rfl) rfl) | ((with_reducible apply XNext.mk); conv => whnf) | fail
  exact XOut.int rfl
def mnK (f : Sta → Int) (l : List Sta) : Int := if l.isEmpty = true then -1 else minL f l
theorem mnK_next (f : Sta → Int) (l : List Sta) (y : Sta) : mnK f (l ++ [y]) = if l.isEmpty = true ∨ f y < mnK f l then f y else mnK f l := by
  cases l with
  | nil => rw [if_pos (.inl rfl)]; rfl
  | cons x l =>
    have h1 : mnK f (x :: l) = minL f (x :: l) := if_neg (by simp)
    have h2 : mnK f (x :: l ++ [y]) = min (minL f (x :: l)) (f y) := by
      rw [mnK, if_neg (by simp)]
      show (l ++ [y]).foldl (fun n y => min n (f y)) (f x) = _
      rw [List.foldl_append]; rfl
    rw [h1, h2]
    by_cases h : f y < minL f (x :: l)
    · rw [if_pos (.inr h)]; omega
    · rw [if_neg (by simp [h])]; omega
theorem rGives_c (s : Sn) (hb : SnB s) (ok : SnOk s) (nt : Bool) (T : List Rs) (hT : TbOk s T) (x : Sta) (hx : StOk s x) (hxl : x.l ≤ allN s) (t : Int × Int) (y0 : Sta) (l0 : List Sta) (ha : afterS s x t = y0 :: l0) :
    Comp Tryz.prog 41 [rsA s, .sl nt (T.map rsT), staA x, sgA t] (.int .i64 (gainZ s (tbN T) x t)) := by
  have hra := rAfter_c s hb ok x hx hxl t
  have hvy := fun y (hy : y ∈ afterS s x t) => afterS_vld ok hy
  have hal := afterS_len s x t
  rw [gain_eq]
  rw [ha] at hra hvy hal ⊢
  have hne : y0 :: l0 ≠ [] := List.cons_ne_nil _ _
  have hpos : 0 < (y0 :: l0).length := by simp
  generalize hl : y0 :: l0 = l at hra hvy hal hne hpos
  have hie : l.isEmpty = false := by rw [← hl]; rfl
  have hmm := minL_mem (f := tbN T) hne
  have hra' : Comp Tryz.prog 17 [rsA s, staA x, sgA t] (.sl false (l.map staA)) := by rw [← hl] at hra ⊢; exact hra
  have e1 : ((l.map staA).length : Int) = l.length := by rw [List.length_map]
  refine Comp.body (T := tab) (res := [.tmp 8]) tab_ok [] Tryz.func41 rfl (by kernel_rfl) Tryz.ntmps41 rfl (by simp only [List.length_cons, List.length_nil]; decide) (by simp only [lowL, AV.low, rsL, staL, sgL, lowRs]; rfl) ?_; conv => whnf
  repeat' first | ((refine XCall.ret hra' ?_); conv => whnf) | fail
  refine Walk.loopK tab_ok [] [(1, _), (4, _), (6, _), (7, _), (9, _)] ⟨rfl, rfl, rfl, rfl, rfl, trivial⟩ (fun i : Nat => i ≤ l.length ∧ ∀ j, j < i → 0 ≤ tbN T (l.getD j default)) (fun i => [(10, .int .i64 (mnK (tbN T) (l.take i))), (11, natA i)]) (fun _ => []) (fun i => l.length - i) 0 ⟨Nat.zero_le _, fun j hj => by omega⟩ rfl ⟨rfl, rfl, trivial⟩ ?_
  rintro i ⟨hi, hI⟩
  have hnx : i < l.length → mnK (tbN T) (l.take (i + 1)) = if i = 0 ∨ tbN T (l.getD i default) < mnK (tbN T) (l.take i) then tbN T (l.getD i default) else mnK (tbN T) (l.take i) := fun h => by
    rw [take_next h, mnK_next]
    have : (l.take i).isEmpty = true ↔ i = 0 := by
      rw [List.isEmpty_iff, List.take_eq_nil_iff]
      exact ⟨fun h => h.elim id (fun h => absurd h hne), .inl⟩
    simp only [this]
  have hend : i = l.length → mnK (tbN T) (l.take i) = minL (tbN T) l := fun h => by rw [h, List.take_length, mnK, if_neg (by rw [hie]; simp)]
  generalize mnK (tbN T) (l.take i) = v at hnx hend
  conv => whnf
  by_cases hlt : i < l.length
  · have hnum := rNumber_c s nt T hT _ (hvy _ (getD_mem (d := default) hlt))
    have hrg := (hT.at (hvy _ (getD_mem (d := default) hlt))).2.2.2
    have hnx := hnx hlt
    by_cases hneg : tbN T (l.getD i default) < 0
    · have hgl : gainL s (tbN T) x t l = -1 := by
        have h1 := hmm.2 _ (getD_mem (d := default) hlt)
        obtain ⟨y, hy, e⟩ := hmm.1
        have h2 := (hT.at (hvy _ hy)).2.2.2.1
        have h3 : minL (tbN T) l = -1 := by omega
        unfold gainL; rw [h3]; exact if_neg (fun h => h.1 rfl)
      rw [hgl]
      repeat' first | ((with_reducible apply XBr.dec) <;> (intro h; first | (exfalso; omega) | ((try simp only [List.length_map] at h); first | (exfalso; omega) | (conv => whnf)))) | ((first | ((with_reducible refine XIx.nat ?_ ?_ ?_); omega; (intro _; rfl)) | (refine XCall.ret hnum ?_)); conv => whnf) | fail
      exact XOut.int rfl
    · have hI' : ∀ j, j < i + 1 → 0 ≤ tbN T (l.getD j default) := fun j hj => by
        by_cases e : j = i
        · subst e; omega
        · exact hI j (by omega)
      by_cases hc : i = 0 ∨ tbN T (l.getD i default) < v
      · rw [if_pos hc] at hnx
        repeat' first | ((first | (with_reducible apply XBr.tt) | (with_reducible apply XBr.ff)); conv => whnf) | ((with_reducible apply XBr.dec) <;> (intro h; first | (exfalso; omega) | ((try simp only [List.length_map] at h); first | (exfalso; omega) | (conv => whnf)))) | ((with_reducible apply XBr.beq) <;> (intro h; first | (exfalso; omega) | (conv => whnf))) | ((first | (with_reducible refine XInt.i64 (by omega) (by omega) ?_) | ((with_reducible refine XIx.nat ?_ ?_ ?_); omega; (intro _; rfl)) | (refine XCall.ret hnum ?_)); conv => whnf) | fail
        all_goals first
          | exact XAgain.go (i + 1) ⟨by omega, hI'⟩ (by omega) rfl ⟨rfl, rfl, rfl, rfl, rfl, (by rw [hnx]; rfl), rfl, trivial⟩
          | (exfalso; omega)
      · rw [if_neg hc] at hnx
        repeat' first | ((with_reducible apply XBr.ff); conv => whnf) | ((with_reducible apply XBr.dec) <;> (intro h; first | (exfalso; omega) | ((try simp only [List.length_map] at h); first | (exfalso; omega) | (conv => whnf)))) | ((with_reducible apply XBr.beq) <;> (intro h; first | (exfalso; omega) | (conv => whnf))) | ((first | (with_reducible refine XInt.i64 (by omega) (by omega) ?_) | ((with_reducible refine XIx.nat ?_ ?_ ?_); omega; (intro _; rfl)) | (refine XCall.ret hnum ?_)); conv => whnf) | fail
        all_goals first
          | exact XAgain.go (i + 1) ⟨by omega, hI'⟩ (by omega) rfl ⟨rfl, rfl, rfl, rfl, rfl, (by rw [hnx]; rfl), rfl, trivial⟩
          | (exfalso; omega)
  obtain rfl : i = l.length := by omega
  have hv := hend rfl
  have hv0 : 0 ≤ v := by
    obtain ⟨y, hy, e⟩ := hmm.1
    obtain ⟨j, hj, rfl⟩ := List.mem_iff_getElem.1 hy
    have := hI j hj
    rw [List.getD_eq_getElem?_getD, List.getElem?_eq_getElem hj] at this
    rw [hv, e]; exact this
  have hv1 : v ≤ 60 := by
    obtain ⟨y, hy, e⟩ := hmm.1
    have h2 := (hT.at (hvy _ hy)).2.2.2.2
    omega
  have hgl : gainL s (tbN T) x t l = if (x.p : Int) = s.bed ∧ t.1 = s.bed then v + 1 else v := by
    unfold gainL; rw [← hv]
    by_cases c : (x.p : Int) = s.bed ∧ t.1 = s.bed
    · rw [if_pos c]; exact if_pos ⟨by omega, c⟩
    · rw [if_neg c]; exact if_neg (fun h => c h.2)
  rw [hgl]
  clear hgl hmm hend hnx hI hv
  by_cases c2 : (x.p : Int) = s.bed
  · by_cases c3 : t.1 = s.bed
    · rw [if_pos ⟨c2, c3⟩]
      repeat' first | ((with_reducible apply XBr.tt); conv => whnf) | ((with_reducible apply XBr.dec) <;> (intro h; first | (exfalso; omega) | ((try simp only [List.length_map] at h); first | (exfalso; omega) | (conv => whnf)))) | ((with_reducible apply XBr.beq) <;> (intro h; first | (exfalso; omega) | (conv => whnf))) | ((with_reducible refine XInt.i64 (by omega) (by omega) ?_); conv => whnf) | fail
      exact XOut.int rfl
    · rw [if_neg (fun h => c3 h.2)]
      repeat' first | ((with_reducible apply XBr.tt); conv => whnf) | ((with_reducible apply XBr.dec) <;> (intro h; first | (exfalso; omega) | ((try simp only [List.length_map] at h); first | (exfalso; omega) | (conv => whnf)))) | ((with_reducible apply XBr.beq) <;> (intro h; first | (exfalso; omega) | (conv => whnf))) | fail
      exact XOut.int rfl
  · rw [if_neg (fun h => c2 h.1)]
    repeat' first | ((first | (with_reducible apply XBr.tt) | (with_reducible apply XBr.ff)); conv => whnf) | ((with_reducible apply XBr.dec) <;> (intro h; first | (exfalso; omega) | ((try simp only [List.length_map] at h); first | (exfalso; omega) | (conv => whnf)))) | ((with_reducible apply XBr.beq) <;> (intro h; first | (exfalso; omega) | (conv => whnf))) | fail
    exact XOut.int rfl
theorem rBound_c (s : Sn) (hb : SnB s) (ok : SnOk s) (nt : Bool) (T : List Rs) (hT : TbOk s T) (x : Sta) (hx : StOk s x) (hxl : x.l ≤ allN s) :
    Comp Tryz.prog 91 [rsA s, .sl nt (T.map rsT), staA x] (.int .i64 (bestZ s (tbN T) x)) := by
  have p1 := ok.p1; have p2 := ok.p2
  have hsf := rSafe_c s hb ok x hx.p hxl
  have hst := rSteps_c s hb ok x hx hxl
  have hho : homeZ s x = if (x.p : Int) = s.home then 0 else -1 := rfl
  cases h1 : safeB s x with
  | false =>
    rw [h1] at hsf
    rw [show bestZ s (tbN T) x = -1 by unfold bestZ; rw [if_neg (by rw [h1]; simp)]]
    refine Comp.body (T := tab) (res := [.tmp 6]) tab_ok [] Tryz.func91 rfl (by kernel_rfl) Tryz.ntmps91 rfl (by simp only [List.length_cons, List.length_nil]; decide) (by simp only [lowL, AV.low, rsL, staL, lowRs]; rfl) ?_; conv => whnf
    repeat' first | ((with_reducible apply XBr.ff); conv => whnf) | (with_reducible apply XBr.not) | ((refine XCall.ret hsf ?_); conv => whnf) | fail
    exact XOut.int rfl
  | true =>
    rw [h1] at hsf
    rw [show bestZ s (tbN T) x = (stepsS s x).foldl (fun n t => max n (gainZ s (tbN T) x t)) (homeZ s x) by unfold bestZ; rw [if_pos h1]]
    have hmem := fun t (h : t ∈ stepsS s x) => h
    have hsl : (stepsS s x).length ≤ 55 := by
      have hwl : (waysL s x.p).length ≤ 55 := by
        have h := waysK_len s x.p s.places.toNat
        have w1 := ok.w1
        have h2 : s.places.toNat * (1 + s.ways.length) ≤ 5 * 11 := Nat.mul_le_mul (by omega) (by omega)
        show (waysK s x.p s.places.toNat).length ≤ 55
        omega
      exact Nat.le_trans (List.length_filter_le _ _) hwl
    have hg : ∀ t ∈ stepsS s x, Comp Tryz.prog 41 [rsA s, .sl nt (T.map rsT), staA x, sgA t] (.int .i64 (gainZ s (tbN T) x t)) := fun t ht => by
      have hne : (!(afterS s x t).isEmpty) = true := (List.mem_filter.1 ht).2
      cases ha : afterS s x t with
      | nil => rw [ha] at hne; cases hne
      | cons y0 l0 => exact rGives_c s hb ok nt T hT x hx hxl t y0 l0 ha
    generalize stepsS s x = W at hst hmem hsl hg
    have e1 : ((W.map sgA).length : Int) = W.length := by rw [List.length_map]
    by_cases hph : (x.p : Int) = s.home
    · rw [hho, if_pos hph]
      refine Comp.body (T := tab) (res := [.tmp 6]) tab_ok [] Tryz.func91 rfl (by kernel_rfl) Tryz.ntmps91 rfl (by simp only [List.length_cons, List.length_nil]; decide) (by simp only [lowL, AV.low, rsL, staL, lowRs]; rfl) ?_; conv => whnf
      repeat' first | ((with_reducible apply XBr.tt); conv => whnf) | (with_reducible apply XBr.not) | ((with_reducible apply XBr.beq) <;> (intro h; first | (exfalso; omega) | (conv => whnf))) | ((first | (refine XCall.ret hsf ?_) | (refine XCall.ret hst ?_)); conv => whnf) | fail
      refine Walk.loopK tab_ok [] [(1, _), (3, _), (5, _), (8, _)] ⟨rfl, rfl, rfl, rfl, trivial⟩ (fun i : Nat => i ≤ W.length) (fun i => [(7, .int .i64 ((W.take i).foldl (fun n t => max n (gainZ s (tbN T) x t)) 0)), (9, natA i)]) (fun _ => []) (fun i => W.length - i) 0 (Nat.zero_le _) rfl ⟨rfl, rfl, trivial⟩ ?_
      intro i hi
      have hnx : i < W.length → (W.take (i + 1)).foldl (fun n t => max n (gainZ s (tbN T) x t)) 0 = max ((W.take i).foldl (fun n t => max n (gainZ s (tbN T) x t)) 0) (gainZ s (tbN T) x (W.getD i default)) := fun h => by rw [take_next h, List.foldl_append]; rfl
      have hend : i = W.length → (W.take i).foldl (fun n t => max n (gainZ s (tbN T) x t)) 0 = W.foldl (fun n t => max n (gainZ s (tbN T) x t)) 0 := fun h => by rw [h, List.take_length]
      generalize (W.take i).foldl (fun n t => max n (gainZ s (tbN T) x t)) 0 = v at hnx hend
      conv => whnf
      by_cases hlt : i < W.length
      · have hgi := hg _ (getD_mem (d := default) hlt)
        repeat' first | ((with_reducible apply XBr.dec) <;> (intro h; first | (exfalso; omega) | ((try simp only [List.length_map] at h); first | (exfalso; omega) | (conv => whnf)))) | ((first | (with_reducible refine XInt.i64 (by omega) (by omega) ?_) | ((with_reducible refine XIx.nat ?_ ?_ ?_); omega; (intro _; rfl))); conv => whnf) | (with_reducible apply XAnd.mk) | ((first | (with_reducible apply Chk.go) | (with_reducible apply ChkA.go) | (with_reducible apply ChkF.go) | (with_reducible apply ChkB.go)); conv => whnf) | (exact XSame.mk rfl rfl) | (with_reducible exact trivial) | (apply Walk.drawN (id := 10) tab_ok mixed_ok [] [] (hsU _) [_, _, _, _, _, _, _, _, _, _, _] (by kernel_rfl) rfl) | ((first | (with_reducible apply XNext.mk) | (refine XCall.ret hgi ?_)); conv => whnf) | fail
        exact XAgain.go (i + 1) (by omega) (by omega) rfl ⟨rfl, rfl, rfl, rfl, (by rw [hnx hlt]; rfl), rfl, trivial⟩
      obtain rfl : i = W.length := by omega
      rw [← hend rfl]
      repeat' first | ((with_reducible apply XBr.dec) <;> (intro h; first | (exfalso; omega) | ((try simp only [List.length_map] at h); first | (exfalso; omega) | (conv => whnf)))) | fail
      exact XOut.int rfl
    · rw [hho, if_neg hph]
      refine Comp.body (T := tab) (res := [.tmp 6]) tab_ok [] Tryz.func91 rfl (by kernel_rfl) Tryz.ntmps91 rfl (by simp only [List.length_cons, List.length_nil]; decide) (by simp only [lowL, AV.low, rsL, staL, lowRs]; rfl) ?_; conv => whnf
      repeat' first | ((with_reducible apply XBr.tt); conv => whnf) | (with_reducible apply XBr.not) | ((with_reducible apply XBr.beq) <;> (intro h; first | (exfalso; omega) | (conv => whnf))) | ((first | (refine XCall.ret hsf ?_) | (refine XCall.ret hst ?_)); conv => whnf) | fail
      refine Walk.loopK tab_ok [] [(1, _), (3, _), (5, _), (8, _)] ⟨rfl, rfl, rfl, rfl, trivial⟩ (fun i : Nat => i ≤ W.length) (fun i => [(7, .int .i64 ((W.take i).foldl (fun n t => max n (gainZ s (tbN T) x t)) (-1))), (9, natA i)]) (fun _ => []) (fun i => W.length - i) 0 (Nat.zero_le _) rfl ⟨rfl, rfl, trivial⟩ ?_
      intro i hi
      have hnx : i < W.length → (W.take (i + 1)).foldl (fun n t => max n (gainZ s (tbN T) x t)) (-1) = max ((W.take i).foldl (fun n t => max n (gainZ s (tbN T) x t)) (-1)) (gainZ s (tbN T) x (W.getD i default)) := fun h => by rw [take_next h, List.foldl_append]; rfl
      have hend : i = W.length → (W.take i).foldl (fun n t => max n (gainZ s (tbN T) x t)) (-1) = W.foldl (fun n t => max n (gainZ s (tbN T) x t)) (-1) := fun h => by rw [h, List.take_length]
      generalize (W.take i).foldl (fun n t => max n (gainZ s (tbN T) x t)) (-1) = v at hnx hend
      conv => whnf
      by_cases hlt : i < W.length
      · have hgi := hg _ (getD_mem (d := default) hlt)
        repeat' first | ((with_reducible apply XBr.dec) <;> (intro h; first | (exfalso; omega) | ((try simp only [List.length_map] at h); first | (exfalso; omega) | (conv => whnf)))) | ((first | (with_reducible refine XInt.i64 (by omega) (by omega) ?_) | ((with_reducible refine XIx.nat ?_ ?_ ?_); omega; (intro _; rfl))); conv => whnf) | (with_reducible apply XAnd.mk) | ((first | (with_reducible apply Chk.go) | (with_reducible apply ChkA.go) | (with_reducible apply ChkF.go) | (with_reducible apply ChkB.go)); conv => whnf) | (exact XSame.mk rfl rfl) | (with_reducible exact trivial) | (apply Walk.drawN (id := 10) tab_ok mixed_ok [] [] (hsU _) [_, _, _, _, _, _, _, _, _, _, _] (by kernel_rfl) rfl) | ((first | (with_reducible apply XNext.mk) | (refine XCall.ret hgi ?_)); conv => whnf) | fail
        exact XAgain.go (i + 1) (by omega) (by omega) rfl ⟨rfl, rfl, rfl, rfl, (by rw [hnx hlt]; rfl), rfl, trivial⟩
      obtain rfl : i = W.length := by omega
      rw [← hend rfl]
      repeat' first | ((with_reducible apply XBr.dec) <;> (intro h; first | (exfalso; omega) | ((try simp only [List.length_map] at h); first | (exfalso; omega) | (conv => whnf)))) | fail
      exact XOut.int rfl
end GA
end

section
namespace GA
open Go Go.RowKit Go.Proofs
set_option pp.deepTerms true
set_option maxRecDepth 8000
set_option linter.unusedVariables false
set_option linter.unusedSimpArgs false

structure UpTo (s : Sn) (r : Sta → Prop) (p m l : Nat) (b : Bool) : Prop where
  iff : b = true ↔ ∀ y, vld s y → y.p < p ∨ (y.p = p ∧ (y.m < m ∨ (y.m = m ∧ y.l < l))) → r y
theorem UpTo.zero (s : Sn) (r : Sta → Prop) : UpTo s r 0 0 0 true := ⟨⟨fun _ y _ h => by omega, fun _ => rfl⟩⟩
theorem UpTo.next {s : Sn} {r : Sta → Prop} {p m l : Nat} {b : Bool} (h : UpTo s r p m l b) (hv : vld s ⟨p, m, l⟩) (b' : Bool) (hb : b' = true ↔ r ⟨p, m, l⟩) : UpTo s r p m (l + 1) (b && b') := by
  refine ⟨?_⟩
  rw [Bool.and_eq_true, h.iff, hb]
  refine ⟨fun ⟨h1, h2⟩ y hy hlt => ?_, fun h' => ⟨fun y hy hlt => h' y hy (by omega), h' _ hv (.inr ⟨rfl, .inr ⟨rfl, by show l < l + 1; omega⟩⟩)⟩⟩
  by_cases e : y = ⟨p, m, l⟩
  · subst e; exact h2
  · refine h1 y hy ?_
    have : ¬ (y.p = p ∧ y.m = m ∧ y.l = l) := fun ⟨a, b, c⟩ => e (by cases y; simp_all)
    omega
theorem UpTo.row {s : Sn} {r : Sta → Prop} {p m : Nat} {b : Bool} (h : UpTo s r p m (allN s + 1) b) : UpTo s r p (m + 1) 0 b := by
  refine ⟨h.iff.trans ⟨fun h' y hy hlt => h' y hy ?_, fun h' y hy hlt => h' y hy ?_⟩⟩
  · have := hy.2.2; omega
  · have := hy.2.2; omega
theorem UpTo.place {s : Sn} {r : Sta → Prop} {p m : Nat} {b : Bool} (hm : (m : Int) = s.last + 1) (h : UpTo s r p m 0 b) : UpTo s r (p + 1) 0 0 b := by
  refine ⟨h.iff.trans ⟨fun h' y hy hlt => h' y hy ?_, fun h' y hy hlt => h' y hy ?_⟩⟩
  · have := hy.2.1; omega
  · have := hy.2.1; omega
theorem UpTo.all {s : Sn} {r : Sta → Prop} {p : Nat} {b : Bool} (hp : (p : Int) = s.places) (h : UpTo s r p 0 0 b) : b = true ↔ ∀ y, vld s y → r y := by
  refine h.iff.trans ⟨fun h' y hy => h' y hy (.inl ?_), fun h' y hy _ => h' y hy⟩
  have := hy.1; omega
theorem rShows_c (s : Sn) (hb : SnB s) (ok : SnOk s) (nt : Bool) (T : List Rs) (hT : TbOk s T) (A B : Bool) (hA : A = true ↔ ∀ y, vld s y → tbN T y ≤ bestZ s (tbN T) y) (hB : B = true ↔ ∀ y, vld s y → tbN T y ≥ bestZ s (tbN T) y) :
    Comp Tryz.prog 33 [rsA s, .sl nt (T.map rsT)] (.tup [.bool A, .bool B]) := by
  have p1 := ok.p1; have p2 := ok.p2; have l1 := ok.l1; have l2 := ok.l2
  have hal := allN_lt ok
  have e1 : ((T.map rsT).length : Int) = T.length := by rw [List.length_map]
  have ta := hT.a
  refine Comp.body (T := tab) (res := [.tmp 4, .tmp 5]) tab_ok [] Tryz.func33 rfl (by kernel_rfl) Tryz.ntmps33 rfl (by simp only [List.length_cons, List.length_nil]; decide) (by simp only [lowL, AV.low, rsL, lowRs]; rfl) ?_; conv => whnf
  skip
  refine Walk.loopK tab_ok [] [(1, _), (2, _)] ⟨rfl, rfl, trivial⟩ (fun g : Nat × Bool × Bool => g.1 ≤ T.length ∧ UpTo s (fun y => tbN T y ≤ bestZ s (tbN T) y) g.1 0 0 g.2.1 ∧ UpTo s (fun y => tbN T y ≥ bestZ s (tbN T) y) g.1 0 0 g.2.2) (fun g => [(6, .bool g.2.1), (7, .bool g.2.2), (8, natA g.1)]) (fun _ => []) (fun g => T.length - g.1) (0, true, true) ⟨Nat.zero_le _, .zero _ _, .zero _ _⟩ rfl ⟨rfl, rfl, rfl, trivial⟩ ?_
  rintro ⟨p, a, b⟩ ⟨hp, hI, hJ⟩
  dsimp only at hp hI hJ ⊢
  conv => whnf
  by_cases hlt : p < T.length
  · have tb := hT.b p hlt
    have e2 : (((T.getD p default).2.map rwA).length : Int) = (T.getD p default).2.length := by rw [List.length_map]
    repeat' first | ((with_reducible apply XBr.dec) <;> (intro h; first | (exfalso; omega) | ((try simp only [List.length_map] at h); first | (exfalso; omega) | (conv => whnf)))) | fail
    refine Walk.loopK tab_ok [] [(1, _), (2, _), (8, _)] ⟨rfl, rfl, rfl, trivial⟩ (fun g : Nat × Bool × Bool => g.1 ≤ (T.getD p default).2.length ∧ UpTo s (fun y => tbN T y ≤ bestZ s (tbN T) y) p g.1 0 g.2.1 ∧ UpTo s (fun y => tbN T y ≥ bestZ s (tbN T) y) p g.1 0 g.2.2) (fun g => [(6, .bool g.2.1), (7, .bool g.2.2), (9, natA g.1)]) (fun _ => []) (fun g => (T.getD p default).2.length - g.1) (0, a, b) ⟨Nat.zero_le _, hI, hJ⟩ rfl ⟨rfl, rfl, rfl, trivial⟩ ?_
    rintro ⟨m, a, b⟩ ⟨hm, hI, hJ⟩
    dsimp only at hm hI hJ ⊢
    conv => whnf
    by_cases hlt2 : m < (T.getD p default).2.length
    · have tc := hT.c p m hlt hlt2
      have e3 : ((ints ((T.getD p default).2.getD m default).2).length : Int) = ((T.getD p default).2.getD m default).2.length := by rw [ints_len]
      repeat' first | ((with_reducible apply XBr.dec) <;> (intro h; first | (exfalso; omega) | ((try simp only [List.length_map] at h); first | (exfalso; omega) | (conv => whnf)))) | (((with_reducible refine XIx.nat ?_ ?_ ?_); omega; (intro _; rfl)); conv => whnf) | fail
      refine Walk.loopK tab_ok [] [(1, _), (2, _), (8, _), (9, _)] ⟨rfl, rfl, rfl, rfl, trivial⟩ (fun g : Nat × Bool × Bool => g.1 ≤ allN s + 1 ∧ UpTo s (fun y => tbN T y ≤ bestZ s (tbN T) y) p m g.1 g.2.1 ∧ UpTo s (fun y => tbN T y ≥ bestZ s (tbN T) y) p m g.1 g.2.2) (fun g => [(6, .bool g.2.1), (7, .bool g.2.2), (10, natA g.1)]) (fun _ => []) (fun g => allN s + 1 - g.1) (0, a, b) ⟨Nat.zero_le _, hI, hJ⟩ rfl ⟨rfl, rfl, rfl, trivial⟩ ?_
      rintro ⟨l, a, b⟩ ⟨hl, hI, hJ⟩
      dsimp only at hl hI hJ ⊢
      conv => whnf
      by_cases hlt3 : l < allN s + 1
      · have hv : vld s ⟨p, m, l⟩ := ⟨by show (p : Int) < s.places; omega, by show (m : Int) ≤ s.last; omega, by show l ≤ allN s; omega⟩
        have hbo := rBound_c s hb ok nt T hT ⟨p, m, l⟩ ⟨by show (p : Int) < s.places; omega, by show (m : Int) ≤ s.last; omega, by show l ≤ _; omega⟩ hv.2.2
        have hst : staA ⟨p, m, l⟩ = .agg [natA p, natA m, natA l] := rfl
        have htn : tbN T ⟨p, m, l⟩ = (((T.getD p default).2.getD m default).2).getD l default := rfl
        have hI' := hI.next hv (decide (tbN T ⟨p, m, l⟩ ≤ bestZ s (tbN T) ⟨p, m, l⟩)) (by rw [decide_eq_true_eq])
        have hJ' := hJ.next hv (decide (tbN T ⟨p, m, l⟩ ≥ bestZ s (tbN T) ⟨p, m, l⟩)) (by rw [decide_eq_true_eq])
        rw [hst] at hbo
        rw [htn] at hI' hJ'
        generalize bestZ s (tbN T) ⟨p, m, l⟩ = bz at hbo hI' hJ'
        cases a <;> cases b
        all_goals
          repeat' first | ((with_reducible apply XBr.dec) <;> (intro h; first | (exfalso; omega) | ((try simp only [List.length_map] at h); first | (exfalso; omega) | (conv => whnf)))) | ((first | ((with_reducible refine XIx.nat ?_ ?_ ?_); omega; (intro _; rfl)) | (refine XCall.ret hbo ?_)); conv => whnf) | fail
          refine Walk.norm tab_ok [] [(1, _), (2, _), (6, _), (7, _), (8, _), (9, _), (10, _), (11, _)] ⟨rfl, rfl, rfl, rfl, rfl, rfl, rfl, rfl, trivial⟩ ?_
          conv => whnf
          repeat' first | ((first | (with_reducible apply XBr.tt) | (with_reducible apply XBr.ff) | ((with_reducible refine XIx.nat ?_ ?_ ?_); omega; (intro _; rfl))); conv => whnf) | fail
          refine Walk.norm tab_ok [] [(1, _), (2, _), (6, _), (7, _), (8, _), (9, _), (10, _), (11, _)] ⟨rfl, rfl, rfl, rfl, rfl, rfl, rfl, rfl, trivial⟩ ?_
          conv => whnf
          repeat' first | ((first | (with_reducible apply XBr.tt) | (with_reducible apply XBr.ff) | (with_reducible refine XInt.i64 (by omega) (by omega) ?_) | ((with_reducible refine XIx.nat ?_ ?_ ?_); omega; (intro _; rfl))); conv => whnf) | fail
          exact XAgain.go (l + 1, _, _) ⟨by dsimp only; omega, hI', hJ'⟩ (by dsimp only; omega) rfl ⟨rfl, rfl, rfl, rfl, rfl, rfl, rfl, trivial⟩
      obtain rfl : l = allN s + 1 := by omega
      repeat' first | ((with_reducible apply XBr.dec) <;> (intro h; first | (exfalso; omega) | ((try simp only [List.length_map] at h); first | (exfalso; omega) | (conv => whnf)))) | ((first | (with_reducible refine XInt.i64 (by omega) (by omega) ?_) | ((with_reducible refine XIx.nat ?_ ?_ ?_); omega; (intro _; rfl))); conv => whnf) | fail
      exact XAgain.go (m + 1, a, b) ⟨by dsimp only; omega, hI.row, hJ.row⟩ (by dsimp only; omega) rfl ⟨rfl, rfl, rfl, rfl, rfl, rfl, trivial⟩
    obtain rfl : m = (T.getD p default).2.length := by omega
    repeat' first | ((with_reducible apply XBr.dec) <;> (intro h; first | (exfalso; omega) | ((try simp only [List.length_map] at h); first | (exfalso; omega) | (conv => whnf)))) | ((first | (with_reducible refine XInt.i64 (by omega) (by omega) ?_) | ((with_reducible refine XIx.nat ?_ ?_ ?_); omega; (intro _; rfl))); conv => whnf) | fail
    exact XAgain.go (p + 1, a, b) ⟨by dsimp only; omega, hI.place tb, hJ.place tb⟩ (by dsimp only; omega) rfl ⟨rfl, rfl, rfl, rfl, rfl, trivial⟩
  obtain rfl : p = T.length := by omega
  have h1 : a = A := Bool.eq_iff_iff.2 ((hI.all ta).trans hA.symm)
  have h2 : b = B := Bool.eq_iff_iff.2 ((hJ.all ta).trans hB.symm)
  subst h1; subst h2
  repeat' first | ((with_reducible apply XBr.dec) <;> (intro h; first | (exfalso; omega) | ((try simp only [List.length_map] at h); first | (exfalso; omega) | (conv => whnf)))) | fail
  exact ⟨.low rfl⟩
theorem all_no {α : Type} {p : α → Bool} {l : List α} {d : α} {i : Nat} (hi : i < l.length) (h : p (l.getD i d) = false) : l.all p = false := by
  rw [List.all_eq_false]
  exact ⟨_, getD_mem hi, by rw [h]; simp⟩
theorem rTabled_c (s : Sn) (hb : SnB s) (nt : Bool) (T : List Rs) (hT : TbB T) : Comp Tryz.prog 30 [rsA s, .sl nt (T.map rsT)] (.int .i64 (tabE s T)) := by
  have hck := rCheck_c s hb
  have e1 : ((T.map rsT).length : Int) = T.length := by rw [List.length_map]
  have t1 := hT.a
  by_cases h0 : snE s = 0
  rotate_left
  · have he : tabE s T = snE s := by unfold tabE; rw [if_pos h0]
    rw [he]
    generalize snE s = e at h0 hck
    refine Comp.body (T := tab) (res := [.tmp 4]) tab_ok [] Tryz.func30 rfl (by kernel_rfl) Tryz.ntmps30 rfl (by simp only [List.length_cons, List.length_nil]; decide) (by simp only [lowL, AV.low, rsL, lowRs]; rfl) ?_; conv => whnf
    repeat' first | ((with_reducible apply XBr.bne) <;> (intro h; first | (exfalso; omega) | (conv => whnf))) | ((refine XCall.ret hck ?_); conv => whnf) | fail
    exact XOut.int rfl
  have ok := snE_iff.1 h0
  have l2 := ok.l2; have q1 := ok.p1; have q2 := ok.p2; have l1 := ok.l1
  have hal := allN_lt ok
  have ha := rAll_c s (by have := ok.t2; omega)
  have he : tabE s T = if tabM s T = false then 2 else if tabV T = false then 3 else 0 := by unfold tabE; rw [if_neg (fun e => e h0)]
  rw [he]
  rw [h0] at hck
  have hM : tabM s T = (decide ((T.length : Int) = s.places) && T.all fun l => decide ((l.2.length : Int) = s.last + 1) && l.2.all fun k => decide ((k.2.length : Int) = allN s + 1)) := rfl
  have hV : tabV T = T.all fun l => l.2.all fun k => k.2.all fun n => inZ n (-1) 60 := rfl
  by_cases hq : (T.length : Int) = s.places
  rotate_left
  · rw [hM, decide_eq_false hq, Bool.false_and, if_pos rfl]
    refine Comp.body (T := tab) (res := [.tmp 4]) tab_ok [] Tryz.func30 rfl (by kernel_rfl) Tryz.ntmps30 rfl (by simp only [List.length_cons, List.length_nil]; decide) (by simp only [lowL, AV.low, rsL, lowRs]; rfl) ?_; conv => whnf
    repeat' first | ((with_reducible apply XBr.bne) <;> (intro h; first | (exfalso; omega) | (conv => whnf))) | ((refine XCall.ret hck ?_); conv => whnf) | fail
    exact XOut.int rfl
  rw [decide_eq_true hq, Bool.true_and] at hM
  refine Comp.body (T := tab) (res := [.tmp 4]) tab_ok [] Tryz.func30 rfl (by kernel_rfl) Tryz.ntmps30 rfl (by simp only [List.length_cons, List.length_nil]; decide) (by simp only [lowL, AV.low, rsL, lowRs]; rfl) ?_; conv => whnf
  repeat' first | ((with_reducible apply XBr.bne) <;> (intro h; first | (exfalso; omega) | (conv => whnf))) | ((refine XCall.ret hck ?_); conv => whnf) | fail
  refine Walk.loopK tab_ok [] [(1, _), (2, _)] ⟨rfl, rfl, trivial⟩ (fun p : Nat => p ≤ T.length ∧ ∀ q, q < p → (decide (((T.getD q default).2.length : Int) = s.last + 1) && (T.getD q default).2.all fun k => decide ((k.2.length : Int) = allN s + 1)) = true) (fun p => [(6, natA p)]) (fun _ => []) (fun p => T.length - p) 0 ⟨Nat.zero_le _, fun q hq => by omega⟩ rfl ⟨rfl, trivial⟩ ?_
  rintro p ⟨hp, hI⟩
  conv => whnf
  by_cases hlt : p < T.length
  · have hr1 := hT.b _ (getD_mem (d := default) hlt)
    have hr2 := hT.c _ (getD_mem (d := default) hlt)
    have e2 : (((T.getD p default).2.map rwA).length : Int) = (T.getD p default).2.length := by rw [List.length_map]
    by_cases hq2 : ((T.getD p default).2.length : Int) = s.last + 1
    · skip
      repeat' first | ((with_reducible apply XBr.dec) <;> (intro h; first | (exfalso; omega) | ((try simp only [List.length_map] at h); first | (exfalso; omega) | (conv => whnf)))) | ((with_reducible apply XBr.bne) <;> (intro h; first | (exfalso; omega) | (conv => whnf))) | ((first | (with_reducible refine XInt.i64 (by omega) (by omega) ?_) | ((with_reducible refine XIx.nat ?_ ?_ ?_); omega; (intro _; rfl))); conv => whnf) | (with_reducible apply XAnd.mk) | ((first | (with_reducible apply Chk.go) | (with_reducible apply ChkA.go) | (with_reducible apply ChkF.go) | (with_reducible apply ChkB.go)); conv => whnf) | (exact XSame.mk rfl rfl) | (with_reducible exact trivial) | (apply Walk.drawN (id := 9) tab_ok mixed_ok [] [] (hsU _) [_, _, _, _, _, _, _, _, _] (by kernel_rfl) rfl) | ((with_reducible apply XNext.mk); conv => whnf) | fail
      refine Walk.loopK tab_ok [] [(1, _), (2, _), (6, _)] ⟨rfl, rfl, rfl, trivial⟩ (fun m : Nat => m ≤ (T.getD p default).2.length ∧ ∀ q, q < m → ((((T.getD p default).2.getD q default).2.length : Nat) : Int) = allN s + 1) (fun m => [(7, natA m)]) (fun _ => []) (fun m => (T.getD p default).2.length - m) 0 ⟨Nat.zero_le _, fun q hq => by omega⟩ rfl ⟨rfl, trivial⟩ ?_
      rintro m ⟨hm, hJ⟩
      conv => whnf
      by_cases hlt2 : m < (T.getD p default).2.length
      · have hr3 := hr2 _ (getD_mem (d := default) hlt2)
        have e3 : ((ints ((T.getD p default).2.getD m default).2).length : Int) = ((T.getD p default).2.getD m default).2.length := by rw [ints_len]
        by_cases hq3 : ((((T.getD p default).2.getD m default).2.length : Nat) : Int) = allN s + 1
        · skip
          repeat' first | ((with_reducible apply XBr.dec) <;> (intro h; first | (exfalso; omega) | ((try simp only [List.length_map] at h); first | (exfalso; omega) | (conv => whnf)))) | ((with_reducible apply XBr.bne) <;> (intro h; first | (exfalso; omega) | (conv => whnf))) | ((first | (with_reducible refine XInt.i64 (by omega) (by omega) ?_) | ((with_reducible refine XIx.nat ?_ ?_ ?_); omega; (intro _; rfl))); conv => whnf) | (with_reducible apply XAnd.mk) | ((first | (with_reducible apply Chk.go) | (with_reducible apply ChkA.go) | (with_reducible apply ChkF.go) | (with_reducible apply ChkB.go)); conv => whnf) | (exact XSame.mk rfl rfl) | (with_reducible exact trivial) | (apply Walk.drawN (id := 14) tab_ok mixed_ok [] [] (hsU _) [_, _, _, _, _, _, _, _, _, _, _, _] (by kernel_rfl) rfl) | ((first | (with_reducible apply XNext.mk) | (refine XCall.ret ha ?_)); conv => whnf) | fail
          refine XAgain.go (m + 1) ⟨by omega, fun q hq => ?_⟩ (by omega) rfl ⟨rfl, rfl, rfl, rfl, trivial⟩
          by_cases e : q = m
          · subst e; exact hq3
          · exact hJ q (by omega)
        · have hf : tabM s T = false := by
            rw [hM]
            refine all_no (d := default) hlt ?_
            rw [decide_eq_true hq2, Bool.true_and]
            exact all_no (d := default) hlt2 (decide_eq_false hq3)
          rw [if_pos hf]
          repeat' first | ((with_reducible apply XBr.dec) <;> (intro h; first | (exfalso; omega) | ((try simp only [List.length_map] at h); first | (exfalso; omega) | (conv => whnf)))) | ((with_reducible apply XBr.bne) <;> (intro h; first | (exfalso; omega) | (conv => whnf))) | ((first | (with_reducible refine XInt.i64 (by omega) (by omega) ?_) | ((with_reducible refine XIx.nat ?_ ?_ ?_); omega; (intro _; rfl))); conv => whnf) | (with_reducible apply XAnd.mk) | ((first | (with_reducible apply Chk.go) | (with_reducible apply ChkA.go) | (with_reducible apply ChkF.go) | (with_reducible apply ChkB.go)); conv => whnf) | (exact XSame.mk rfl rfl) | (with_reducible exact trivial) | (apply Walk.drawN (id := 14) tab_ok mixed_ok [] [] (hsU _) [_, _, _, _, _, _, _, _, _, _, _, _] (by kernel_rfl) rfl) | ((first | (with_reducible apply XNext.mk) | (refine XCall.ret ha ?_)); conv => whnf) | fail
          exact XOut.int rfl
      obtain rfl : m = (T.getD p default).2.length := by omega
      repeat' first | ((with_reducible apply XBr.dec) <;> (intro h; first | (exfalso; omega) | ((try simp only [List.length_map] at h); first | (exfalso; omega) | (conv => whnf)))) | ((first | (with_reducible refine XInt.i64 (by omega) (by omega) ?_) | ((with_reducible refine XIx.nat ?_ ?_ ?_); omega; (intro _; rfl))); conv => whnf) | fail
      refine XAgain.go (p + 1) ⟨by omega, fun q hq => ?_⟩ (by omega) rfl ⟨rfl, rfl, rfl, trivial⟩
      by_cases e : q = p
      · subst e
        rw [decide_eq_true hq2, Bool.true_and, all_getD (d := default)]
        exact fun i hi => decide_eq_true (hJ i hi)
      · exact hI q (by omega)
    · have hf : tabM s T = false := by
        rw [hM]
        refine all_no (d := default) hlt ?_
        rw [decide_eq_false hq2, Bool.false_and]
      rw [if_pos hf]
      repeat' first | ((with_reducible apply XBr.dec) <;> (intro h; first | (exfalso; omega) | ((try simp only [List.length_map] at h); first | (exfalso; omega) | (conv => whnf)))) | ((with_reducible apply XBr.bne) <;> (intro h; first | (exfalso; omega) | (conv => whnf))) | ((first | (with_reducible refine XInt.i64 (by omega) (by omega) ?_) | ((with_reducible refine XIx.nat ?_ ?_ ?_); omega; (intro _; rfl))); conv => whnf) | (with_reducible apply XAnd.mk) | ((first | (with_reducible apply Chk.go) | (with_reducible apply ChkA.go) | (with_reducible apply ChkF.go) | (with_reducible apply ChkB.go)); conv => whnf) | (exact XSame.mk rfl rfl) | (with_reducible exact trivial) | (apply Walk.drawN (id := 9) tab_ok mixed_ok [] [] (hsU _) [_, _, _, _, _, _, _, _, _] (by kernel_rfl) rfl) | ((with_reducible apply XNext.mk); conv => whnf) | fail
      exact XOut.int rfl
  obtain rfl : p = T.length := by omega
  have hMt : tabM s T = true := by rw [hM, all_getD (d := default)]; exact hI
  rw [if_neg (by rw [hMt]; simp)]
  repeat' first | ((with_reducible apply XBr.dec) <;> (intro h; first | (exfalso; omega) | ((try simp only [List.length_map] at h); first | (exfalso; omega) | (conv => whnf)))) | fail
  refine Walk.loopK tab_ok [] [(1, _)] ⟨rfl, trivial⟩ (fun p : Nat => p ≤ T.length ∧ ∀ q, q < p → ((T.getD q default).2.all fun k => k.2.all fun n => inZ n (-1) 60) = true) (fun p => [(8, natA p)]) (fun _ => []) (fun p => T.length - p) 0 ⟨Nat.zero_le _, fun q hq => by omega⟩ rfl ⟨rfl, trivial⟩ ?_
  rintro p ⟨hp, hI⟩
  conv => whnf
  by_cases hlt : p < T.length
  · have hr1 := hT.b _ (getD_mem (d := default) hlt)
    have hr2 := hT.c _ (getD_mem (d := default) hlt)
    have e2 : (((T.getD p default).2.map rwA).length : Int) = (T.getD p default).2.length := by rw [List.length_map]
    repeat' first | ((with_reducible apply XBr.dec) <;> (intro h; first | (exfalso; omega) | ((try simp only [List.length_map] at h); first | (exfalso; omega) | (conv => whnf)))) | fail
    refine Walk.loopK tab_ok [] [(1, _), (8, _)] ⟨rfl, rfl, trivial⟩ (fun m : Nat => m ≤ (T.getD p default).2.length ∧ ∀ q, q < m → (((T.getD p default).2.getD q default).2.all fun n => inZ n (-1) 60) = true) (fun m => [(9, natA m)]) (fun _ => []) (fun m => (T.getD p default).2.length - m) 0 ⟨Nat.zero_le _, fun q hq => by omega⟩ rfl ⟨rfl, trivial⟩ ?_
    rintro m ⟨hm, hJ⟩
    conv => whnf
    by_cases hlt2 : m < (T.getD p default).2.length
    · have hr3 := hr2 _ (getD_mem (d := default) hlt2)
      have e3 : ((ints ((T.getD p default).2.getD m default).2).length : Int) = ((T.getD p default).2.getD m default).2.length := by rw [ints_len]
      repeat' first | ((with_reducible apply XBr.dec) <;> (intro h; first | (exfalso; omega) | ((try simp only [List.length_map] at h); first | (exfalso; omega) | (conv => whnf)))) | (((with_reducible refine XIx.nat ?_ ?_ ?_); omega; (intro _; rfl)); conv => whnf) | fail
      refine Walk.loopK tab_ok [] [(1, _), (8, _), (9, _)] ⟨rfl, rfl, rfl, trivial⟩ (fun l : Nat => l ≤ ((T.getD p default).2.getD m default).2.length ∧ ∀ q, q < l → inZ (((T.getD p default).2.getD m default).2.getD q default) (-1) 60 = true) (fun l => [(10, natA l)]) (fun _ => []) (fun l => ((T.getD p default).2.getD m default).2.length - l) 0 ⟨Nat.zero_le _, fun q hq => by omega⟩ rfl ⟨rfl, trivial⟩ ?_
      rintro l ⟨hl, hL⟩
      conv => whnf
      by_cases hlt3 : l < ((T.getD p default).2.getD m default).2.length
      · cases hz : inZ (((T.getD p default).2.getD m default).2.getD l default) (-1) 60 with
        | true =>
          repeat' first | ((with_reducible apply XBr.tt); conv => whnf) | (with_reducible apply XBr.not) | ((with_reducible apply XBr.dec) <;> (intro h; first | (exfalso; omega) | ((try simp only [List.length_map] at h); first | (exfalso; omega) | (conv => whnf)))) | ((first | (with_reducible refine XInt.i64 (by omega) (by omega) ?_) | ((with_reducible refine XIx.nat ?_ ?_ ?_); omega; (intro _; rfl)) | ((refine XCall.ret (off02_c _ _ _) ?_); rw [hz])); conv => whnf) | fail
          refine XAgain.go (l + 1) ⟨by omega, fun q hq => ?_⟩ (by omega) rfl ⟨rfl, rfl, rfl, rfl, trivial⟩
          by_cases e : q = l
          · subst e; exact hz
          · exact hL q (by omega)
        | false =>
          have hf : tabV T = false := by
            rw [hV]
            refine all_no (d := default) hlt ?_
            refine all_no (d := default) hlt2 ?_
            exact all_no (d := default) hlt3 hz
          rw [if_pos hf]
          repeat' first | ((with_reducible apply XBr.ff); conv => whnf) | (with_reducible apply XBr.not) | ((with_reducible apply XBr.dec) <;> (intro h; first | (exfalso; omega) | ((try simp only [List.length_map] at h); first | (exfalso; omega) | (conv => whnf)))) | ((first | ((with_reducible refine XIx.nat ?_ ?_ ?_); omega; (intro _; rfl)) | ((refine XCall.ret (off02_c _ _ _) ?_); rw [hz])); conv => whnf) | fail
          exact XOut.int rfl
      obtain rfl : l = ((T.getD p default).2.getD m default).2.length := by omega
      repeat' first | ((with_reducible apply XBr.dec) <;> (intro h; first | (exfalso; omega) | ((try simp only [List.length_map] at h); first | (exfalso; omega) | (conv => whnf)))) | ((first | (with_reducible refine XInt.i64 (by omega) (by omega) ?_) | ((with_reducible refine XIx.nat ?_ ?_ ?_); omega; (intro _; rfl))); conv => whnf) | fail
      refine XAgain.go (m + 1) ⟨by omega, fun q hq => ?_⟩ (by omega) rfl ⟨rfl, rfl, rfl, trivial⟩
      by_cases e : q = m
      · subst e; rw [all_getD (d := default)]; exact hL
      · exact hJ q (by omega)
    obtain rfl : m = (T.getD p default).2.length := by omega
    repeat' first | ((with_reducible apply XBr.dec) <;> (intro h; first | (exfalso; omega) | ((try simp only [List.length_map] at h); first | (exfalso; omega) | (conv => whnf)))) | ((first | (with_reducible refine XInt.i64 (by omega) (by omega) ?_) | ((with_reducible refine XIx.nat ?_ ?_ ?_); omega; (intro _; rfl))); conv => whnf) | fail
    refine XAgain.go (p + 1) ⟨by omega, fun q hq => ?_⟩ (by omega) rfl ⟨rfl, rfl, trivial⟩
    by_cases e : q = p
    · subst e; rw [all_getD (d := default)]; exact hJ
    · exact hI q (by omega)
  obtain rfl : p = T.length := by omega
  have hVt : tabV T = true := by rw [hV, all_getD (d := default)]; exact hI
  rw [if_neg (by rw [hVt]; simp)]
  repeat' first | ((with_reducible apply XBr.dec) <;> (intro h; first | (exfalso; omega) | ((try simp only [List.length_map] at h); first | (exfalso; omega) | (conv => whnf)))) | fail
  exact XOut.int rfl
end GA
end

section
namespace GA
open Go Go.RowKit Go.Proofs
set_option pp.deepTerms true
set_option maxRecDepth 8000
set_option linter.unusedVariables false
set_option linter.unusedSimpArgs false

def ownTs (l : Rs) : Rs := (false, l.2.map ownR)
theorem own_tbN (T : List Rs) (y : Sta) : tbN (T.map ownTs) y = tbN T y := by
  have h1 : ((T.map ownTs).getD y.p default).2 = ((T.getD y.p default).2).map ownR := by
    rw [List.getD_eq_getElem?_getD, List.getD_eq_getElem?_getD, List.getElem?_map]
    cases T[y.p]? <;> rfl
  have h2 : ((((T.getD y.p default).2).map ownR).getD y.m default).2 = ((T.getD y.p default).2.getD y.m default).2 := by
    generalize (T.getD y.p default).2 = L
    rw [List.getD_eq_getElem?_getD, List.getD_eq_getElem?_getD, List.getElem?_map]
    cases L[y.m]? <;> rfl
  unfold tbN; rw [h1, h2]
theorem own_tabM (s : Sn) (T : List Rs) : tabM s (T.map ownTs) = tabM s T := by
  unfold tabM
  rw [List.length_map, List.all_map]
  congr 1
  congr 1
  funext l
  show (decide (((l.2.map ownR).length : Int) = s.last + 1) && (l.2.map ownR).all fun k => decide ((k.2.length : Int) = allN s + 1)) = _
  rw [List.length_map, List.all_map]; rfl
theorem own_tabV (T : List Rs) : tabV (T.map ownTs) = tabV T := by
  unfold tabV
  rw [List.all_map]
  congr 1
  funext l
  show ((l.2.map ownR).all fun k => k.2.all fun n => inZ n (-1) 60) = _
  rw [List.all_map]; rfl
theorem SnEq.tabE {s u : Sn} (e : SnEq s u) (T : List Rs) : GA.tabE s T = GA.tabE u T := by unfold GA.tabE tabM; rw [e.err, e.places, e.last, e.allN]
theorem own_tabE (s : Sn) (T : List Rs) : tabE s (T.map ownTs) = tabE s T := by unfold tabE; rw [own_tabM, own_tabV]
theorem SnEq.vld {s u : Sn} (e : SnEq s u) (y : Sta) : GA.vld s y ↔ GA.vld u y := by unfold GA.vld; rw [e.places, e.last, e.allN]
theorem ownT_B {T : List Rs} (h : TbB T) : TbB (T.map ownTs) := by
  refine ⟨by rw [List.length_map]; exact h.a, fun l hl => ?_, fun l hl r hr => ?_⟩
  · obtain ⟨l', h1, rfl⟩ := List.mem_map.1 hl
    show (l'.2.map ownR).length ≤ 1000
    rw [List.length_map]; exact h.b l' h1
  · obtain ⟨l', h1, rfl⟩ := List.mem_map.1 hl
    obtain ⟨r', h2, rfl⟩ := List.mem_map.1 (show r ∈ l'.2.map ownR from hr)
    exact h.c l' h1 r' h2
theorem tables_both (s : Sn) (hb : SnB s) (nt n2 : Bool) (T : List Rs) (hT : TbB T) : ∃ (A B : Bool) (e : Int),
    Comp Tryz.prog 31 [snA (ownS s), .sl n2 ((T.map ownTs).map rsT)] (.tup [.bool A, .int .i64 e]) ∧
    Comp Tryz.prog 32 [snA (ownS s), .sl n2 ((T.map ownTs).map rsT)] (.tup [.bool B, .int .i64 e]) ∧
    Comp Tryz.prog 30 [rsA s, .sl nt (T.map rsT)] (.int .i64 e) ∧
    (e = 0 → Comp Tryz.prog 33 [rsA s, .sl nt (T.map rsT)] (.tup [.bool A, .bool B])) ∧ (e ≠ 0 → A = false ∧ B = false) := by
  have e := own_eq s
  have hbo := own_B hb
  have hTo := ownT_B hT
  have hE : tabE (ownS s) (T.map ownTs) = tabE s T := by rw [← e.tabE, own_tabE]
  by_cases h : tabE s T = 0
  · obtain ⟨ok, hM, hV⟩ := tabE_iff.1 h
    have hA : ∃ A : Bool, A = true ↔ ∀ y, vld s y → tbN T y ≤ bestZ s (tbN T) y := ⟨@decide _ (Classical.propDecidable _), @decide_eq_true_iff _ (Classical.propDecidable _)⟩
    have hB : ∃ A : Bool, A = true ↔ ∀ y, vld s y → tbN T y ≥ bestZ s (tbN T) y := ⟨@decide _ (Classical.propDecidable _), @decide_eq_true_iff _ (Classical.propDecidable _)⟩
    obtain ⟨A, hA⟩ := hA
    obtain ⟨B, hB⟩ := hB
    have hf : tbN (T.map ownTs) = tbN T := funext (own_tbN T)
    have hA' : A = true ↔ ∀ y, vld (ownS s) y → tbN (T.map ownTs) y ≤ bestZ (ownS s) (tbN (T.map ownTs)) y := by
      rw [hA, hf]
      exact ⟨fun h y hy => by rw [← e.best]; exact h y ((e.vld y).2 hy), fun h y hy => by rw [e.best]; exact h y ((e.vld y).1 hy)⟩
    have hB' : B = true ↔ ∀ y, vld (ownS s) y → tbN (T.map ownTs) y ≥ bestZ (ownS s) (tbN (T.map ownTs)) y := by
      rw [hB, hf]
      exact ⟨fun h y hy => by rw [← e.best]; exact h y ((e.vld y).2 hy), fun h y hy => by rw [e.best]; exact h y ((e.vld y).1 hy)⟩
    refine ⟨A, B, 0, fhold_ok (ownS s) hbo n2 _ hTo (hE.trans h) A hA', fclos_ok (ownS s) hbo n2 _ hTo (hE.trans h) B hB', ?_, fun _ => rShows_c s hb ok nt T (tab_ok_of hM hV) A B hA hB, fun h => absurd rfl h⟩
    have := rTabled_c s hb nt T hT
    rwa [h] at this
  · refine ⟨false, false, tabE s T, ?_, ?_, rTabled_c s hb nt T hT, fun h' => absurd h' h, fun _ => ⟨rfl, rfl⟩⟩
    · have := fhold_no (ownS s) hbo n2 _ hTo (by rw [hE]; exact h)
      rwa [hE] at this
    · have := fclos_no (ownS s) hbo n2 _ hTo (by rw [hE]; exact h)
      rwa [hE] at this
set_option maxHeartbeats 8000000 in
theorem fordTables_c (s : Sn) (nt : Bool) (T : List Rs) : Comp Tryz.prog 4 [snA s, .sl nt (T.map rsT)] (.bool true) := by
  have hgr := great02_c s
  have e1 : ((T.map rsT).length : Int) = T.length := by rw [List.length_map]
  cases hgs : grtS s with
  | true =>
    rw [hgs] at hgr
    refine Comp.body (T := tab) (res := [.tmp 4]) tab_ok [] Tryz.func4 rfl (by kernel_rfl) Tryz.ntmps4 rfl (by simp only [List.length_cons, List.length_nil]; decide) (by simp only [lowL, AV.low, snL, lowRs]; rfl) ?_; conv => whnf
    repeat' first | ((first | (with_reducible apply XBr.tt) | (refine XCall.ret hgr ?_) | (refine XCall.ret awake02_c ?_)); conv => whnf) | fail
    exact XOut.bool rfl
  | false =>
  rw [hgs] at hgr
  by_cases h8 : 8 < T.length
  · refine Comp.body (T := tab) (res := [.tmp 4]) tab_ok [] Tryz.func4 rfl (by kernel_rfl) Tryz.ntmps4 rfl (by simp only [List.length_cons, List.length_nil]; decide) (by simp only [lowL, AV.low, snL, lowRs]; rfl) ?_; conv => whnf
    repeat' first | ((with_reducible apply XBr.ff); conv => whnf) | ((with_reducible apply XBr.dec) <;> (intro h; first | (exfalso; omega) | ((try simp only [List.length_map] at h); first | (exfalso; omega) | (conv => whnf)))) | ((first | (refine XCall.ret hgr ?_) | (refine XCall.ret awake02_c ?_)); conv => whnf) | fail
    exact XOut.bool rfl
  have hb := (grt_B hgs).1
  have hbo := own_B hb
  have e := own_eq s
  have how := own02_c s hb
  have hth := theirs02_c s hb
  have hsa := same02_c s hb
  refine Comp.body (T := tab) (res := [.tmp 4]) tab_ok [] Tryz.func4 rfl (by kernel_rfl) Tryz.ntmps4 rfl (by simp only [List.length_cons, List.length_nil]; decide) (by simp only [lowL, AV.low, snL, lowRs]; rfl) ?_; conv => whnf
  repeat' first | ((with_reducible apply XBr.ff); conv => whnf) | ((with_reducible apply XBr.dec) <;> (intro h; first | (exfalso; omega) | ((try simp only [List.length_map] at h); first | (exfalso; omega) | (conv => whnf)))) | ((refine XCall.ret hgr ?_); conv => whnf) | fail
  refine Walk.loopK tab_ok [] [(1, _), (2, _), (31, _), (32, _)] ⟨rfl, rfl, rfl, rfl, trivial⟩ (fun p : Nat => p ≤ T.length ∧ ∀ q, q < p → (T.getD q default).2.length ≤ 70 ∧ ∀ m, m < (T.getD q default).2.length → ((T.getD q default).2.getD m default).2.length ≤ 20) (fun p => [(33, natA p)]) (fun _ => []) (fun p => T.length - p) 0 ⟨Nat.zero_le _, fun q hq => by omega⟩ rfl ⟨rfl, trivial⟩ ?_
  rintro p ⟨hp, hI⟩
  conv => whnf
  by_cases hlt : p < T.length
  · have e2 : (((T.getD p default).2.map rwA).length : Int) = (T.getD p default).2.length := by rw [List.length_map]
    by_cases h70 : 70 < (T.getD p default).2.length
    · skip
      repeat' first | ((with_reducible apply XBr.dec) <;> (intro h; first | (exfalso; omega) | ((try simp only [List.length_map] at h); first | (exfalso; omega) | (conv => whnf)))) | ((first | ((with_reducible refine XIx.nat ?_ ?_ ?_); omega; (intro _; rfl)) | (refine XCall.ret awake02_c ?_)); conv => whnf) | fail
      exact XOut.bool rfl
    repeat' first | ((with_reducible apply XBr.dec) <;> (intro h; first | (exfalso; omega) | ((try simp only [List.length_map] at h); first | (exfalso; omega) | (conv => whnf)))) | (((with_reducible refine XIx.nat ?_ ?_ ?_); omega; (intro _; rfl)); conv => whnf) | fail
    refine Walk.loopK tab_ok [] [(1, _), (2, _), (31, _), (32, _), (33, _), (41, _), (42, _)] ⟨rfl, rfl, rfl, rfl, rfl, rfl, rfl, trivial⟩ (fun m : Nat => m ≤ (T.getD p default).2.length ∧ ∀ q, q < m → ((T.getD p default).2.getD q default).2.length ≤ 20) (fun m => [(43, natA m)]) (fun _ => []) (fun m => (T.getD p default).2.length - m) 0 ⟨Nat.zero_le _, fun q hq => by omega⟩ rfl ⟨rfl, trivial⟩ ?_
    rintro m ⟨hm, hJ⟩
    conv => whnf
    by_cases hlt2 : m < (T.getD p default).2.length
    · have e3 : ((ints ((T.getD p default).2.getD m default).2).length : Int) = ((T.getD p default).2.getD m default).2.length := by rw [ints_len]
      by_cases h20 : 20 < ((T.getD p default).2.getD m default).2.length
      · skip
        repeat' first | ((with_reducible apply XBr.dec) <;> (intro h; first | (exfalso; omega) | ((try simp only [List.length_map] at h); first | (exfalso; omega) | (conv => whnf)))) | ((first | ((with_reducible refine XIx.nat ?_ ?_ ?_); omega; (intro _; rfl)) | (refine XCall.ret awake02_c ?_)); conv => whnf) | fail
        exact XOut.bool rfl
      repeat' first | ((with_reducible apply XBr.dec) <;> (intro h; first | (exfalso; omega) | ((try simp only [List.length_map] at h); first | (exfalso; omega) | (conv => whnf)))) | ((first | (with_reducible refine XInt.i64 (by omega) (by omega) ?_) | ((with_reducible refine XIx.nat ?_ ?_ ?_); omega; (intro _; rfl))); conv => whnf) | fail
      refine XAgain.go (m + 1) ⟨by omega, fun q hq => ?_⟩ (by omega) rfl ⟨rfl, rfl, rfl, rfl, rfl, rfl, rfl, rfl, trivial⟩
      by_cases e : q = m
      · subst e; omega
      · exact hJ q (by omega)
    obtain rfl : m = (T.getD p default).2.length := by omega
    repeat' first | ((with_reducible apply XBr.dec) <;> (intro h; first | (exfalso; omega) | ((try simp only [List.length_map] at h); first | (exfalso; omega) | (conv => whnf)))) | ((with_reducible refine XInt.i64 (by omega) (by omega) ?_); conv => whnf) | fail
    refine XAgain.go (p + 1) ⟨by omega, fun q hq => ?_⟩ (by omega) rfl ⟨rfl, rfl, rfl, rfl, rfl, trivial⟩
    by_cases e : q = p
    · subst e; exact ⟨by omega, hJ⟩
    · exact hI q (by omega)
  obtain rfl : p = T.length := by omega
  have hT : TbB T := by
    have hr : ∀ l ∈ T, l.2.length ≤ 70 ∧ ∀ r ∈ l.2, r.2.length ≤ 20 := fun l hl => by
      obtain ⟨j, hj, rfl⟩ := List.mem_iff_getElem.1 hl
      have h := hI j hj
      rw [List.getD_eq_getElem?_getD, List.getElem?_eq_getElem hj] at h
      refine ⟨h.1, fun r hr => ?_⟩
      obtain ⟨i, hi, rfl⟩ := List.mem_iff_getElem.1 hr
      have h' := h.2 i hi
      rw [List.getD_eq_getElem?_getD] at h'
      simpa [List.getElem?_eq_getElem hi] using h'
    exact ⟨by omega, fun l hl => by have := (hr l hl).1; omega, fun l hl r hr' => by have := (hr l hl).2 r hr'; omega⟩
  clear hI hlt
  repeat' first | ((with_reducible apply XBr.dec) <;> (intro h; first | (exfalso; omega) | ((try simp only [List.length_map] at h); first | (exfalso; omega) | (conv => whnf)))) | fail
  refine Walk.nilgr 9 23 rfl ?_
  refine Walk.thenFreeze 9 0 T.length ?_
  refine Walk.loopGK tab_ok [] [(1, _), (2, _), (53, _), (54, _)] ⟨rfl, rfl, rfl, rfl, trivial⟩ (fun k : Nat => k ≤ T.length) (fun k => [(9, .gr 0 k), (55, natA k)]) (fun k => [.grow 23 (T.take k).isEmpty (((T.take k).map ownTs).map rsT)]) (fun k => T.length - k) 0 (Nat.zero_le _) rfl ⟨rfl, rfl, trivial⟩ ?_ (fun _ _ => (show (1 : Nat) ≤ 1 from Nat.le_refl 1)) ?_
  · intro k _
    refine ⟨fun z hz => ?_, fun z hz => ?_⟩
    · rw [List.mem_singleton] at hz; subst hz; exact lowRs _
    · simp only [List.cons_append, List.nil_append, List.mem_cons, List.not_mem_nil, or_false] at hz
      rcases hz with rfl | rfl | rfl | rfl | rfl | rfl <;> first | rfl | exact lowRs _ | exact snCL s
  intro k hk
  have hnx := fun h => take_next (xs := T) (i := k) h
  have hall : k = T.length → T.take k = T := fun h => by rw [h, List.take_length]
  have hkl : (T.take k).length = k := by rw [List.length_take]; omega
  generalize T.take k = R at hnx hall hkl
  have hRl : ((R.map ownTs).map rsT).length = k := by rw [List.length_map, List.length_map]; exact hkl
  conv => whnf
  by_cases hlt : k < T.length
  · have hm := getD_mem (d := default) hlt
    have hdr := dupRows_rw (T.getD k default).1 (T.getD k default).2 (hT.b _ hm) (hT.c _ hm)
    repeat' first | ((with_reducible apply XBr.dec) <;> (intro h; first | (exfalso; omega) | ((try simp only [List.length_map] at h); first | (exfalso; omega) | (conv => whnf)))) | ((with_reducible refine XInt.i64 (by omega) (by omega) ?_); conv => whnf) | ((with_reducible refine XHold.mk ?_ ?_); (first | omega | rfl | decide | exact ⟨rfl, by decide, rfl⟩ | exact wideI _ | exact widePr _ | exact wideSk _ | (unfold Room; constructor <;> ((try simp) <;> omega)) | exact ⟨rfl, by simp only [List.length_map], by unfold Room; constructor <;> ((try simp) <;> omega)⟩ | exact ⟨by omega, by omega, by unfold Room; constructor <;> ((try simp) <;> omega)⟩); conv => whnf) | ((first | ((with_reducible refine XIx.nat ?_ ?_ ?_); omega; (intro _; rfl)) | (refine XCall.ret hdr ?_)); conv => whnf) | fail
    refine XAgainG.go (k + 1) [] (by omega) (by omega) ?_ ⟨rfl, rfl, rfl, rfl, rfl, rfl, trivial⟩
    show [Blk.grow _ (T.take (k + 1)).isEmpty (((T.take (k + 1)).map ownTs).map rsT)] ++ [] = _
    rw [hnx hlt, isEmpty_app, List.map_append, List.map_append]; rfl
  obtain rfl : k = T.length := by omega
  obtain rfl := hall rfl
  obtain ⟨A, B, ee, ho, hc, hta, hsh, hno⟩ := tables_both s hb nt R.isEmpty R hT
  repeat' first | ((with_reducible apply XBr.dec) <;> (intro h; first | (exfalso; omega) | ((try simp only [List.length_map] at h); first | (exfalso; omega) | (conv => whnf)))) | ((refine XFrz.go rfl rfl hRl ?_); conv => whnf) | fail
  refine Walk.place (Walk.place ?_)
  apply Walk.drawX tab_ok mixed_ok [] [4, 5, 6, 7] (fun fl => match fl with
    | [a, b, x, y] => [.dead, (bif a then .cells (bif x then snC (ownS s) else rsZ') else .free), (bif b then .cells (bif y then rsC s else rsZ') else .free)]
    | _ => []) [_, _, _, _, .ptr 1 0, .ptr 2 0, _, _] (by kernel_rfl) rfl
  · skip
    repeat' first | (with_reducible apply XAnd.mk) | ((first | (with_reducible apply Chk.go) | (with_reducible apply ChkA.go)); conv => whnf) | (exact XSame.mk rfl rfl) | (with_reducible exact trivial) | ((first | (refine XCall.ret how ?_) | (refine XCall.ret hth ?_)); conv => whnf) | (first | ((refine XFree.at 1 rfl ?_); (conv => whnf); exact XSame.mk rfl rfl) | ((refine XFree.at 2 rfl ?_); (conv => whnf); exact XSame.mk rfl rfl)) | fail
  · skip
    repeat' first | (with_reducible apply XAnd.mk) | ((first | (with_reducible apply Chk.go) | (with_reducible apply ChkF.go) | (with_reducible apply ChkB.go)); conv => whnf) | (exact XSame.mk rfl rfl) | (with_reducible exact trivial) | ((first | (refine XCall.ret how ?_) | (refine XCall.ret hth ?_)); conv => whnf) | (first | ((refine XFree.at 1 rfl ?_); (conv => whnf); exact XSame.mk rfl rfl) | ((refine XFree.at 2 rfl ?_); (conv => whnf); exact XSame.mk rfl rfl)) | fail
  conv => whnf
  by_cases he0 : ee = 0
  · subst he0
    have hsh := hsh rfl
    repeat' first | ((with_reducible apply XBr.beq) <;> (intro h; first | (exfalso; omega) | (conv => whnf))) | ((first | (refine XCall.ret hta ?_) | (refine XCall.ret ho ?_) | (refine XCall.ret hc ?_) | (refine XCall.ret hsh ?_)); conv => whnf) | fail
    have e5 : (R.map ownTs).length = R.length := by rw [List.length_map]
    have e4 : (((R.map ownTs).map rsT).length : Int) = R.length := by rw [hRl]
    refine Walk.loopK tab_ok [] [(2, _), (9, _), (12, _), (14, _), (15, _), (16, _), (17, _), (18, _), (19, _), (20, _), (92, _), (93, _)] ⟨rfl, rfl, rfl, rfl, rfl, rfl, rfl, rfl, rfl, rfl, rfl, rfl, trivial⟩ (fun k : Nat => k ≤ R.length) (fun k => [(94, natA k)]) (fun _ => [.dead, .cells (snC (ownS s)), .cells (rsC s)]) (fun k => R.length - k) 0 (Nat.zero_le _) rfl ⟨rfl, trivial⟩ ?_
    intro k hk
    conv => whnf
    by_cases hlt : k < R.length
    · have hm := getD_mem (d := default) hlt
      have heq := eqR_rw false (R.getD k default).1 (R.getD k default).2 (hT.b _ hm) (hT.c _ hm)
      have hg : (R.map ownTs).getD k default = ownTs (R.getD k default) := by
        rw [List.getD_eq_getElem?_getD, List.getD_eq_getElem?_getD, List.getElem?_map, List.getElem?_eq_getElem hlt]; rfl
      repeat' first | ((with_reducible apply XBr.tt); conv => whnf) | (with_reducible apply XBr.not) | ((with_reducible apply XBr.dec) <;> (intro h; first | (exfalso; omega) | ((try simp only [List.length_map] at h); first | (exfalso; omega) | (conv => whnf)))) | ((first | (with_reducible refine XInt.i64 (by omega) (by omega) ?_) | ((with_reducible refine XIx.nat ?_ ?_ ?_); omega; (intro _; rfl))); conv => whnf) | (rw [hg]; (refine XCall.ret heq ?_); conv => whnf) | fail
      exact XAgain.go (k + 1) (by omega) (by omega) rfl ⟨rfl, rfl, rfl, rfl, rfl, rfl, rfl, rfl, rfl, rfl, rfl, rfl, rfl, trivial⟩
    obtain rfl : k = R.length := by omega
    repeat' first | ((with_reducible apply XBr.dec) <;> (intro h; first | (exfalso; omega) | ((try simp only [List.length_map] at h); first | (exfalso; omega) | (conv => whnf)))) | fail
    refine Walk.norm tab_ok [] [(2, _), (12, _), (14, _), (15, _), (16, _), (17, _), (18, _), (19, _), (20, _)] ⟨rfl, rfl, rfl, rfl, rfl, rfl, rfl, rfl, rfl, trivial⟩ ?_
    conv => whnf
    repeat' first | ((first | (with_reducible apply XBr.tt) | (with_reducible apply XBr.ff)); conv => whnf) | ((with_reducible apply XBr.beq) <;> (intro h; first | (exfalso; omega) | (conv => whnf))) | ((first | (refine XCall.ret hsa ?_) | (refine XCall.ret awake02_c ?_)); conv => whnf) | ((with_reducible apply XBr.mk') <;> (intro h; conv => whnf)) | fail
    all_goals first | exact XOut.bool rfl | (exfalso; simp_all; done)
  · obtain ⟨rfl, rfl⟩ := hno he0
    repeat' first | ((with_reducible apply XBr.beq) <;> (intro h; first | (exfalso; omega) | (conv => whnf))) | ((first | (refine XCall.ret hta ?_) | (refine XCall.ret ho ?_) | (refine XCall.ret hc ?_)); conv => whnf) | fail
    have e5 : (R.map ownTs).length = R.length := by rw [List.length_map]
    have e4 : (((R.map ownTs).map rsT).length : Int) = R.length := by rw [hRl]
    refine Walk.loopK tab_ok [] [(2, _), (9, _), (12, _), (14, _), (15, _), (16, _), (17, _), (18, _), (19, _), (20, _), (92, _), (93, _)] ⟨rfl, rfl, rfl, rfl, rfl, rfl, rfl, rfl, rfl, rfl, rfl, rfl, trivial⟩ (fun k : Nat => k ≤ R.length) (fun k => [(94, natA k)]) (fun _ => [.dead, .cells (snC (ownS s)), .cells (rsC s)]) (fun k => R.length - k) 0 (Nat.zero_le _) rfl ⟨rfl, trivial⟩ ?_
    intro k hk
    conv => whnf
    by_cases hlt : k < R.length
    · have hm := getD_mem (d := default) hlt
      have heq := eqR_rw false (R.getD k default).1 (R.getD k default).2 (hT.b _ hm) (hT.c _ hm)
      have hg : (R.map ownTs).getD k default = ownTs (R.getD k default) := by
        rw [List.getD_eq_getElem?_getD, List.getD_eq_getElem?_getD, List.getElem?_map, List.getElem?_eq_getElem hlt]; rfl
      repeat' first | ((with_reducible apply XBr.tt); conv => whnf) | (with_reducible apply XBr.not) | ((with_reducible apply XBr.dec) <;> (intro h; first | (exfalso; omega) | ((try simp only [List.length_map] at h); first | (exfalso; omega) | (conv => whnf)))) | ((first | (with_reducible refine XInt.i64 (by omega) (by omega) ?_) | ((with_reducible refine XIx.nat ?_ ?_ ?_); omega; (intro _; rfl))); conv => whnf) | (rw [hg]; (refine XCall.ret heq ?_); conv => whnf) | fail
      exact XAgain.go (k + 1) (by omega) (by omega) rfl ⟨rfl, rfl, rfl, rfl, rfl, rfl, rfl, rfl, rfl, rfl, rfl, rfl, rfl, trivial⟩
    obtain rfl : k = R.length := by omega
    repeat' first | ((with_reducible apply XBr.dec) <;> (intro h; first | (exfalso; omega) | ((try simp only [List.length_map] at h); first | (exfalso; omega) | (conv => whnf)))) | fail
    refine Walk.norm tab_ok [] [(2, _), (12, _), (14, _), (15, _), (16, _), (17, _), (18, _), (19, _), (20, _)] ⟨rfl, rfl, rfl, rfl, rfl, rfl, rfl, rfl, rfl, trivial⟩ ?_
    conv => whnf
    repeat' first | ((first | (with_reducible apply XBr.tt) | (with_reducible apply XBr.ff)); conv => whnf) | ((with_reducible apply XBr.beq) <;> (intro h; first | (exfalso; omega) | (conv => whnf))) | ((first | (refine XCall.ret hsa ?_) | (refine XCall.ret awake02_c ?_)); conv => whnf) | ((with_reducible apply XBr.mk') <;> (intro h; conv => whnf)) | fail
    all_goals first | exact XOut.bool rfl | (exfalso; simp_all; done)
end GA
end
