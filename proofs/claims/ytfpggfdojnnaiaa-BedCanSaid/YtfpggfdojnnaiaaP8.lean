/- Part 8 of a proof: D59, D69, D56, D68, D70, D71, D65, D42, D72. -/
import Derived.Test.YtfpggfdojnnaiaaP7
section
namespace GA
open Go Go.RowKit Go.Proofs
set_option maxRecDepth 8000
set_option linter.unusedVariables false
set_option linter.unusedSimpArgs false

theorem nxF_iff {b : Bd} {m n k : Nat} : nxF b m n k = true ↔ k ∈ lvL b m n := by
  unfold nxF befF; exact decide_eq_true_iff
theorem W_iff {b : Bd} (ok : BedOk b) {n : Nat} : n < (b.room + 1).toNat ↔ (n : Int) ≤ b.room := by have := ok.r1; omega
theorem psR_ag {b : Bd} {p : Nat → Bool} {m n : Nat} (h : psR b p m n = true) : agB b p m n = true := by
  cases m <;> (rw [psR, Bool.and_eq_true] at h; exact h.2)
theorem psF_R {b : Bd} {p : Nat → Bool} {m n : Nat} (hm : m ≤ b.months.length) (h : psF b p m n = true) : psR b p m n = true := by
  by_cases h1 : m = b.months.length
  · subst h1; rwa [psF_end] at h
  · rw [psF_step (by omega), Bool.and_eq_true] at h; exact h.1
theorem psR_begin {b : Bd} (ok : BedOk b) {p : Nat → Bool} : ∀ (m n : Nat), m ≤ b.months.length → (n : Int) ≤ b.room → psR b p m n = true →
    ∃ c : Nat → Nat, c m = n ∧ inZ (c 0 : Nat) (b.first - b.unsure) (b.first + b.unsure) = true ∧ (∀ i, i ≤ m → (c i : Int) ≤ b.room ∧ agB b p i (c i) = true) ∧ ∀ i, i < m → c (i + 1) ∈ lvL b i (c i)
  | 0, n, _, hr, h => by
    have ha := psR_ag h
    rw [psR, Bool.and_eq_true] at h
    refine ⟨fun _ => n, rfl, h.1, fun i hi => ⟨hr, ?_⟩, fun i hi => by omega⟩
    obtain rfl : i = 0 := by omega
    exact ha
  | m + 1, n, hm, hr, h => by
    have ha := psR_ag h
    rw [psR, Bool.and_eq_true, List.any_eq_true] at h
    obtain ⟨⟨j, hj, h1⟩, -⟩ := h
    rw [Bool.and_eq_true] at h1
    obtain ⟨c, e, q1, q2, q3⟩ := psR_begin ok m j (by omega) ((W_iff ok).1 (List.mem_range.1 hj)) h1.1
    refine ⟨fun i => if i = m + 1 then n else c i, if_pos rfl, ?_, fun i hi => ?_, fun i hi => ?_⟩
    · dsimp only; rw [if_neg (by omega)]; exact q1
    · dsimp only
      by_cases hi2 : i = m + 1
      · rw [if_pos hi2]; subst hi2; exact ⟨hr, ha⟩
      · rw [if_neg hi2]; exact q2 i (by omega)
    · dsimp only
      rw [if_neg (show ¬ i = m + 1 by omega)]
      by_cases hi2 : i = m
      · rw [if_pos (by omega)]; subst hi2; rw [e]; exact nxF_iff.1 h1.2
      · rw [if_neg (by omega)]; exact q3 i (by omega)
theorem psG_course {b : Bd} (ok : BedOk b) {p : Nat → Bool} : ∀ (k n : Nat), k ≤ b.months.length → (n : Int) ≤ b.room → psF b p (b.months.length - k) n = true →
    ∃ c : Nat → Nat, c (b.months.length - k) = n ∧ ∀ m, b.months.length - k ≤ m → m ≤ b.months.length → (c m : Int) ≤ b.room ∧ agB b p m (c m) = true ∧ (m < b.months.length → c (m + 1) ∈ lvL b m (c m))
  | 0, n, _, hn, h => ⟨fun _ => n, rfl, fun m h1 h2 => by
      obtain rfl : m = b.months.length := by omega
      exact ⟨hn, psR_ag (psF_R (by omega) h), fun h => by omega⟩⟩
  | k + 1, n, hk, hn, h => by
    have ha := psR_ag (psF_R (by omega) h)
    rw [psF_step (by omega), Bool.and_eq_true, List.any_eq_true] at h
    obtain ⟨-, j, hj, h1⟩ := h
    rw [Bool.and_eq_true, show b.months.length - (k + 1) + 1 = b.months.length - k by omega] at h1
    obtain ⟨c, e, hc⟩ := psG_course ok k j (by omega) ((W_iff ok).1 (List.mem_range.1 hj)) h1.2
    refine ⟨fun m => if m = b.months.length - (k + 1) then n else c m, if_pos rfl, fun m q1 q2 => ?_⟩
    dsimp only
    rw [if_neg (show ¬ m + 1 = b.months.length - (k + 1) by omega)]
    by_cases hm : m = b.months.length - (k + 1)
    · rw [if_pos hm]
      subst hm
      refine ⟨hn, ha, fun _ => ?_⟩
      rw [show b.months.length - (k + 1) + 1 = b.months.length - k by omega, e]; exact nxF_iff.1 h1.1
    · rw [if_neg hm]; exact hc m (by omega) q2
theorem crs_join {b : Bd} {p : Nat → Bool} {m n : Nat} {c d : Nat → Nat} (hm : m ≤ b.months.length) (e : c m = n) (e2 : d m = n) (q1 : inZ (c 0 : Nat) (b.first - b.unsure) (b.first + b.unsure) = true) (q2 : ∀ i, i ≤ m → (c i : Int) ≤ b.room ∧ agB b p i (c i) = true) (q3 : ∀ i, i < m → c (i + 1) ∈ lvL b i (c i))
    (q4 : ∀ i, m ≤ i → i ≤ b.months.length → (d i : Int) ≤ b.room ∧ agB b p i (d i) = true ∧ (i < b.months.length → d (i + 1) ∈ lvL b i (d i))) : ∃ c, Crs b p c ∧ c m = n := by
  refine ⟨fun i => if i ≤ m then c i else d i, ⟨?_, fun i hi => ?_, fun i hi => ?_, fun i hi => ?_⟩, by dsimp only; rw [if_pos (Nat.le_refl _), e]⟩
  · rw [if_pos (Nat.zero_le _)]; exact q1
  · split
    · exact (q2 i (by omega)).1
    · exact (q4 i (by omega) hi).1
  · split
    · exact (q2 i (by omega)).2
    · exact (q4 i (by omega) hi).2.1
  · by_cases h1 : i + 1 ≤ m
    · rw [if_pos h1, if_pos (by omega)]; exact q3 i (by omega)
    · rw [if_neg h1]
      by_cases h2 : i ≤ m
      · obtain rfl : i = m := by omega
        rw [if_pos h2, e, ← e2]
        exact (q4 i (by omega) (by omega)).2.2 hi
      · rw [if_neg h2]; exact (q4 i (by omega) (by omega)).2.2 hi
theorem Crs.psR {b : Bd} (ok : BedOk b) {p : Nat → Bool} {c : Nat → Nat} (h : Crs b p c) : ∀ m, m ≤ b.months.length → GA.psR b p m (c m) = true
  | 0, _ => by rw [GA.psR, h.st, h.ag 0 (Nat.zero_le _)]; rfl
  | m + 1, hm => by
    rw [GA.psR, h.ag _ hm, Bool.and_true, List.any_eq_true]
    exact ⟨c m, List.mem_range.2 ((W_iff ok).2 (h.rm m (by omega))), by rw [h.psR ok m (by omega), nxF_iff.2 (h.nx m (by omega))]; rfl⟩
theorem Crs.psF {b : Bd} (ok : BedOk b) {p : Nat → Bool} {c : Nat → Nat} (h : Crs b p c) : ∀ k, k ≤ b.months.length → GA.psF b p (b.months.length - k) (c (b.months.length - k)) = true
  | 0, _ => by rw [Nat.sub_zero, psF_end]; exact h.psR ok _ (Nat.le_refl _)
  | k + 1, hk => by
    rw [psF_step (by omega), h.psR ok _ (by omega), Bool.true_and, List.any_eq_true, show b.months.length - (k + 1) + 1 = b.months.length - k by omega]
    refine ⟨c (b.months.length - k), List.mem_range.2 ((W_iff ok).2 (h.rm _ (by omega))), ?_⟩
    rw [h.psF ok k (by omega), Bool.and_true, nxF_iff]
    have := h.nx (b.months.length - (k + 1)) (by omega)
    rwa [show b.months.length - (k + 1) + 1 = b.months.length - k by omega] at this
theorem ps_iff {b : Bd} (ok : BedOk b) {p : Nat → Bool} {m n : Nat} (hm : m ≤ b.months.length) (hn : (n : Int) ≤ b.room) : psF b p m n = true ↔ ∃ c, Crs b p c ∧ c m = n := by
  constructor
  · intro h
    obtain ⟨c, e, q1, q2, q3⟩ := psR_begin ok m n hm hn (psF_R hm h)
    obtain ⟨d, e2, q4⟩ := psG_course ok (b.months.length - m) n (by omega) hn (by rw [show b.months.length - (b.months.length - m) = m by omega]; exact h)
    rw [show b.months.length - (b.months.length - m) = m by omega] at e2 q4
    exact crs_join hm e e2 q1 q2 q3 q4
  · rintro ⟨c, hc, rfl⟩
    have := hc.psF ok (b.months.length - m) (by omega)
    rwa [show b.months.length - (b.months.length - m) = m by omega] at this
theorem ps_cn {b : Bd} (ok : BedOk b) {p : Nat → Bool} {m n : Nat} (hm : m ≤ b.months.length) (hn : (n : Int) ≤ b.room) : psF b p m n = cnB b p m n := by
  rw [Bool.eq_iff_iff, ps_iff ok hm hn, cn_iff ok hm]
theorem ps_list {b : Bd} (ok : BedOk b) {p : Nat → Bool} {m : Nat} (hm : m ≤ b.months.length) : lstF (psF b p m) (b.room + 1).toNat = lstF (cnB b p m) 121 := by
  have h1 : lstF (psF b p m) (b.room + 1).toNat = lstF (cnB b p m) (b.room + 1).toNat := by
    unfold lstF
    refine congrArg _ (List.filter_congr fun n hn => ?_)
    exact ps_cn ok hm ((W_iff ok).1 (List.mem_range.1 hn))
  rw [h1]
  have h2 : ∀ d, lstF (cnB b p m) ((b.room + 1).toNat + d) = lstF (cnB b p m) (b.room + 1).toNat := by
    intro d
    induction d with
    | zero => rfl
    | succ d ih =>
      rw [show (b.room + 1).toNat + (d + 1) = ((b.room + 1).toNat + d) + 1 by omega, lstF_succ, if_neg ?_, ih]
      intro hc
      have := cnB_room hc
      omega
  have := h2 (121 - (b.room + 1).toNat)
  rw [show (b.room + 1).toNat + (121 - (b.room + 1).toNat) = 121 by have := ok.r2; omega] at this
  exact this.symm
end GA
end

section
namespace GA
open Go Go.RowKit Go.Proofs
set_option maxRecDepth 8000
set_option linter.unusedVariables false
set_option linter.unusedSimpArgs false

def lstG (f : Nat → Bool) (k W : Nat) : Option Nat := (List.range' k (W - k)).find? f
theorem lstG_step {f : Nat → Bool} {k W : Nat} (h : k < W) : lstG f k W = if f k = true then some k else lstG f (k + 1) W := by
  unfold lstG
  rw [show W - k = (W - (k + 1)) + 1 by omega, List.range'_succ, List.find?_cons]
  cases f k <;> simp
theorem lstG_end (f : Nat → Bool) (W : Nat) : lstG f W W = none := by unfold lstG; rw [Nat.sub_self]; rfl
theorem lstG_none {f : Nat → Bool} {k W : Nat} (h : ∀ n, k ≤ n → n < W → f n = false) : lstG f k W = none := by
  unfold lstG
  rw [List.find?_eq_none]
  intro x hx
  rw [List.mem_range'_1] at hx
  rw [h x hx.1 (by omega)]; simp
theorem lstG_is {f : Nat → Bool} {W y : Nat} (h1 : y < W) (h2 : f y = true) (h3 : ∀ z, z < y → f z = false) : ∀ k, k ≤ y → lstG f k W = some y := fun k hk => by
  obtain ⟨d, hd⟩ : ∃ d, y = k + d := ⟨y - k, by omega⟩
  induction d generalizing k with
  | zero => rw [lstG_step (by omega), show k = y by omega, if_pos h2]
  | succ d ih => rw [lstG_step (by omega), if_neg (by rw [h3 k (by omega)]; simp)]; exact ih (k + 1) (by omega) (by omega)
theorem find_min {f : Nat → Bool} {l : List Nat} {y : Nat} (hp : l.Pairwise (· < ·)) (h : l.find? f = some y) : ∀ z, z < y → z ∈ l → f z = false := fun z hz hm => by
  rw [List.find?_eq_some_iff_append] at h
  obtain ⟨-, l1, l2, rfl, ha⟩ := h
  rw [List.mem_append, List.mem_cons] at hm
  rw [List.pairwise_append, List.pairwise_cons] at hp
  rcases hm with hm | rfl | hm
  · have := ha z hm; simpa using this
  · omega
  · have := hp.2.1.1 z hm; omega
def okC (x : Bd) (m n : Nat) : Bool := psF x alwP m n && (m == 0 || nxF x (m - 1) (cr x (m - 1)) n)
theorem lv_sorted (b : Bd) (m n : Nat) : (lvL b m n).Pairwise (· < ·) := by
  unfold lvL lvF
  exact List.pairwise_lt_range'
theorem find_get {l : List Nat} {f : Nat → Bool} {x : Nat} (hx : x ∈ l) (hf : f x = true) : l.find? f = some ((l.find? f).getD 0) := by
  cases h : l.find? f with
  | none => exact absurd hf (List.find?_eq_none.1 h x hx)
  | some y => rfl
theorem okC_cr {x : Bd} (ok : BedOk x) (h : noneB x alwP = false) {m : Nat} (hm : m ≤ x.months.length) : lstG (okC x m) 0 (x.room + 1).toNat = some (cr x m) := by
  have r1 := ok.r1
  have r2 := ok.r2
  have hc := cr_cn ok h m hm
  have hr := cnB_room hc
  have hpc := fun (n : Nat) (hn : (n : Int) ≤ x.room) => ps_cn ok (p := alwP) (m := m) (n := n) hm hn
  refine lstG_is (y := cr x m) (by omega) ?_ ?_ 0 (Nat.zero_le _)
  · unfold okC
    rw [hpc _ hr, hc, Bool.true_and]
    cases m with
    | zero => rfl
    | succ m => 
      rw [Nat.add_sub_cancel, nxF_iff.2 (cr_nx ok h (by omega)), Bool.or_true]
  · intro z hz
    unfold okC
    rw [hpc z (by omega)]
    cases m with
    | zero =>
      obtain ⟨n, h1, h2⟩ := cn_some ok h 0 (Nat.zero_le _)
      have hg := find_get (List.mem_range.2 h1) h2
      have := find_min List.pairwise_lt_range hg z hz (List.mem_range.2 (by omega))
      rw [this]; rfl
    | succ m =>
      obtain ⟨k, h1, h2⟩ := cn_next ok (m := m) (by omega) (cr_cn ok h m (by omega))
      have hg := find_get h1 h2
      cases hn : nxF x m (cr x m) z with
      | false => rw [Nat.add_sub_cancel, hn]; simp
      | true =>
        have := find_min (lv_sorted x m (cr x m)) hg z hz (nxF_iff.1 hn)
        rw [this]; rfl
theorem okC_no {x : Bd} (ok : BedOk x) (h : noneB x alwP = true) : lstG (okC x 0) 0 (x.room + 1).toNat = none := lstG_none fun n _ hn => by
  have r1 := ok.r1
  have r2 := ok.r2
  unfold okC
  rw [ps_cn ok (Nat.zero_le _) (by omega), noneB_iff.1 h n (by omega)]; rfl
def outO (x : Bd) (m k : Nat) : Option (List Int) := match lstG (okC x m) k (x.room + 1).toNat with
  | some n => some (crL x m ++ [(n : Int)])
  | none => if m = 0 then none else some (crL x m)
end GA
end

section
namespace GA
open Go Go.RowKit Go.Proofs
set_option maxRecDepth 8000
set_option linter.unusedVariables false
set_option linter.unusedSimpArgs false

theorem none_mono {b b' : Bd} (ok : BedOk b) (ok' : BedOk b') (e : SameB b b') {p p' : Nat → Bool} (h : ∀ m n, agB b p m n = true → agB b' p' m n = true) (hn : noneB b p = false) : noneB b' p' = false := by
  obtain ⟨c, hc⟩ := (none_iff ok).1 hn
  exact (none_iff ok').2 ⟨c, hc.other e fun m _ h1 => h m _ h1⟩
theorem SameB.symm {b c : Bd} (h : SameB b c) : SameB c b := ⟨h.r.symm, h.f.symm, h.u.symm, h.m.symm⟩
theorem none_eq {b b' : Bd} (ok : BedOk b) (ok' : BedOk b') (e : SameB b b') {p p' : Nat → Bool} (h : ∀ m n, agB b p m n = true ↔ agB b' p' m n = true) : noneB b p = noneB b' p' := by
  cases h1 : noneB b p with
  | false => exact (none_mono ok ok' e (fun m n => (h m n).1) h1).symm
  | true =>
    cases h2 : noneB b' p' with
    | true => rfl
    | false =>
      rw [none_mono ok' ok e.symm (fun m n => (h m n).2) h2] at h1; cases h1
structure ClsL (u : Bd) (L : List Int) : Prop where
  b : ∀ x ∈ L, 0 ≤ x ∧ x < u.surveys.length
  le : L.length ≤ u.surveys.length
  lt : L.Pairwise (· < ·)
  all : clB u L = !L.isEmpty
  less : ∀ x ∈ L, clB u (L.filter fun i => i != x) = false
end GA
end

section
namespace GA
open Go Go.RowKit Go.Proofs
set_option pp.deepTerms true
set_option maxRecDepth 8000
set_option linter.unusedVariables false
set_option linter.unusedSimpArgs false

set_option maxHeartbeats 1000000 in
theorem refCan_c (b : Bd) (hm : b.months.length ≤ 100000) (hs : b.surveys.length ≤ 100000) : Comp Try.prog 63 [bedA b] (canV b) := by
  have hck := refCheck04_c b hm hs
  unfold canV
  by_cases hE : bedE b = 0
  · have ok := (bedE_iff b).1 hE
    have m1 := ok.m1
    have m2 := ok.m2
    have r2 := ok.r2
    have hnx := next_c b ok.toBedOk
    have hc1 := counts_c b true hs
    have hp1 := possible04_c b ok.toBedOk hs false alwP
    rw [hE] at hck
    have hls : ∀ m, m ≤ b.months.length → Comp Try.prog 103 [.sl false (bls (b.room + 1).toNat (psF b alwP m))] (slA (canL b m)) := fun m hm => by
      have h := refList_c false (psF b alwP m) (b.room + 1).toNat (by omega)
      rw [ps_list ok.toBedOk hm] at h
      exact h
    have elen : ((vecF (b.months.length + 1) fun m => AV.sl false (bls (b.room + 1).toNat (psF b alwP m))).length : Int) = b.months.length + 1 := by rw [vecF_len]; omega
    by_cases hP : possE b = 0
    · rw [if_neg (fun h => h hP)]
      refine Comp.body (T := tab) (res := [.tmp 2, .tmp 3]) tab_ok [] Try.func63 rfl (by kernel_rfl) Try.ntmps63 rfl (by simp only [List.length_cons, List.length_nil]; decide) (by simp only [lowL, bedL]; rfl) ?_; conv => whnf
      repeat' first | ((with_reducible apply XBr.bne) <;> (intro h; first | (exfalso; omega) | (conv => whnf))) | (with_reducible apply XAnd.mk) | ((first | (with_reducible apply Chk.go) | (with_reducible apply ChkA.go) | (with_reducible apply ChkF.go) | (with_reducible apply ChkB.go)); conv => whnf) | (exact XSame.mk rfl rfl) | (with_reducible exact trivial) | (apply Walk.drawN (id := 4) tab_ok mixed_ok [] [] (hsU _) [_, _, _, _, _, _, _] (by kernel_rfl) rfl) | ((first | (with_reducible apply XNext.mk) | (refine XCall.ret hck ?_) | (refine XCall.ret hnx ?_) | (refine XCall.ret hc1 ?_) | (refine XCall.ret hp1 ?_)); conv => whnf) | fail
      refine Walk.nilgr 6 27 rfl ?_
      refine Walk.loopGK tab_ok [] [(5, _)] ⟨rfl, trivial⟩ (fun i : Nat => i ≤ b.months.length + 1) (fun i => [(6, .gr 0 i), (7, natA i)]) (fun i => [.grow 27 (decide (i = 0)) (canS b i)]) (fun i => b.months.length + 1 - i) 0 (Nat.zero_le _) ?_ ⟨rfl, rfl, trivial⟩ ?_ (fun _ _ => (show (1 : Nat) ≤ 1 from Nat.le_refl 1)) ?_
      · have e0 : canS b 0 = [] := List.length_eq_zero_iff.1 (canS_len b 0)
        rw [e0]; rfl
      · intro i _
        refine ⟨fun z hz => ?_, fun z hz => ?_⟩
        · rw [List.mem_singleton] at hz; subst hz; exact rowsA_low _
        · simp only [List.cons_append, List.nil_append, List.mem_cons, List.not_mem_nil, or_false] at hz
          rcases hz with rfl | rfl | rfl <;> first | rfl | exact vecF_low fun _ _ => bls_low _ _
      intro i hi
      have hli := canS_len b i
      conv => whnf
      by_cases hlt : i < b.months.length + 1
      · have hcl := canL_ne hP (m := i) (by omega)
        have hls := hls i (by omega)
        have hcn : ((ints (canL b i)).length : Int) = (canL b i).length := by rw [ints_len]
        repeat' first | ((with_reducible apply XBr.dec) <;> (intro h; first | (exfalso; omega) | ((try simp only [List.length_map] at h); first | (exfalso; omega) | (conv => whnf)))) | ((with_reducible apply XBr.beq) <;> (intro h; first | (exfalso; omega) | (conv => whnf))) | ((with_reducible refine XInt.i64 (by omega) (by omega) ?_); conv => whnf) | ((with_reducible refine XHold.mk ?_ ?_); (first | omega | rfl | decide | exact ⟨rfl, by decide, rfl⟩ | exact wideI _ | exact widePr _ | exact wideSk _ | (unfold Room; constructor <;> ((try simp) <;> omega)) | exact ⟨rfl, by simp only [List.length_map], by unfold Room; constructor <;> ((try simp) <;> omega)⟩ | exact ⟨by omega, by omega, by unfold Room; constructor <;> ((try simp) <;> omega)⟩); conv => whnf) | ((first | (refine XIx.vecV i rfl (by omega) rfl ?_) | (refine XCall.ret hls ?_)); conv => whnf) | fail
        refine XAgainG.go (i + 1) [] (by omega) (by omega) ?_ ⟨rfl, rfl, rfl, trivial⟩
        show [Blk.grow _ (decide (i + 1 = 0)) (canS b (i + 1))] ++ _ = [Blk.grow _ (decide (i = 0) && false) (canS b i ++ [_])]
        have e : canS b (i + 1) = canS b i ++ [slA (canL b i)] := by
          unfold canS rowsA
          rw [vecF, dif_neg (by omega), Nat.add_sub_cancel, List.map_append]; rfl
        rw [e, Bool.and_false]; rfl
      · obtain rfl : i = b.months.length + 1 := by omega
        repeat' first | ((with_reducible apply XBr.dec) <;> (intro h; first | (exfalso; omega) | ((try simp only [List.length_map] at h); first | (exfalso; omega) | (conv => whnf)))) | fail
        exact ⟨Froz.tup (.cons (Froz.grow rfl hli (rowsA_low _)) (.cons (.low rfl) .nil))⟩
    · have hnn : noneB b alwP = true := by
        cases h : noneB b alwP with
        | true => rfl
        | false => exact absurd (possE_iff.2 ⟨ok, h⟩) hP
      have h7 : possE b = 7 := by unfold possE; rw [if_neg (fun h => h hE), if_pos hnn]
      have hc0 : canL b 0 = [] := lstF_nil fun i hi => noneB_iff.1 hnn i hi
      have hls := hls 0 (Nat.zero_le _)
      rw [hc0] at hls
      rw [if_pos hP, h7]
      refine Comp.body (T := tab) (res := [.tmp 2, .tmp 3]) tab_ok [] Try.func63 rfl (by kernel_rfl) Try.ntmps63 rfl (by simp only [List.length_cons, List.length_nil]; decide) (by simp only [lowL, bedL]; rfl) ?_; conv => whnf
      repeat' first | ((with_reducible apply XBr.bne) <;> (intro h; first | (exfalso; omega) | (conv => whnf))) | (with_reducible apply XAnd.mk) | ((first | (with_reducible apply Chk.go) | (with_reducible apply ChkA.go) | (with_reducible apply ChkF.go) | (with_reducible apply ChkB.go)); conv => whnf) | (exact XSame.mk rfl rfl) | (with_reducible exact trivial) | (apply Walk.drawN (id := 4) tab_ok mixed_ok [] [] (hsU _) [_, _, _, _, _, _, _] (by kernel_rfl) rfl) | ((first | (with_reducible apply XNext.mk) | (refine XCall.ret hck ?_) | (refine XCall.ret hnx ?_) | (refine XCall.ret hc1 ?_) | (refine XCall.ret hp1 ?_)); conv => whnf) | fail
      refine Walk.loopK tab_ok [] [(5, _)] ⟨rfl, trivial⟩ (fun _ : Unit => True) (fun _ => [(6, .sl true []), (7, natA 0)]) (fun _ => []) (fun _ => 0) () trivial rfl ⟨rfl, rfl, trivial⟩ ?_
      intro _ _
      conv => whnf
      repeat' first | ((with_reducible apply XBr.dec) <;> (intro h; first | (exfalso; omega) | ((try simp only [List.length_map] at h); first | (exfalso; omega) | (conv => whnf)))) | ((with_reducible apply XBr.beq) <;> (intro h; first | (exfalso; omega) | (conv => whnf))) | ((with_reducible refine XInt.i64 (by omega) (by omega) ?_); conv => whnf) | ((with_reducible refine XHold.mk ?_ ?_); (first | omega | rfl | decide | exact ⟨rfl, by decide, rfl⟩ | exact wideI _ | exact widePr _ | exact wideSk _ | (unfold Room; constructor <;> ((try simp) <;> omega)) | exact ⟨rfl, by simp only [List.length_map], by unfold Room; constructor <;> ((try simp) <;> omega)⟩ | exact ⟨by omega, by omega, by unfold Room; constructor <;> ((try simp) <;> omega)⟩); conv => whnf) | ((first | (refine XIx.vecV 0 rfl (by omega) rfl ?_) | (refine XCall.ret hls ?_)); conv => whnf) | fail
      · exact ⟨.low rfl⟩
      · exfalso; rename_i h; exact h rfl
  · have hP : possE b = bedE b := by unfold possE; rw [if_pos hE]
    rw [if_pos (by rw [hP]; exact hE), hP]
    generalize bedE b = e at hck hE
    refine Comp.body (T := tab) (res := [.tmp 2, .tmp 3]) tab_ok [] Try.func63 rfl (by kernel_rfl) Try.ntmps63 rfl (by simp only [List.length_cons, List.length_nil]; decide) (by simp only [lowL, bedL]; rfl) ?_; conv => whnf
    repeat' first | ((with_reducible apply XBr.bne) <;> (intro h; first | (exfalso; omega) | (conv => whnf))) | ((refine XCall.ret hck ?_); conv => whnf) | fail
    exact ⟨.low rfl⟩
end GA
end

section
namespace GA
open Go Go.RowKit Go.Proofs
set_option pp.deepTerms true
set_option maxRecDepth 8000
set_option linter.unusedVariables false
set_option linter.unusedSimpArgs false

theorem crL_next' (b : Bd) (k : Nat) : crL b (k + 1) = crL b k ++ [(cr b k : Int)] := by unfold crL; rw [vecF_succ]
theorem crL_len' (b : Bd) (k : Nat) : (crL b k).length = k := vecF_len _ _
theorem crL_get' (b : Bd) {k i : Nat} (h : i < k) : (crL b k).getD i default = (cr b i : Int) := vecF_get _ h
theorem XGet.intK {xs : List Int} {n e : Nat} {k : List AV → Prop} (j : Nat) (y : Nat) (he : e = j) (h1 : n = xs.length) (h2 : j < xs.length) (hy : xs.getD j default = (y : Int)) (h : k [natA y]) : XGet (ints xs) n e k := by
  subst he
  refine XGet.mapF (f := AV.int .i64) default h1 (by omega) ?_
  rw [hy]; exact h
def outT (o : Option (List Int)) : AV := match o with | none => .sl true [] | some l => .gr 2 l.length
def outH (o : Option (List Int)) : List Blk := match o with | none => [.dead, .dead] | some l => [.dead, .dead, .grow 3 false (ints l)]
theorem outO_step {x : Bd} {m k : Nat} (h : k < (x.room + 1).toNat) : outO x m k = if okC x m k = true then some (crL x m ++ [(k : Int)]) else outO x m (k + 1) := by
  unfold outO
  rw [lstG_step h]
  cases okC x m k <;> rfl
theorem outO_end (x : Bd) (m : Nat) : outO x m (x.room + 1).toNat = if m = 0 then none else some (crL x m) := by unfold outO; rw [lstG_end]
theorem outO_yes {x : Bd} (ok : BedOk x) (h : noneB x alwP = false) {m : Nat} (hm : m ≤ x.months.length) : outO x m 0 = outO x (m + 1) (x.room + 1).toNat := by
  rw [outO_end, if_neg (by omega)]
  unfold outO
  rw [okC_cr ok h hm, crL_next']
theorem outO_no {x : Bd} (ok : BedOk x) (h : noneB x alwP = true) : outO x 0 0 = none := by
  unfold outO
  rw [okC_no ok h]; rfl
theorem outO_cases (x : Bd) (m k : Nat) : (m = 0 ∧ outO x m k = none) ∨ (0 < m ∧ outO x m k = some (crL x m)) ∨ ∃ y : Int, outO x m k = some (crL x m ++ [y]) := by
  unfold outO
  cases lstG (okC x m) k (x.room + 1).toNat with
  | some n => exact .inr (.inr ⟨_, rfl⟩)
  | none =>
    by_cases h : m = 0
    · exact .inl ⟨h, if_pos h⟩
    · exact .inr (.inl ⟨by omega, if_neg h⟩)
theorem rowPut {l c : List Int} {i n k : Nat} (h : l.take i = c) (hn : n = i) : (ints l).take n ++ [natA k] = ints (c ++ [(k : Int)]) := by
  subst hn
  unfold ints
  rw [List.map_append, ← h, List.map_take]; rfl
theorem rowApp {c : List Int} {k : Nat} : ints c ++ [natA k] = ints (c ++ [(k : Int)]) := by
  unfold ints
  rw [List.map_append]; rfl
set_option maxHeartbeats 2000000 in
theorem refCourse_c (b : Bd) (hm : b.months.length ≤ 100000) (hs : b.surveys.length ≤ 100000) (month amount : Int) : Comp Try.prog 69 [bedA b, .int .i64 month, .int .i64 amount] (courseA b month amount) := by
  have hck := refCheck04_c b hm hs
  have e1 : ((b.months.map moA).length : Int) = b.months.length := by rw [List.length_map]
  have ho1 := off04_c month 0 ((b.months.map moA).length : Int)
  rw [show inZ month 0 ((b.months.map moA).length : Int) = inZ month 0 b.months.length by rw [e1]] at ho1
  have ho2 := off04_c amount 0 b.room
  unfold courseA
  by_cases hE : bedE b = 0
  · have okb := (bedE_iff b).1 hE
    have ok := okb.toBedOk
    have s1 := okb.s1
    have m1 := ok.m1
    have m2 := ok.m2
    have r1 := ok.r1
    have r2 := ok.r2
    rw [hE] at hck
    rw [if_neg (fun h => h hE)]
    cases hz1 : inZ month 0 b.months.length with
    | false =>
      rw [hz1] at ho1
      rw [if_pos rfl]
      refine Comp.body (T := tab) (res := [.tmp 6, .tmp 7]) tab_ok [9, 30] Try.func69 rfl (by kernel_rfl) Try.ntmps69 rfl (by simp only [List.length_cons, List.length_nil]; decide) (by simp only [lowL, bedL, AV.low]; rfl) ?_; conv => whnf
      repeat' first | ((with_reducible apply XBr.ff); conv => whnf) | (with_reducible apply XBr.not) | ((with_reducible apply XBr.bne) <;> (intro h; first | (exfalso; omega) | (conv => whnf))) | ((first | (refine XCall.ret hck ?_) | (refine XCall.ret ho1 ?_)); conv => whnf) | fail
      exact ⟨.low rfl⟩
    | true =>
      cases hz2 : inZ amount 0 b.room with
      | false =>
        rw [hz1] at ho1
        rw [hz2] at ho2
        rw [if_neg (by simp), if_pos rfl]
        refine Comp.body (T := tab) (res := [.tmp 6, .tmp 7]) tab_ok [9, 30] Try.func69 rfl (by kernel_rfl) Try.ntmps69 rfl (by simp only [List.length_cons, List.length_nil]; decide) (by simp only [lowL, bedL, AV.low]; rfl) ?_; conv => whnf
        repeat' first | ((first | (with_reducible apply XBr.tt) | (with_reducible apply XBr.ff)); conv => whnf) | (with_reducible apply XBr.not) | ((with_reducible apply XBr.bne) <;> (intro h; first | (exfalso; omega) | (conv => whnf))) | ((first | (refine XCall.ret hck ?_) | (refine XCall.ret ho1 ?_) | (refine XCall.ret ho2 ?_)); conv => whnf) | fail
        exact ⟨.low rfl⟩
      | true =>
        rw [hz1] at ho1
        rw [hz2] at ho2
        rw [if_neg (by simp), if_neg (by simp)]
        obtain ⟨m, hmo⟩ : ∃ m : Nat, month = m := ⟨month.toNat, by simp [inZ] at hz1; omega⟩
        obtain ⟨n, hna⟩ : ∃ n : Nat, amount = n := ⟨amount.toNat, by simp [inZ] at hz2; omega⟩
        subst hmo hna
        have hmb : m ≤ b.months.length := by simp [inZ] at hz1; omega
        have hnb : (n : Int) ≤ b.room := by simp [inZ] at hz2; omega
        simp only [Int.toNat_natCast]
        have okx := addS_ok ok m n
        have hsl : (addS b m n).surveys.length = b.surveys.length + 1 := by unfold addS; simp
        have hc1 := counts_c (addS b m n) true (by omega)
        have hp1 := possible04_c (addS b m n) okx (by omega) false alwP
        change Comp Try.prog _ [_, nextA b, _] (.sl false (vecF (b.months.length + 1) fun i => .sl false (bls (b.room + 1).toNat (psF (addS b m n) alwP i)))) at hp1
        have elen : ((vecF (b.months.length + 1) fun i => AV.sl false (bls (b.room + 1).toNat (psF (addS b m n) alwP i))).length : Int) = b.months.length + 1 := by rw [vecF_len]; omega
        have hnx := next_c b ok
        have hW : (((b.room + 1).toNat : Nat) : Int) = b.room + 1 := by omega
        have hend := outO_end (addS b m n)
        change ∀ i, outO (addS b m n) i (b.room + 1).toNat = _ at hend
        have hstep := fun i k h => outO_step (x := addS b m n) (m := i) (k := k) h
        change ∀ i k, k < (b.room + 1).toNat → _ at hstep
        have hyes := fun h i hi => outO_yes okx h (m := i) hi
        change _ → ∀ i, i ≤ b.months.length → outO _ _ _ = outO _ _ (b.room + 1).toNat at hyes
        have hno := outO_no okx
        have hcs := outO_cases (addS b m n)
        have hok : ∀ i k, okC (addS b m n) i k = (psF (addS b m n) alwP i k && (i == 0 || nxF b (i - 1) (cr (addS b m n) (i - 1)) k)) := fun _ _ => rfl
        refine Comp.body (T := tab) (res := [.tmp 6, .tmp 7]) tab_ok [9, 30] Try.func69 rfl (by kernel_rfl) Try.ntmps69 rfl (by simp only [List.length_cons, List.length_nil]; decide) (by simp only [lowL, bedL, AV.low]; rfl) ?_; conv => whnf
        repeat' first | ((with_reducible apply XBr.tt); conv => whnf) | (with_reducible apply XBr.not) | ((with_reducible apply XBr.bne) <;> (intro h; first | (exfalso; omega) | (conv => whnf))) | ((with_reducible refine XHold.mk ?_ ?_); (first | omega | rfl | decide | exact ⟨rfl, by decide, rfl⟩ | exact wideI _ | exact widePr _ | exact wideSk _ | (unfold Room; constructor <;> ((try simp) <;> omega)) | exact ⟨rfl, by simp only [List.length_map], by unfold Room; constructor <;> ((try simp) <;> omega)⟩ | exact ⟨by omega, by omega, by unfold Room; constructor <;> ((try simp) <;> omega)⟩); conv => whnf) | ((first | (refine XCall.ret hck ?_) | (refine XCall.ret ho1 ?_) | (refine XCall.ret ho2 ?_) | (refine XCall.ret hnx ?_) | (refine XHold.mk (wideSu _) ?_)); conv => whnf) | fail
        refine Walk.keep tab_ok [] [] _ [(3, .pim (bedC b)), (9, .pim (bedC (addS b m n))), (10, nextA b)] rfl (fun x hx => by cases hx) ⟨⟨_, rfl, .same (lowBd b)⟩, ⟨_, rfl, .all (Froz.ptr rfl (bedOne _) ?_)⟩, ⟨_, rfl, .same (nextA_low b)⟩, trivial⟩ rfl ?_
        · refine .cons (.low rfl) (.cons (.low rfl) (.cons (.low rfl) (.cons (.low (lowMo _)) (.cons ?_ .nil))))
          have hEq : ([] ++ List.map suA b.surveys ++ [suA ⟨m, n, n⟩]) = (addS b m n).surveys.map suA := by
            show _ = (b.surveys ++ [_]).map suA
            rw [List.map_append]; rfl
          have hlo : lowL 0 ([] ++ List.map suA b.surveys ++ [suA ⟨m, n, n⟩]) = true := by rw [hEq]; exact lowSu _
          show Froz _ _ _ (.sl false ((addS b m n).surveys.map suA))
          rw [← hEq]
          exact Froz.grow rfl (by rw [List.length_append, List.length_append]; rfl) hlo
        conv => whnf
        repeat' first | (with_reducible apply XAnd.mk) | ((first | (with_reducible apply Chk.go) | (with_reducible apply ChkA.go) | (with_reducible apply ChkF.go) | (with_reducible apply ChkB.go)); conv => whnf) | (exact XSame.mk rfl rfl) | (with_reducible exact trivial) | (apply Walk.drawN (id := 11) tab_ok mixed_ok [9, 30] [] (hsU _) [_, _, _, _, _, _] (by kernel_rfl) rfl) | ((first | (with_reducible apply XNext.mk) | (refine XCall.ret hc1 ?_) | (refine XCall.ret hp1 ?_)); conv => whnf) | fail
        refine Walk.loopK tab_ok [] [(3, _), (10, _), (11, _)] ⟨rfl, rfl, rfl, trivial⟩ (fun i : Nat => i ≤ b.months.length + 1 ∧ (noneB (addS b m n) alwP = true → i = 0)) (fun i => [(12, outT (outO (addS b m n) i (b.room + 1).toNat)), (13, natA i)]) (fun i => outH (outO (addS b m n) i (b.room + 1).toNat)) (fun i => b.months.length + 1 - i) 0 ⟨Nat.zero_le _, fun _ => rfl⟩ (by rw [hend, if_pos rfl] <;> rfl) ⟨by rw [hend, if_pos rfl] <;> rfl, rfl, trivial⟩ ?_
        rintro i ⟨hi, hz⟩
        conv => whnf
        by_cases hlt : i < b.months.length + 1
        · skip
          repeat' first | ((with_reducible apply XBr.dec) <;> (intro h; first | (exfalso; omega) | ((try simp only [List.length_map] at h); first | (exfalso; omega) | (conv => whnf)))) | fail
          refine Walk.loopK tab_ok [] [(3, _), (10, _), (11, _), (13, _)] ⟨rfl, rfl, rfl, rfl, trivial⟩ (fun k : Nat => k ≤ (b.room + 1).toNat) (fun k => [(12, outT (outO (addS b m n) i k)), (14, .int .i64 ((k : Int) - 1))]) (fun k => outH (outO (addS b m n) i k)) (fun k => k) (b.room + 1).toNat (Nat.le_refl _) rfl ⟨rfl, congrArg (fun z => some (AV.int .i64 z)) (show b.room = (((b.room + 1).toNat : Nat) : Int) - 1 by omega), trivial⟩ ?_
          intro k hk
          cases k with
          | succ k =>
            rw [show (((k + 1 : Nat) : Int) - 1) = (k : Int) by omega]
            have hst := hstep i k (by omega)
            rw [hok] at hst
            cases hps : psF (addS b m n) alwP i k with
            | false =>
              rw [hps, Bool.false_and, if_neg (by simp)] at hst
              rcases hcs i (k + 1) with ⟨h0, ho⟩ | ⟨h0, ho⟩ | ⟨y, ho⟩
              all_goals
                have hs := hst.trans ho
                rw [ho]
                conv => whnf
                repeat' first | ((with_reducible apply XBr.ff); conv => whnf) | ((with_reducible apply XBr.dec) <;> (intro h; first | (exfalso; omega) | ((try simp only [List.length_map] at h); first | (exfalso; omega) | (conv => whnf)))) | ((with_reducible refine XInt.i64 (by omega) (by omega) ?_); conv => whnf) | (with_reducible apply XAnd.mk) | ((first | (with_reducible apply Chk.go) | (with_reducible apply ChkA.go) | (with_reducible apply ChkF.go) | (with_reducible apply ChkB.go)); conv => whnf) | (exact XSame.mk rfl rfl) | (with_reducible exact trivial) | (apply Walk.drawN (id := 19) tab_ok mixed_ok [9, 30] [] (hsU _) [_, _, _, _, _, _, _, _, _, _, _, _, _, _, _, _, _, _, _, _, _, _, _, _, _, _, _, _] (by kernel_rfl) rfl) | ((first | (with_reducible apply XNext.mk) | (refine XIx.vecV i (by with_reducible rfl) (by omega) rfl ?_) | ((refine XIx.bls k (by with_reducible rfl) (by omega) ?_); rw [hps])); conv => whnf) | fail
                exact XAgain.go k (by omega) (by omega) (by rw [hs] <;> rfl) ⟨rfl, rfl, rfl, rfl, by rw [hs] <;> rfl, rfl, trivial⟩
            | true =>
              rw [hps, Bool.true_and] at hst
              by_cases hi0 : i = 0
              · rw [if_pos (by rw [hi0]; rfl)] at hst
                have hs := hst
                rcases hcs i (k + 1) with ⟨h0, ho⟩ | ⟨h0, ho⟩ | ⟨y, ho⟩
                · rw [ho]
                  conv => whnf
                  repeat' first | ((with_reducible apply XBr.tt); conv => whnf) | ((with_reducible apply XBr.dec) <;> (intro h; first | (exfalso; omega) | ((try simp only [List.length_map] at h); first | (exfalso; omega) | (conv => whnf)))) | ((with_reducible apply XBr.beq) <;> (intro h; first | (exfalso; omega) | (conv => whnf))) | ((with_reducible refine XInt.i64 (by omega) (by omega) ?_); conv => whnf) | ((with_reducible refine XHold.mk ?_ ?_); (first | omega | rfl | decide | exact ⟨rfl, by decide, rfl⟩ | exact wideI _ | exact widePr _ | exact wideSk _ | (unfold Room; constructor <;> ((try simp) <;> omega)) | exact ⟨rfl, by simp only [List.length_map], by unfold Room; constructor <;> ((try simp) <;> omega)⟩ | exact ⟨by omega, by omega, by unfold Room; constructor <;> ((try simp) <;> omega)⟩); conv => whnf) | (with_reducible apply XAnd.mk) | ((first | (with_reducible apply Chk.go) | (with_reducible apply ChkA.go) | (with_reducible apply ChkF.go) | (with_reducible apply ChkB.go)); conv => whnf) | (exact XSame.mk rfl rfl) | (with_reducible exact trivial) | (apply Walk.drawN (id := 19) tab_ok mixed_ok [9, 30] [] (hsU _) [_, _, _, _, _, _, _, _, _, _, _, _, _, _, _, _, _, _, _, _, _, _, _, _, _, _, _, _] (by kernel_rfl) rfl) | ((first | (with_reducible apply XNext.mk) | (refine XIx.vecV i (by with_reducible rfl) (by omega) rfl ?_) | ((refine XIx.bls k (by with_reducible rfl) (by omega) ?_); rw [hps])); conv => whnf) | fail
                  have hc0 : crL (addS b m n) i = [] := List.length_eq_zero_iff.1 (by rw [crL_len']; exact hi0)
                  rw [hc0] at hs
                  exact XAgain.go k (by omega) (by omega) (by rw [hs] <;> rfl) ⟨rfl, rfl, rfl, rfl, by rw [hs] <;> rfl, rfl, trivial⟩
                · omega
                · have hll : (crL (addS b m n) i).length = i := crL_len' _ _
                  have hl1 : (crL (addS b m n) i ++ [y]).length = i + 1 := by rw [List.length_append, hll]; rfl
                  have hl2 : (crL (addS b m n) i ++ [y]).take i = crL (addS b m n) i := by rw [List.take_append_of_le_length (by omega), List.take_of_length_le (by omega)]
                  rw [ho]
                  generalize crL (addS b m n) i ++ [y] = l at hl1 hl2
                  have hil : (ints l).length = l.length := ints_len _
                  conv => whnf
                  repeat' first | ((with_reducible apply XBr.tt); conv => whnf) | ((with_reducible apply XBr.dec) <;> (intro h; first | (exfalso; omega) | ((try simp only [List.length_map] at h); first | (exfalso; omega) | (conv => whnf)))) | ((with_reducible apply XBr.beq) <;> (intro h; first | (exfalso; omega) | (conv => whnf))) | ((with_reducible refine XInt.i64 (by omega) (by omega) ?_); conv => whnf) | ((with_reducible refine XHold.mk ?_ ?_); (first | omega | rfl | decide | exact ⟨rfl, by decide, rfl⟩ | exact wideI _ | exact widePr _ | exact wideSk _ | (unfold Room; constructor <;> ((try simp) <;> omega)) | exact ⟨rfl, by simp only [List.length_map], by unfold Room; constructor <;> ((try simp) <;> omega)⟩ | exact ⟨by omega, by omega, by unfold Room; constructor <;> ((try simp) <;> omega)⟩); conv => whnf) | (with_reducible apply XAnd.mk) | ((first | (with_reducible apply Chk.go) | (with_reducible apply ChkA.go) | (with_reducible apply ChkF.go) | (with_reducible apply ChkB.go)); conv => whnf) | (exact XSame.mk rfl rfl) | (with_reducible exact trivial) | (apply Walk.drawN (id := 19) tab_ok mixed_ok [9, 30] [] (hsU _) [_, _, _, _, _, _, _, _, _, _, _, _, _, _, _, _, _, _, _, _, _, _, _, _, _, _, _, _] (by kernel_rfl) rfl) | ((first | (with_reducible apply XNext.mk) | (refine XIx.vecV i (by with_reducible rfl) (by omega) rfl ?_) | ((refine XIx.bls k (by with_reducible rfl) (by omega) ?_); rw [hps]) | (refine XHold.mk ⟨⟨by omega, by omega, by omega, by omega⟩, hil, rfl⟩ ?_) | (refine XOsApp.within ?_) | (refine XHold.mk ⟨rfl, rfl, by omega, by (simp only [List.length_cons, List.length_nil]; omega)⟩ ?_)); conv => whnf) | fail
                  exact XAgain.go k (by omega) (by omega) (by rw [hs]; exact congrArg (fun z => [Blk.dead, .dead, .grow _ false z]) (rowPut hl2 (by omega)).symm) ⟨rfl, rfl, rfl, rfl, by rw [hs]; exact congrArg (fun z => some (AV.gr 2 z)) (by rw [List.length_append, hll, hl1] <;> rfl), rfl, trivial⟩
              · have hnf : noneB (addS b m n) alwP = false := by
                  cases h : noneB (addS b m n) alwP with
                  | false => rfl
                  | true => exact absurd (hz h) hi0
                have hcr : ((cr (addS b m n) (i - 1) : Nat) : Int) ≤ b.room := by
                  have h := cnB_room (cr_cn okx hnf (i - 1) (by show i - 1 ≤ b.months.length; omega))
                  exact h
                rw [show (i == 0) = false by simp [hi0], Bool.false_or] at hst
                obtain ⟨q, hnx2⟩ : ∃ q, nxF b (i - 1) (cr (addS b m n) (i - 1)) k = q := ⟨_, rfl⟩
                rw [hnx2] at hst
                have hll : (crL (addS b m n) i).length = i := crL_len' _ _
                have hlg := crL_get' (addS b m n) (k := i) (i := i - 1) (by omega)
                cases q with
                | false =>
                  rw [if_neg (by simp)] at hst
                  rcases hcs i (k + 1) with ⟨h0, ho⟩ | ⟨h0, ho⟩ | ⟨y, ho⟩
                  · omega
                  · have hs := hst.trans ho
                    rw [ho]
                    have hil : (ints (crL (addS b m n) i)).length = (crL (addS b m n) i).length := ints_len _
                    conv => whnf
                    repeat' first | ((first | (with_reducible apply XBr.tt) | (with_reducible apply XBr.ff)); conv => whnf) | ((with_reducible apply XBr.dec) <;> (intro h; first | (exfalso; omega) | ((try simp only [List.length_map] at h); first | (exfalso; omega) | (conv => whnf)))) | ((with_reducible apply XBr.beq) <;> (intro h; first | (exfalso; omega) | (conv => whnf))) | ((with_reducible refine XInt.i64 (by omega) (by omega) ?_); conv => whnf) | (with_reducible apply XAnd.mk) | ((first | (with_reducible apply Chk.go) | (with_reducible apply ChkA.go) | (with_reducible apply ChkF.go) | (with_reducible apply ChkB.go)); conv => whnf) | (exact XSame.mk rfl rfl) | (with_reducible exact trivial) | (apply Walk.drawN (id := 19) tab_ok mixed_ok [9, 30] [] (hsU _) [_, _, _, _, _, _, _, _, _, _, _, _, _, _, _, _, _, _, _, _, _, _, _, _, _, _, _, _] (by kernel_rfl) rfl) | ((first | (with_reducible apply XNext.mk) | (refine XIx.vecV i (by with_reducible rfl) (by omega) rfl ?_) | ((refine XIx.bls k (by with_reducible rfl) (by omega) ?_); rw [hps]) | (refine XIx.vecV (i - 1) (by omega) (by omega) rfl ?_) | (refine XHold.mk ⟨hil, rfl, by omega, by omega⟩ ?_) | (refine XGet.intK (i - 1) (cr (addS b m n) (i - 1)) (by omega) rfl (by omega) hlg ?_) | (refine XIx.vecV (cr (addS b m n) (i - 1)) (by with_reducible rfl) (by omega) rfl ?_) | ((refine XIx.bls k (by with_reducible rfl) (by omega) ?_); rw [hnx2])); conv => whnf) | fail
                    exact XAgain.go k (by omega) (by omega) (by rw [hs] <;> rfl) ⟨rfl, rfl, rfl, rfl, by rw [hs] <;> rfl, rfl, trivial⟩
                  · have hs := hst.trans ho
                    rw [ho]
                    have hl1 : (crL (addS b m n) i ++ [y]).length = i + 1 := by rw [List.length_append, hll]; rfl
                    have hlg : (crL (addS b m n) i ++ [y]).getD (i - 1) default = (cr (addS b m n) (i - 1) : Int) := by rw [getD_app rfl, if_pos (by omega)]; exact hlg
                    have hil : (ints (crL (addS b m n) i ++ [y])).length = (crL (addS b m n) i ++ [y]).length := ints_len _
                    conv => whnf
                    repeat' first | ((first | (with_reducible apply XBr.tt) | (with_reducible apply XBr.ff)); conv => whnf) | ((with_reducible apply XBr.dec) <;> (intro h; first | (exfalso; omega) | ((try simp only [List.length_map] at h); first | (exfalso; omega) | (conv => whnf)))) | ((with_reducible apply XBr.beq) <;> (intro h; first | (exfalso; omega) | (conv => whnf))) | ((with_reducible refine XInt.i64 (by omega) (by omega) ?_); conv => whnf) | (with_reducible apply XAnd.mk) | ((first | (with_reducible apply Chk.go) | (with_reducible apply ChkA.go) | (with_reducible apply ChkF.go) | (with_reducible apply ChkB.go)); conv => whnf) | (exact XSame.mk rfl rfl) | (with_reducible exact trivial) | (apply Walk.drawN (id := 19) tab_ok mixed_ok [9, 30] [] (hsU _) [_, _, _, _, _, _, _, _, _, _, _, _, _, _, _, _, _, _, _, _, _, _, _, _, _, _, _, _] (by kernel_rfl) rfl) | ((first | (with_reducible apply XNext.mk) | (refine XIx.vecV i (by with_reducible rfl) (by omega) rfl ?_) | ((refine XIx.bls k (by with_reducible rfl) (by omega) ?_); rw [hps]) | (refine XIx.vecV (i - 1) (by omega) (by omega) rfl ?_) | (refine XHold.mk ⟨hil, rfl, by omega, by omega⟩ ?_) | (refine XGet.intK (i - 1) (cr (addS b m n) (i - 1)) (by omega) rfl (by omega) hlg ?_) | (refine XIx.vecV (cr (addS b m n) (i - 1)) (by with_reducible rfl) (by omega) rfl ?_) | ((refine XIx.bls k (by with_reducible rfl) (by omega) ?_); rw [hnx2])); conv => whnf) | fail
                    exact XAgain.go k (by omega) (by omega) (by rw [hs] <;> rfl) ⟨rfl, rfl, rfl, rfl, by rw [hs] <;> rfl, rfl, trivial⟩
                | true =>
                  rw [if_pos rfl] at hst
                  have hs := hst
                  rcases hcs i (k + 1) with ⟨h0, ho⟩ | ⟨h0, ho⟩ | ⟨y, ho⟩
                  · omega
                  · rw [ho]
                    have hil : (ints (crL (addS b m n) i)).length = (crL (addS b m n) i).length := ints_len _
                    conv => whnf
                    repeat' first | ((with_reducible apply XBr.tt); conv => whnf) | ((with_reducible apply XBr.dec) <;> (intro h; first | (exfalso; omega) | ((try simp only [List.length_map] at h); first | (exfalso; omega) | (conv => whnf)))) | ((with_reducible apply XBr.beq) <;> (intro h; first | (exfalso; omega) | (conv => whnf))) | ((with_reducible refine XInt.i64 (by omega) (by omega) ?_); conv => whnf) | ((with_reducible refine XHold.mk ?_ ?_); (first | omega | rfl | decide | exact ⟨rfl, by decide, rfl⟩ | exact wideI _ | exact widePr _ | exact wideSk _ | (unfold Room; constructor <;> ((try simp) <;> omega)) | exact ⟨rfl, by simp only [List.length_map], by unfold Room; constructor <;> ((try simp) <;> omega)⟩ | exact ⟨by omega, by omega, by unfold Room; constructor <;> ((try simp) <;> omega)⟩); conv => whnf) | (with_reducible apply XAnd.mk) | ((first | (with_reducible apply Chk.go) | (with_reducible apply ChkA.go) | (with_reducible apply ChkF.go) | (with_reducible apply ChkB.go)); conv => whnf) | (exact XSame.mk rfl rfl) | (with_reducible exact trivial) | (apply Walk.drawN (id := 19) tab_ok mixed_ok [9, 30] [] (hsU _) [_, _, _, _, _, _, _, _, _, _, _, _, _, _, _, _, _, _, _, _, _, _, _, _, _, _, _, _] (by kernel_rfl) rfl) | ((first | (with_reducible apply XNext.mk) | (refine XIx.vecV i (by with_reducible rfl) (by omega) rfl ?_) | ((refine XIx.bls k (by with_reducible rfl) (by omega) ?_); rw [hps]) | (refine XIx.vecV (i - 1) (by omega) (by omega) rfl ?_) | (refine XHold.mk ⟨hil, rfl, by omega, by omega⟩ ?_) | (refine XGet.intK (i - 1) (cr (addS b m n) (i - 1)) (by omega) rfl (by omega) hlg ?_) | (refine XIx.vecV (cr (addS b m n) (i - 1)) (by with_reducible rfl) (by omega) rfl ?_) | ((refine XIx.bls k (by with_reducible rfl) (by omega) ?_); rw [hnx2]) | (refine XHold.mk ⟨⟨by omega, by omega, by omega, by omega⟩, hil, rfl⟩ ?_) | (refine XOsApp.full (by omega) ?_)); conv => whnf) | fail
                    exact XAgain.go k (by omega) (by omega) (by rw [hs]; exact congrArg (fun z => [Blk.dead, .dead, .grow _ false z]) rowApp.symm) ⟨rfl, rfl, rfl, rfl, by rw [hs]; exact congrArg (fun z => some (AV.gr 2 z)) (by rw [List.length_append] <;> rfl), rfl, trivial⟩
                  · have hl1 : (crL (addS b m n) i ++ [y]).length = i + 1 := by rw [List.length_append, hll]; rfl
                    have hlg : (crL (addS b m n) i ++ [y]).getD (i - 1) default = (cr (addS b m n) (i - 1) : Int) := by rw [getD_app rfl, if_pos (by omega)]; exact hlg
                    have hl2 : (crL (addS b m n) i ++ [y]).take i = crL (addS b m n) i := by rw [List.take_append_of_le_length (by omega), List.take_of_length_le (by omega)]
                    rw [ho]
                    generalize crL (addS b m n) i ++ [y] = l at hl1 hl2 hlg
                    have hil : (ints l).length = l.length := ints_len _
                    conv => whnf
                    repeat' first | ((with_reducible apply XBr.tt); conv => whnf) | ((with_reducible apply XBr.dec) <;> (intro h; first | (exfalso; omega) | ((try simp only [List.length_map] at h); first | (exfalso; omega) | (conv => whnf)))) | ((with_reducible apply XBr.beq) <;> (intro h; first | (exfalso; omega) | (conv => whnf))) | ((with_reducible refine XInt.i64 (by omega) (by omega) ?_); conv => whnf) | ((with_reducible refine XHold.mk ?_ ?_); (first | omega | rfl | decide | exact ⟨rfl, by decide, rfl⟩ | exact wideI _ | exact widePr _ | exact wideSk _ | (unfold Room; constructor <;> ((try simp) <;> omega)) | exact ⟨rfl, by simp only [List.length_map], by unfold Room; constructor <;> ((try simp) <;> omega)⟩ | exact ⟨by omega, by omega, by unfold Room; constructor <;> ((try simp) <;> omega)⟩); conv => whnf) | (with_reducible apply XAnd.mk) | ((first | (with_reducible apply Chk.go) | (with_reducible apply ChkA.go) | (with_reducible apply ChkF.go) | (with_reducible apply ChkB.go)); conv => whnf) | (exact XSame.mk rfl rfl) | (with_reducible exact trivial) | (apply Walk.drawN (id := 19) tab_ok mixed_ok [9, 30] [] (hsU _) [_, _, _, _, _, _, _, _, _, _, _, _, _, _, _, _, _, _, _, _, _, _, _, _, _, _, _, _] (by kernel_rfl) rfl) | ((first | (with_reducible apply XNext.mk) | (refine XIx.vecV i (by with_reducible rfl) (by omega) rfl ?_) | ((refine XIx.bls k (by with_reducible rfl) (by omega) ?_); rw [hps]) | (refine XIx.vecV (i - 1) (by omega) (by omega) rfl ?_) | (refine XHold.mk ⟨hil, rfl, by omega, by omega⟩ ?_) | (refine XGet.intK (i - 1) (cr (addS b m n) (i - 1)) (by omega) rfl (by omega) hlg ?_) | (refine XIx.vecV (cr (addS b m n) (i - 1)) (by with_reducible rfl) (by omega) rfl ?_) | ((refine XIx.bls k (by with_reducible rfl) (by omega) ?_); rw [hnx2]) | (refine XHold.mk ⟨⟨by omega, by omega, by omega, by omega⟩, hil, rfl⟩ ?_) | (refine XOsApp.within ?_) | (refine XHold.mk ⟨rfl, rfl, by omega, by (simp only [List.length_cons, List.length_nil]; omega)⟩ ?_)); conv => whnf) | fail
                    exact XAgain.go k (by omega) (by omega) (by rw [hs]; exact congrArg (fun z => [Blk.dead, .dead, .grow _ false z]) (rowPut hl2 (by omega)).symm) ⟨rfl, rfl, rfl, rfl, by rw [hs]; exact congrArg (fun z => some (AV.gr 2 z)) (by rw [List.length_append, hll, hl1] <;> rfl), rfl, trivial⟩
          | zero =>
            have hm1 : (((0 : Nat) : Int) - 1) = -1 := rfl
            cases hx : noneB (addS b m n) alwP with
            | true =>
              have hi0 := hz hx
              subst hi0
              rw [hno hx]
              conv => whnf
              repeat' first | ((with_reducible apply XBr.dec) <;> (intro h; first | (exfalso; omega) | ((try simp only [List.length_map] at h); first | (exfalso; omega) | (conv => whnf)))) | ((with_reducible apply XBr.bne) <;> (intro h; first | (exfalso; omega) | (conv => whnf))) | ((with_reducible refine XInt.i64 (by omega) (by omega) ?_); conv => whnf) | fail
              · rw [if_pos rfl]; exact ⟨.low rfl⟩
              · rename_i h; exact absurd h (by decide)
            | false =>
              have hs := hyes hx i (by omega)
              have he : outO (addS b m n) (i + 1) (b.room + 1).toNat = some (crL (addS b m n) (i + 1)) := by rw [hend, if_neg (by omega)]
              have hll : (crL (addS b m n) (i + 1)).length = i + 1 := crL_len' _ _
              rw [hs, he]
              conv => whnf
              repeat' first | ((with_reducible apply XBr.dec) <;> (intro h; first | (exfalso; omega) | ((try simp only [List.length_map] at h); first | (exfalso; omega) | (conv => whnf)))) | ((with_reducible apply XBr.bne) <;> (intro h; first | (exfalso; omega) | (conv => whnf))) | ((first | (with_reducible refine XInt.i64 (by omega) (by omega) ?_) | (refine XHold.mk (ints_len _) ?_)); conv => whnf) | fail
              exact XAgain.go (i + 1) ⟨by omega, fun h => by cases h⟩ (by omega) (by rw [he] <;> rfl) ⟨rfl, rfl, rfl, by rw [he] <;> rfl, rfl, trivial⟩
        · obtain rfl : i = b.months.length + 1 := by omega
          have hnf : noneB (addS b m n) alwP = false := by
            cases h : noneB (addS b m n) alwP with
            | false => rfl
            | true => have := hz h; omega
          have hll : (crL (addS b m n) (b.months.length + 1)).length = b.months.length + 1 := crL_len' _ _
          rw [hend, if_neg (show ¬ b.months.length + 1 = 0 by omega), if_neg (show ¬ noneB (addS b m n) alwP = true by rw [hnf]; simp)]
          repeat' first | ((with_reducible apply XBr.dec) <;> (intro h; first | (exfalso; omega) | ((try simp only [List.length_map] at h); first | (exfalso; omega) | (conv => whnf)))) | fail
          exact ⟨Froz.tup (.cons (Froz.grow rfl (ints_len _) (lowI _)) (.cons (.low rfl) .nil))⟩
  · rw [if_pos hE]
    generalize bedE b = e at hck hE
    refine Comp.body (T := tab) (res := [.tmp 6, .tmp 7]) tab_ok [9, 30] Try.func69 rfl (by kernel_rfl) Try.ntmps69 rfl (by simp only [List.length_cons, List.length_nil]; decide) (by simp only [lowL, bedL, AV.low]; rfl) ?_; conv => whnf
    repeat' first | ((with_reducible apply XBr.bne) <;> (intro h; first | (exfalso; omega) | (conv => whnf))) | ((refine XCall.ret hck ?_); conv => whnf) | fail
    exact ⟨.low rfl⟩
end GA
end

section
namespace GA
open Go Go.RowKit Go.Proofs
set_option maxRecDepth 8000
set_option linter.unusedVariables false
set_option linter.unusedSimpArgs false

structure Alike (x y : Bd) : Prop where
  same : SameB x y
  okx : BedOk x
  oky : BedOk y
  ag : ∀ m n, agB x alwP m n = true ↔ agB y alwP m n = true
theorem Alike.cn {x y : Bd} (h : Alike x y) {m : Nat} (hm : m ≤ x.months.length) (n : Nat) : cnB x alwP m n = cnB y alwP m n := by
  have hm' : m ≤ y.months.length := by rw [← h.same.m]; exact hm
  rw [Bool.eq_iff_iff, cn_iff h.okx hm, cn_iff h.oky hm']
  constructor
  · rintro ⟨c, hc, e⟩
    exact ⟨c, hc.other h.same fun i _ => (h.ag _ _).1, e⟩
  · rintro ⟨c, hc, e⟩
    exact ⟨c, hc.other h.same.symm fun i _ => (h.ag _ _).2, e⟩
theorem Alike.can {x y : Bd} (h : Alike x y) {m : Nat} (hm : m ≤ x.months.length) : canL x m = canL y m := by
  unfold canL
  rw [show cnB x alwP m = cnB y alwP m from funext (h.cn hm)]
theorem Alike.rows {x y : Bd} (h : Alike x y) : canRs x = canRs y := by
  unfold canRs
  rw [← h.same.m]
  exact vecF_congr fun i hi => h.can (by omega)
theorem Alike.bnd {x y : Bd} (h : Alike x y) : bndL x = bndL y := by
  unfold bndL
  rw [← h.same.m]
  refine List.map_congr_left fun i hi => ?_
  have := List.mem_range.1 hi
  unfold bndP
  rw [h.can (by omega)]
theorem lkF_congr {F G : Nat → Nat} : ∀ {k : Nat}, (∀ i, i < k → F i = G i) → lkF F k = lkF G k
  | 0, _ => rfl
  | k + 1, h => by
    unfold lkF
    rw [lkF_congr fun i hi => h i (by omega), h k (by omega)]
theorem Alike.lk {x y : Bd} (h : Alike x y) : lkB x = lkB y := by
  unfold lkB
  rw [← h.same.m]
  exact lkF_congr fun i hi => by rw [h.can (by omega)]
theorem Alike.cr {x y : Bd} (h : Alike x y) : ∀ {m : Nat}, m ≤ x.months.length → GA.cr x m = GA.cr y m
  | 0, _ => by
    unfold GA.cr
    rw [show cnB x alwP 0 = cnB y alwP 0 from funext (h.cn (Nat.zero_le _))]
  | m + 1, hm => by
    unfold GA.cr
    rw [h.cr (m := m) (by omega), h.same.lv, show cnB x alwP (m + 1) = cnB y alwP (m + 1) from funext (h.cn hm)]
theorem Alike.crL {x y : Bd} (h : Alike x y) : GA.crL x (x.months.length + 1) = GA.crL y (y.months.length + 1) := by
  unfold GA.crL
  rw [← h.same.m]
  exact vecF_congr fun i hi => by rw [h.cr (by omega)]
theorem Alike.none {x y : Bd} (h : Alike x y) : noneB x alwP = noneB y alwP := none_eq h.okx h.oky h.same h.ag
theorem ok_like {b : Bd} (ok : BedOk b) : Alike (ownB b) (thB b) := ⟨⟨rfl, rfl, rfl, rfl⟩, ⟨ok.r1, ok.r2, ok.m1, ok.m2, ok.f1, ok.f2, ok.u1, ok.u2, ok.mo⟩, ⟨ok.r1, ok.r2, ok.m1, ok.m2, ok.f1, ok.f2, ok.u1, ok.u2, ok.mo⟩, fun _ _ => Iff.rfl⟩
theorem add_like {b : Bd} (ok : BedOk b) (m n : Nat) : Alike (addS (ownB b) m n) (addS (thB b) m n) := ⟨⟨rfl, rfl, rfl, rfl⟩, ⟨ok.r1, ok.r2, ok.m1, ok.m2, ok.f1, ok.f2, ok.u1, ok.u2, ok.mo⟩, ⟨ok.r1, ok.r2, ok.m1, ok.m2, ok.f1, ok.f2, ok.u1, ok.u2, ok.mo⟩, fun _ _ => Iff.rfl⟩
theorem possE_own (b : Bd) : possE (ownB b) = possE (thB b) := by
  unfold possE
  by_cases hE : bedE b = 0
  · have ok := (bedE_iff b).1 hE
    rw [(ok_like ok.toBedOk).none]; rfl
  · rw [if_pos (show bedE (ownB b) ≠ 0 from hE), if_pos (show bedE (thB b) ≠ 0 from hE)]; rfl
theorem poss_ok {b : Bd} (h : possE (thB b) = 0) : BedOk b := by
  have hE : bedE b = 0 := by
    by_cases hE : bedE (thB b) = 0
    · exact hE
    · unfold possE at h; rw [if_pos hE] at h; exact h
  exact ((bedE_iff b).1 hE).toBedOk
theorem canV_own (b : Bd) : canV (ownB b) = canV (thB b) := by
  unfold canV
  rw [possE_own]
  by_cases h : possE (thB b) = 0
  · rw [if_neg (fun h' => h' h), if_neg (fun h' => h' h), (ok_like (poss_ok h)).rows]
  · rw [if_pos h, if_pos h]
theorem boundsA_own (b : Bd) : boundsA (ownB b) = boundsA (thB b) := by
  unfold boundsA
  rw [possE_own]
  by_cases h : possE (thB b) = 0
  · rw [if_neg (fun h' => h' h), if_neg (fun h' => h' h), (ok_like (poss_ok h)).bnd]
  · rw [if_pos h, if_pos h]
theorem lookA_own (b : Bd) : lookA (ownB b) = lookA (thB b) := by
  unfold lookA
  rw [possE_own]
  by_cases h : possE (thB b) = 0
  · rw [if_neg (fun h' => h' h), if_neg (fun h' => h' h), (ok_like (poss_ok h)).lk]
  · rw [if_pos h, if_pos h]
theorem courseA_own (b : Bd) (month amount : Int) : courseA (ownB b) month amount = courseA (thB b) month amount := by
  unfold courseA
  by_cases hE : bedE b = 0
  · have ok := ((bedE_iff b).1 hE).toBedOk
    have hl := add_like ok month.toNat amount.toNat
    have hc := hl.crL
    rw [hl.none]
    change GA.crL _ (b.months.length + 1) = GA.crL _ (b.months.length + 1) at hc
    show (if bedE b ≠ 0 then _ else if inZ month 0 b.months.length = false then _ else if inZ amount 0 b.room = false then _ else if noneB _ alwP = true then _ else AV.tup [.sl false (ints (GA.crL _ (b.months.length + 1))), _]) = _
    rw [hc]; rfl
  · rw [if_pos (show bedE (ownB b) ≠ 0 from hE), if_pos (show bedE (thB b) ≠ 0 from hE)]; rfl
theorem courseA_form (b : Bd) (hm : b.months.length ≤ 1000) (month amount : Int) : ∃ nl l e, courseA b month amount = .tup [.sl nl (ints l), .int .i64 e] ∧ l.length ≤ 100000 := by
  unfold courseA
  split
  · exact ⟨true, [], _, rfl, by simp⟩
  · split
    · exact ⟨true, [], _, rfl, by simp⟩
    · split
      · exact ⟨true, [], _, rfl, by simp⟩
      · split
        · exact ⟨true, [], _, rfl, by simp⟩
        · exact ⟨false, _, _, rfl, by unfold GA.crL; rw [vecF_len]; omega⟩
theorem lkF_congr2 {F G : Nat → Nat} {k k' : Nat} (hk : k = k') (h : ∀ i, i < k → F i = G i) : lkF F k = lkF G k' := by subst hk; exact lkF_congr h
theorem can_form (y : Bd) : ∃ nl R B K e, canV y = .tup [.sl nl (rowsA R), .int .i64 e] ∧ boundsA y = .tup [.sl nl (chsA B), .int .i64 e] ∧ lookA y = .tup [natA K.1, natA K.2, .int .i64 e] ∧ lkF (fun m => (R.getD m default).length) R.length = K ∧ B.length = R.length ∧ (∀ m, m < R.length → B.getD m default = ((R.getD m default).getD 0 default, (R.getD m default).getD ((R.getD m default).length - 1) default) ∧ 0 < (R.getD m default).length) ∧ R.length ≤ 1000 ∧ (∀ r ∈ R, r.length ≤ 1000) ∧ K.2 ≤ 1000 ∧ (∀ m, (R.getD m default).length ≤ 1000) := by
  unfold canV boundsA lookA
  by_cases h : possE y = 0
  · rw [if_neg (fun h' => h' h), if_neg (fun h' => h' h), if_neg (fun h' => h' h)]
    obtain ⟨ok, -⟩ := possE_iff.1 h
    have m2 := ok.m2
    have hl := canRs_len y
    have hg : ∀ m, m < y.months.length + 1 → (canRs y).getD m default = canL y m := fun m hm => canRs_get (by omega)
    have hcl : ∀ m, (canL y m).length ≤ 121 := fun m => lstF_len _ _
    refine ⟨false, canRs y, bndL y, lkB y, 0, rfl, rfl, rfl, ?_, ?_, fun m hm => ?_, by omega, fun r hr => ?_, ?_, fun m => ?_⟩
    · unfold lkB
      exact lkF_congr2 hl fun i hi => by rw [hg i (by omega)]
    · rw [hl]; unfold bndL; simp
    · rw [hl] at hm
      rw [hg m hm]
      refine ⟨?_, canL_ne h (by omega)⟩
      unfold bndL
      rw [List.getD_eq_getElem?_getD, List.getElem?_map, List.getElem?_range (by omega)]; rfl
    · obtain ⟨i, hi, rfl⟩ := vecF_mem.1 hr
      have := hcl i; omega
    · have := (lkF_le hcl (y.months.length + 1)).1
      show (lkF _ _).2 ≤ 1000
      omega
    · by_cases hm : m < y.months.length + 1
      · rw [hg m hm]; have := hcl m; omega
      · rw [List.getD_eq_getElem?_getD, List.getElem?_eq_none (by omega)]; exact Nat.zero_le _
  · rw [if_pos h, if_pos h, if_pos h]
    exact ⟨true, [], [], (0, 0), _, rfl, rfl, rfl, rfl, rfl, fun m hm => (by cases hm), (by simp), fun r hr => (by cases hr), (by simp), fun m => (by simp; exact Nat.zero_le _)⟩
end GA
end

section
namespace GA
open Go Go.RowKit Go.Proofs
set_option pp.deepTerms true
set_option maxRecDepth 8000
set_option linter.unusedVariables false
set_option linter.unusedSimpArgs false

theorem crL_one (b : Bd) {F : Nat → Bool} (hF : F = cnB b alwP 0) (hne : 0 < (lstF F 121).length) : (ints (lstF F 121)).take 1 = ints (crL b 1) := by
  have h1 : (lstF F 121).take 1 = crL b 1 := by
    subst hF
    unfold crL
    rw [vecF_eq]
    show _ = [((cr b 0 : Nat) : Int)]
    unfold cr
    rw [← List.head?_filter]
    unfold lstF at hne ⊢
    cases h : (List.range 121).filter (cnB b alwP 0) with
    | nil => rw [h] at hne; simp at hne
    | cons x l => rfl
  unfold ints
  rw [← h1, List.map_take]
theorem crL_next (b : Bd) (k : Nat) : crL b (k + 1) = crL b k ++ [(cr b k : Int)] := by unfold crL; rw [vecF_succ]
theorem crL_len (b : Bd) (k : Nat) : (crL b k).length = k := vecF_len _ _
theorem crL_get (b : Bd) {k i : Nat} (h : i < k) : (crL b k).getD i default = (cr b i : Int) := vecF_get _ h
theorem XGet.susJ {l : List Su} {n e : Nat} {k : List AV → Prop} (j : Nat) (he : e = j) (h1 : n = l.length) (h2 : j < l.length) (h : k (suA (l.getD j default)).cells) : XGet (sus l) n e k := by
  subst he
  exact XGet.mapF (f := suA) default h1 (by omega) h
theorem XGet.intJ {xs : List Int} {n e : Nat} {k : List AV → Prop} (j : Nat) (he : e = j) (h1 : n = xs.length) (h2 : j < xs.length) (h : k [.int .i64 (xs.getD j default)]) : XGet (ints xs) n e k := by
  subst he
  exact XGet.mapF (f := AV.int .i64) default h1 (by omega) h
theorem keyS_B (b : Bd) : keyS b = (esT 4 b b.surveys.length).map (·.1) := (esT_keys 4 b _).symm
set_option maxHeartbeats 4000000 in
theorem course_c (b : Bd) (hm : b.months.length ≤ 100000) (hs : b.surveys.length ≤ 100000) (hw : b.nls = true → b.surveys = []) (month amount : Int) : Comp Try.prog 68 [bedA b, .int .i64 month, .int .i64 amount] (courseA b month amount) := by
  have hck := bedCheck_c b hm hs
  have ham := bedAmount_c b amount
  have e1 : ((b.months.map moA).length : Int) = b.months.length := by rw [List.length_map]
  have e2 : ((b.surveys.map suA).length : Int) = b.surveys.length := by rw [List.length_map]
  have hinm := bedIn_c month 0 ((b.months.map moA).length : Int)
  have hie : inZ month 0 ((b.months.map moA).length : Int) = inZ month 0 (b.months.length : Int) := by rw [e1]
  rw [hie] at hinm
  unfold courseA
  by_cases hE : bedE b = 0
  · have ok := (bedE_iff b).1 hE
    rw [hE] at hck
    rw [if_neg (fun h => h hE)]
    cases hi1 : inZ month 0 (b.months.length : Int) with
    | false =>
      rw [hi1] at hinm
      rw [if_pos rfl]
      have hnl : True := trivial
      refine Comp.body (T := tab) (res := [.tmp 6, .tmp 7]) tab_ok [3, 50] Try.func68 rfl (by kernel_rfl) Try.ntmps68 rfl (by simp only [List.length_cons, List.length_nil]; decide) (by simp only [lowL, bedL, AV.low]; rfl) ?_; conv => whnf
      repeat' first | ((with_reducible apply XBr.ff); conv => whnf) | (with_reducible apply XBr.not) | ((with_reducible apply XBr.bne) <;> (intro h; first | (exfalso; omega) | (conv => whnf))) | ((first | (refine XCall.ret hck ?_) | (refine XCall.ret hinm ?_)); conv => whnf) | fail
      exact ⟨.low rfl⟩
    | true =>
      cases hi2 : inZ amount 0 b.room with
      | false =>
        rw [hi1] at hinm
        rw [hi2] at ham
        rw [if_neg (by simp), if_pos rfl]
        have hnl : True := trivial
        refine Comp.body (T := tab) (res := [.tmp 6, .tmp 7]) tab_ok [3, 50] Try.func68 rfl (by kernel_rfl) Try.ntmps68 rfl (by simp only [List.length_cons, List.length_nil]; decide) (by simp only [lowL, bedL, AV.low]; rfl) ?_; conv => whnf
        repeat' first | ((first | (with_reducible apply XBr.tt) | (with_reducible apply XBr.ff)); conv => whnf) | (with_reducible apply XBr.not) | ((with_reducible apply XBr.bne) <;> (intro h; first | (exfalso; omega) | (conv => whnf))) | ((first | (refine XCall.ret hck ?_) | (refine XCall.ret hinm ?_) | (refine XCall.ret ham ?_)); conv => whnf) | fail
        exact ⟨.low rfl⟩
      | true =>
        obtain ⟨q1, q2⟩ := inZ_iff.1 hi1
        obtain ⟨q3, q4⟩ := inZ_iff.1 hi2
        obtain ⟨m, rfl⟩ : ∃ m : Nat, month = m := ⟨month.toNat, by omega⟩
        obtain ⟨n, rfl⟩ : ∃ n : Nat, amount = n := ⟨amount.toNat, by omega⟩
        rw [hi1] at hinm
        rw [hi2] at ham
        rw [if_neg (by simp), if_neg (by simp), Int.toNat_natCast, Int.toNat_natCast]
        have okK := addS_k ok (m := m) (n := n) (by omega) q4
        have okB := okK.toBedOk
        have hcan := can_c (addS b m n) okK 180 [] alwP (allF_c _)
        have hsm : ∀ s ∈ (addS b m n).surveys, 0 ≤ s.m ∧ s.m ≤ 10 := fun s hs => by
          have := okK.su s hs
          have h2 : (addS b m n).months.length ≤ 10 := okK.m2
          omega
        have hlB : (addS b m n).surveys.length = b.surveys.length + 1 := by show (b.surveys ++ [_]).length = _; rw [List.length_append]; rfl
        have hsu : sus (addS b m n).surveys = b.surveys.map suA ++ [suA ⟨m, n, n⟩] := by show (b.surveys ++ [_]).map suA = _; rw [List.map_append]; rfl
        have hsl : (b.surveys.map suA).length = b.surveys.length := List.length_map _
        have s1 := ok.s1
        cases hnl : b.nls with
        | false =>
          have hS : True := trivial
          refine Comp.body (T := tab) (res := [.tmp 6, .tmp 7]) tab_ok [3, 50] Try.func68 rfl (by kernel_rfl) Try.ntmps68 rfl (by simp only [List.length_cons, List.length_nil]; decide) (by simp only [lowL, bedL, AV.low]; rfl) ?_; conv => whnf
          repeat' first | ((with_reducible apply XBr.tt); conv => whnf) | (with_reducible apply XBr.not) | ((with_reducible apply XBr.bne) <;> (intro h; first | (exfalso; omega) | (conv => whnf))) | ((with_reducible refine XHold.mk ?_ ?_); (first | omega | rfl | decide | exact ⟨rfl, by decide, rfl⟩ | exact wideI _ | exact widePr _ | exact wideSk _ | (unfold Room; constructor <;> ((try simp) <;> omega)) | exact ⟨rfl, by simp only [List.length_map], by unfold Room; constructor <;> ((try simp) <;> omega)⟩ | exact ⟨by omega, by omega, by unfold Room; constructor <;> ((try simp) <;> omega)⟩); conv => whnf) | ((first | (refine XCall.ret hck ?_) | (refine XCall.ret hinm ?_) | (refine XCall.ret ham ?_)); conv => whnf) | (refine XCall.inl (T := tab) (res := [.tmp 2]) tab_ok [] Try.func146 rfl (by kernel_rfl) Try.ntmps146 rfl (by simp only [List.length_append, List.length_cons, List.length_nil]; decide) ?_; conv => whnf) | ((first | (with_reducible refine XBr.no hnl ?_) | (refine XHold.mk (wideSu _) ?_)); conv => whnf) | ((refine XHold.mk (by rw [List.length_append] <;> rfl) ?_); conv => whnf) | fail
          iterate 11 refine Walk.nilrow 3 ?_
          refine Walk.thenKeep ?_
          refine Walk.loopGK tab_ok [] [(3, .ptr 0 0), (6, _), (7, _), (10, .ptr 3 0), (52, .gr 1 (b.surveys.length + 1)), (53, .int .i64 (b.surveys.length + 1 : Nat))] ⟨rfl, rfl, rfl, rfl, by first | rfl | (rw [hS] <;> rfl) | (show some (AV.gr 1 _) = _; rw [List.length_map] <;> rfl), by first | rfl | (rw [hS] <;> rfl) | (show some (AV.int _ _) = _; rw [List.length_map] <;> rfl), trivial⟩ (fun j : Nat => j ≤ b.surveys.length + 1) (fun j => [(54, natA j)]) (fun j => [.cells (bedG b 1 (b.surveys.length + 1)), .grow 122 false (sus (addS b m n).surveys), .map (esT 4 (addS b m n) j), .cells (bedG b 1 (b.surveys.length + 1) ++ [.mp 2]), rowB (addS b m n) j 0, rowB (addS b m n) j 1, rowB (addS b m n) j 2, rowB (addS b m n) j 3, rowB (addS b m n) j 4, rowB (addS b m n) j 5, rowB (addS b m n) j 6, rowB (addS b m n) j 7, rowB (addS b m n) j 8, rowB (addS b m n) j 9, rowB (addS b m n) j 10]) (fun j => b.surveys.length + 1 - j) 0 (Nat.zero_le _) (by first | (rw [hsu] <;> rfl) | (rw [hsu, hS] <;> rfl) | (rw [hsu]; show [Blk.cells (bedG b 1 (b.surveys.length + 1)), _, _, Blk.cells (bedG b 1 (b.surveys.length + 1) ++ _), _, _, _, _, _, _, _, _, _, _, _] = _; rw [← hsl] <;> rfl)) ⟨rfl, trivial⟩ ?_ (fun _ _ => (show (15 : Nat) ≤ 15 from Nat.le_refl 15)) ?_
          · intro q hq
            refine ⟨fun z hz => ?_, fun z hz => ?_⟩
            · simp only [List.mem_cons, List.not_mem_nil, or_false] at hz
              rcases hz with rfl | rfl | rfl | rfl | rfl | rfl | rfl | rfl | rfl | rfl | rfl | rfl | rfl | rfl | rfl <;> first | exact sus_low _ | exact esT_low 4 _ hsm q (by omega) | exact lowI _ | (simp only [Blk.low, bedG, List.cons_append, List.nil_append, lowL, AV.low, lowMo]; rfl)
            · simp only [List.cons_append, List.nil_append, List.mem_cons, List.not_mem_nil, or_false] at hz
              rcases hz with rfl | rfl | rfl | rfl | rfl | rfl | rfl <;> rfl
          intro j hj
          conv => whnf
          by_cases hlt : j < b.surveys.length + 1
          · have hsv := hsm _ (getD_mem (xs := (addS b m n).surveys) (i := j) (d := default) (by omega))
            have hg := esT_get 4 (addS b m n) (fun s h => (hsm s h).1) j (by omega)
            have hes : esT 4 (addS b m n) (j + 1) = mput ((addS b m n).surveys.getD j default).m (.gr (4 + ((addS b m n).surveys.getD j default).m.toNat) (rowS (addS b m n) (j + 1) ((addS b m n).surveys.getD j default).m.toNat).length) (esT 4 (addS b m n) j) := rfl
            have hrl : ∀ k, (rowS (addS b m n) j k).length ≤ j := fun k => by unfold rowS; rw [List.length_map]; exact Nat.le_trans (List.length_filter_le _ _) (by simp)
            have hsul : (sus (addS b m n).surveys).length = b.surveys.length + 1 := by unfold sus; rw [List.length_map]; exact hlB
            repeat' first | ((with_reducible apply XBr.dec) <;> (intro h; first | (exfalso; omega) | ((try simp only [List.length_map] at h); first | (exfalso; omega) | (conv => whnf)))) | ((first | (refine XHold.mk ⟨hsul, rfl, by omega, by omega⟩ ?_) | (refine XGet.susJ j (by omega) hlB.symm (by omega) ?_)); conv => whnf) | fail
            obtain ⟨k, hk10, hkm⟩ : ∃ k : Nat, k ≤ 10 ∧ ((addS b m n).surveys.getD j default).m = k := ⟨((addS b m n).surveys.getD j default).m.toNat, by omega, by omega⟩
            rw [hkm] at hes ⊢
            rw [Int.toNat_natCast, rowS_hit hkm] at hes
            have hkk : k = 0 ∨ k = 1 ∨ k = 2 ∨ k = 3 ∨ k = 4 ∨ k = 5 ∨ k = 6 ∨ k = 7 ∨ k = 8 ∨ k = 9 ∨ k = 10 := by omega
            rcases hkk with rfl | rfl | rfl | rfl | rfl | rfl | rfl | rfl | rfl | rfl | rfl
            · have hl := hrl 0
              have hgk := hg 0
              apply Walk.drawX tab_ok mixed_ok [] [15, 16] (hsV _ [id, fun H => H.set 4 (.grow 3 ((rowS (addS b m n) j 0).isEmpty && false) (ints (rowS (addS b m n) j 0) ++ [natA j])), fun H => (H.set 4 (.grow 3 ((rowS (addS b m n) j 0).isEmpty && false) (ints (rowS (addS b m n) j 0) ++ [natA j]))).set 2 (.map (mput 0 (.gr 4 ((rowS (addS b m n) j 0).length + 1)) (esT 4 (addS b m n) j)))]) [_, _, _, _, _, _, _, _, _, _, _, _, .gr 4 (rowS (addS b m n) j 0).length, _, _, .gr 4 ((rowS (addS b m n) j 0).length + 1), _] (by kernel_rfl) rfl
              · skip
                repeat' first | ((with_reducible refine XHold.mk ?_ ?_); (first | omega | rfl | decide | exact ⟨rfl, by decide, rfl⟩ | exact wideI _ | exact widePr _ | exact wideSk _ | (unfold Room; constructor <;> ((try simp) <;> omega)) | exact ⟨rfl, by simp only [List.length_map], by unfold Room; constructor <;> ((try simp) <;> omega)⟩ | exact ⟨by omega, by omega, by unfold Room; constructor <;> ((try simp) <;> omega)⟩); conv => whnf) | (with_reducible apply XAnd.mk) | ((first | (with_reducible apply Chk.go) | (with_reducible apply ChkA.go)); conv => whnf) | (exact XSame.mk rfl rfl) | (with_reducible exact trivial) | ((refine XGetM.rowI (te := 3) (xs := rowS (addS b m n) j 0) 4 rfl hgk ?_); conv => whnf) | fail
              · skip
                repeat' first | (with_reducible apply XAnd.mk) | ((first | (with_reducible apply Chk.go) | (with_reducible apply ChkF.go) | (with_reducible apply ChkB.go)); conv => whnf) | (exact XSame.mk rfl rfl) | (with_reducible exact trivial) | fail
              conv => whnf
              repeat' first | ((with_reducible refine XInt.i64 (by omega) (by omega) ?_); conv => whnf) | fail
              refine XAgainG.go (j + 1) [.cells [.int .i64 0, .int .i64 ((addS b m n).surveys.getD j default).lo, .int .i64 ((addS b m n).surveys.getD j default).hi]] (by omega) (by omega) ?_ ⟨rfl, rfl, rfl, rfl, rfl, rfl, rfl, trivial⟩
              rw [hes, rowB_hit hkm, rowB_same (q := 1) (by rw [hkm]; decide), rowB_same (q := 2) (by rw [hkm]; decide), rowB_same (q := 3) (by rw [hkm]; decide), rowB_same (q := 4) (by rw [hkm]; decide), rowB_same (q := 5) (by rw [hkm]; decide), rowB_same (q := 6) (by rw [hkm]; decide), rowB_same (q := 7) (by rw [hkm]; decide), rowB_same (q := 8) (by rw [hkm]; decide), rowB_same (q := 9) (by rw [hkm]; decide), rowB_same (q := 10) (by rw [hkm]; decide)]
              rfl
            · have hl := hrl 1
              have hgk := hg 1
              apply Walk.drawX tab_ok mixed_ok [] [15, 16] (hsV _ [id, fun H => H.set 5 (.grow 3 ((rowS (addS b m n) j 1).isEmpty && false) (ints (rowS (addS b m n) j 1) ++ [natA j])), fun H => (H.set 5 (.grow 3 ((rowS (addS b m n) j 1).isEmpty && false) (ints (rowS (addS b m n) j 1) ++ [natA j]))).set 2 (.map (mput 1 (.gr 5 ((rowS (addS b m n) j 1).length + 1)) (esT 4 (addS b m n) j)))]) [_, _, _, _, _, _, _, _, _, _, _, _, .gr 5 (rowS (addS b m n) j 1).length, _, _, .gr 5 ((rowS (addS b m n) j 1).length + 1), _] (by kernel_rfl) rfl
              · skip
                repeat' first | ((with_reducible refine XHold.mk ?_ ?_); (first | omega | rfl | decide | exact ⟨rfl, by decide, rfl⟩ | exact wideI _ | exact widePr _ | exact wideSk _ | (unfold Room; constructor <;> ((try simp) <;> omega)) | exact ⟨rfl, by simp only [List.length_map], by unfold Room; constructor <;> ((try simp) <;> omega)⟩ | exact ⟨by omega, by omega, by unfold Room; constructor <;> ((try simp) <;> omega)⟩); conv => whnf) | (with_reducible apply XAnd.mk) | ((first | (with_reducible apply Chk.go) | (with_reducible apply ChkA.go)); conv => whnf) | (exact XSame.mk rfl rfl) | (with_reducible exact trivial) | ((refine XGetM.rowI (te := 3) (xs := rowS (addS b m n) j 1) 5 rfl hgk ?_); conv => whnf) | fail
              · skip
                repeat' first | (with_reducible apply XAnd.mk) | ((first | (with_reducible apply Chk.go) | (with_reducible apply ChkF.go) | (with_reducible apply ChkB.go)); conv => whnf) | (exact XSame.mk rfl rfl) | (with_reducible exact trivial) | fail
              conv => whnf
              repeat' first | ((with_reducible refine XInt.i64 (by omega) (by omega) ?_); conv => whnf) | fail
              refine XAgainG.go (j + 1) [.cells [.int .i64 1, .int .i64 ((addS b m n).surveys.getD j default).lo, .int .i64 ((addS b m n).surveys.getD j default).hi]] (by omega) (by omega) ?_ ⟨rfl, rfl, rfl, rfl, rfl, rfl, rfl, trivial⟩
              rw [hes, rowB_same (q := 0) (by rw [hkm]; decide), rowB_hit hkm, rowB_same (q := 2) (by rw [hkm]; decide), rowB_same (q := 3) (by rw [hkm]; decide), rowB_same (q := 4) (by rw [hkm]; decide), rowB_same (q := 5) (by rw [hkm]; decide), rowB_same (q := 6) (by rw [hkm]; decide), rowB_same (q := 7) (by rw [hkm]; decide), rowB_same (q := 8) (by rw [hkm]; decide), rowB_same (q := 9) (by rw [hkm]; decide), rowB_same (q := 10) (by rw [hkm]; decide)]
              rfl
            · have hl := hrl 2
              have hgk := hg 2
              apply Walk.drawX tab_ok mixed_ok [] [15, 16] (hsV _ [id, fun H => H.set 6 (.grow 3 ((rowS (addS b m n) j 2).isEmpty && false) (ints (rowS (addS b m n) j 2) ++ [natA j])), fun H => (H.set 6 (.grow 3 ((rowS (addS b m n) j 2).isEmpty && false) (ints (rowS (addS b m n) j 2) ++ [natA j]))).set 2 (.map (mput 2 (.gr 6 ((rowS (addS b m n) j 2).length + 1)) (esT 4 (addS b m n) j)))]) [_, _, _, _, _, _, _, _, _, _, _, _, .gr 6 (rowS (addS b m n) j 2).length, _, _, .gr 6 ((rowS (addS b m n) j 2).length + 1), _] (by kernel_rfl) rfl
              · skip
                repeat' first | ((with_reducible refine XHold.mk ?_ ?_); (first | omega | rfl | decide | exact ⟨rfl, by decide, rfl⟩ | exact wideI _ | exact widePr _ | exact wideSk _ | (unfold Room; constructor <;> ((try simp) <;> omega)) | exact ⟨rfl, by simp only [List.length_map], by unfold Room; constructor <;> ((try simp) <;> omega)⟩ | exact ⟨by omega, by omega, by unfold Room; constructor <;> ((try simp) <;> omega)⟩); conv => whnf) | (with_reducible apply XAnd.mk) | ((first | (with_reducible apply Chk.go) | (with_reducible apply ChkA.go)); conv => whnf) | (exact XSame.mk rfl rfl) | (with_reducible exact trivial) | ((refine XGetM.rowI (te := 3) (xs := rowS (addS b m n) j 2) 6 rfl hgk ?_); conv => whnf) | fail
              · skip
                repeat' first | (with_reducible apply XAnd.mk) | ((first | (with_reducible apply Chk.go) | (with_reducible apply ChkF.go) | (with_reducible apply ChkB.go)); conv => whnf) | (exact XSame.mk rfl rfl) | (with_reducible exact trivial) | fail
              conv => whnf
              repeat' first | ((with_reducible refine XInt.i64 (by omega) (by omega) ?_); conv => whnf) | fail
              refine XAgainG.go (j + 1) [.cells [.int .i64 2, .int .i64 ((addS b m n).surveys.getD j default).lo, .int .i64 ((addS b m n).surveys.getD j default).hi]] (by omega) (by omega) ?_ ⟨rfl, rfl, rfl, rfl, rfl, rfl, rfl, trivial⟩
              rw [hes, rowB_same (q := 0) (by rw [hkm]; decide), rowB_same (q := 1) (by rw [hkm]; decide), rowB_hit hkm, rowB_same (q := 3) (by rw [hkm]; decide), rowB_same (q := 4) (by rw [hkm]; decide), rowB_same (q := 5) (by rw [hkm]; decide), rowB_same (q := 6) (by rw [hkm]; decide), rowB_same (q := 7) (by rw [hkm]; decide), rowB_same (q := 8) (by rw [hkm]; decide), rowB_same (q := 9) (by rw [hkm]; decide), rowB_same (q := 10) (by rw [hkm]; decide)]
              rfl
            · have hl := hrl 3
              have hgk := hg 3
              apply Walk.drawX tab_ok mixed_ok [] [15, 16] (hsV _ [id, fun H => H.set 7 (.grow 3 ((rowS (addS b m n) j 3).isEmpty && false) (ints (rowS (addS b m n) j 3) ++ [natA j])), fun H => (H.set 7 (.grow 3 ((rowS (addS b m n) j 3).isEmpty && false) (ints (rowS (addS b m n) j 3) ++ [natA j]))).set 2 (.map (mput 3 (.gr 7 ((rowS (addS b m n) j 3).length + 1)) (esT 4 (addS b m n) j)))]) [_, _, _, _, _, _, _, _, _, _, _, _, .gr 7 (rowS (addS b m n) j 3).length, _, _, .gr 7 ((rowS (addS b m n) j 3).length + 1), _] (by kernel_rfl) rfl
              · skip
                repeat' first | ((with_reducible refine XHold.mk ?_ ?_); (first | omega | rfl | decide | exact ⟨rfl, by decide, rfl⟩ | exact wideI _ | exact widePr _ | exact wideSk _ | (unfold Room; constructor <;> ((try simp) <;> omega)) | exact ⟨rfl, by simp only [List.length_map], by unfold Room; constructor <;> ((try simp) <;> omega)⟩ | exact ⟨by omega, by omega, by unfold Room; constructor <;> ((try simp) <;> omega)⟩); conv => whnf) | (with_reducible apply XAnd.mk) | ((first | (with_reducible apply Chk.go) | (with_reducible apply ChkA.go)); conv => whnf) | (exact XSame.mk rfl rfl) | (with_reducible exact trivial) | ((refine XGetM.rowI (te := 3) (xs := rowS (addS b m n) j 3) 7 rfl hgk ?_); conv => whnf) | fail
              · skip
                repeat' first | (with_reducible apply XAnd.mk) | ((first | (with_reducible apply Chk.go) | (with_reducible apply ChkF.go) | (with_reducible apply ChkB.go)); conv => whnf) | (exact XSame.mk rfl rfl) | (with_reducible exact trivial) | fail
              conv => whnf
              repeat' first | ((with_reducible refine XInt.i64 (by omega) (by omega) ?_); conv => whnf) | fail
              refine XAgainG.go (j + 1) [.cells [.int .i64 3, .int .i64 ((addS b m n).surveys.getD j default).lo, .int .i64 ((addS b m n).surveys.getD j default).hi]] (by omega) (by omega) ?_ ⟨rfl, rfl, rfl, rfl, rfl, rfl, rfl, trivial⟩
              rw [hes, rowB_same (q := 0) (by rw [hkm]; decide), rowB_same (q := 1) (by rw [hkm]; decide), rowB_same (q := 2) (by rw [hkm]; decide), rowB_hit hkm, rowB_same (q := 4) (by rw [hkm]; decide), rowB_same (q := 5) (by rw [hkm]; decide), rowB_same (q := 6) (by rw [hkm]; decide), rowB_same (q := 7) (by rw [hkm]; decide), rowB_same (q := 8) (by rw [hkm]; decide), rowB_same (q := 9) (by rw [hkm]; decide), rowB_same (q := 10) (by rw [hkm]; decide)]
              rfl
            · have hl := hrl 4
              have hgk := hg 4
              apply Walk.drawX tab_ok mixed_ok [] [15, 16] (hsV _ [id, fun H => H.set 8 (.grow 3 ((rowS (addS b m n) j 4).isEmpty && false) (ints (rowS (addS b m n) j 4) ++ [natA j])), fun H => (H.set 8 (.grow 3 ((rowS (addS b m n) j 4).isEmpty && false) (ints (rowS (addS b m n) j 4) ++ [natA j]))).set 2 (.map (mput 4 (.gr 8 ((rowS (addS b m n) j 4).length + 1)) (esT 4 (addS b m n) j)))]) [_, _, _, _, _, _, _, _, _, _, _, _, .gr 8 (rowS (addS b m n) j 4).length, _, _, .gr 8 ((rowS (addS b m n) j 4).length + 1), _] (by kernel_rfl) rfl
              · skip
                repeat' first | ((with_reducible refine XHold.mk ?_ ?_); (first | omega | rfl | decide | exact ⟨rfl, by decide, rfl⟩ | exact wideI _ | exact widePr _ | exact wideSk _ | (unfold Room; constructor <;> ((try simp) <;> omega)) | exact ⟨rfl, by simp only [List.length_map], by unfold Room; constructor <;> ((try simp) <;> omega)⟩ | exact ⟨by omega, by omega, by unfold Room; constructor <;> ((try simp) <;> omega)⟩); conv => whnf) | (with_reducible apply XAnd.mk) | ((first | (with_reducible apply Chk.go) | (with_reducible apply ChkA.go)); conv => whnf) | (exact XSame.mk rfl rfl) | (with_reducible exact trivial) | ((refine XGetM.rowI (te := 3) (xs := rowS (addS b m n) j 4) 8 rfl hgk ?_); conv => whnf) | fail
              · skip
                repeat' first | (with_reducible apply XAnd.mk) | ((first | (with_reducible apply Chk.go) | (with_reducible apply ChkF.go) | (with_reducible apply ChkB.go)); conv => whnf) | (exact XSame.mk rfl rfl) | (with_reducible exact trivial) | fail
              conv => whnf
              repeat' first | ((with_reducible refine XInt.i64 (by omega) (by omega) ?_); conv => whnf) | fail
              refine XAgainG.go (j + 1) [.cells [.int .i64 4, .int .i64 ((addS b m n).surveys.getD j default).lo, .int .i64 ((addS b m n).surveys.getD j default).hi]] (by omega) (by omega) ?_ ⟨rfl, rfl, rfl, rfl, rfl, rfl, rfl, trivial⟩
              rw [hes, rowB_same (q := 0) (by rw [hkm]; decide), rowB_same (q := 1) (by rw [hkm]; decide), rowB_same (q := 2) (by rw [hkm]; decide), rowB_same (q := 3) (by rw [hkm]; decide), rowB_hit hkm, rowB_same (q := 5) (by rw [hkm]; decide), rowB_same (q := 6) (by rw [hkm]; decide), rowB_same (q := 7) (by rw [hkm]; decide), rowB_same (q := 8) (by rw [hkm]; decide), rowB_same (q := 9) (by rw [hkm]; decide), rowB_same (q := 10) (by rw [hkm]; decide)]
              rfl
            · have hl := hrl 5
              have hgk := hg 5
              apply Walk.drawX tab_ok mixed_ok [] [15, 16] (hsV _ [id, fun H => H.set 9 (.grow 3 ((rowS (addS b m n) j 5).isEmpty && false) (ints (rowS (addS b m n) j 5) ++ [natA j])), fun H => (H.set 9 (.grow 3 ((rowS (addS b m n) j 5).isEmpty && false) (ints (rowS (addS b m n) j 5) ++ [natA j]))).set 2 (.map (mput 5 (.gr 9 ((rowS (addS b m n) j 5).length + 1)) (esT 4 (addS b m n) j)))]) [_, _, _, _, _, _, _, _, _, _, _, _, .gr 9 (rowS (addS b m n) j 5).length, _, _, .gr 9 ((rowS (addS b m n) j 5).length + 1), _] (by kernel_rfl) rfl
              · skip
                repeat' first | ((with_reducible refine XHold.mk ?_ ?_); (first | omega | rfl | decide | exact ⟨rfl, by decide, rfl⟩ | exact wideI _ | exact widePr _ | exact wideSk _ | (unfold Room; constructor <;> ((try simp) <;> omega)) | exact ⟨rfl, by simp only [List.length_map], by unfold Room; constructor <;> ((try simp) <;> omega)⟩ | exact ⟨by omega, by omega, by unfold Room; constructor <;> ((try simp) <;> omega)⟩); conv => whnf) | (with_reducible apply XAnd.mk) | ((first | (with_reducible apply Chk.go) | (with_reducible apply ChkA.go)); conv => whnf) | (exact XSame.mk rfl rfl) | (with_reducible exact trivial) | ((refine XGetM.rowI (te := 3) (xs := rowS (addS b m n) j 5) 9 rfl hgk ?_); conv => whnf) | fail
              · skip
                repeat' first | (with_reducible apply XAnd.mk) | ((first | (with_reducible apply Chk.go) | (with_reducible apply ChkF.go) | (with_reducible apply ChkB.go)); conv => whnf) | (exact XSame.mk rfl rfl) | (with_reducible exact trivial) | fail
              conv => whnf
              repeat' first | ((with_reducible refine XInt.i64 (by omega) (by omega) ?_); conv => whnf) | fail
              refine XAgainG.go (j + 1) [.cells [.int .i64 5, .int .i64 ((addS b m n).surveys.getD j default).lo, .int .i64 ((addS b m n).surveys.getD j default).hi]] (by omega) (by omega) ?_ ⟨rfl, rfl, rfl, rfl, rfl, rfl, rfl, trivial⟩
              rw [hes, rowB_same (q := 0) (by rw [hkm]; decide), rowB_same (q := 1) (by rw [hkm]; decide), rowB_same (q := 2) (by rw [hkm]; decide), rowB_same (q := 3) (by rw [hkm]; decide), rowB_same (q := 4) (by rw [hkm]; decide), rowB_hit hkm, rowB_same (q := 6) (by rw [hkm]; decide), rowB_same (q := 7) (by rw [hkm]; decide), rowB_same (q := 8) (by rw [hkm]; decide), rowB_same (q := 9) (by rw [hkm]; decide), rowB_same (q := 10) (by rw [hkm]; decide)]
              rfl
            · have hl := hrl 6
              have hgk := hg 6
              apply Walk.drawX tab_ok mixed_ok [] [15, 16] (hsV _ [id, fun H => H.set 10 (.grow 3 ((rowS (addS b m n) j 6).isEmpty && false) (ints (rowS (addS b m n) j 6) ++ [natA j])), fun H => (H.set 10 (.grow 3 ((rowS (addS b m n) j 6).isEmpty && false) (ints (rowS (addS b m n) j 6) ++ [natA j]))).set 2 (.map (mput 6 (.gr 10 ((rowS (addS b m n) j 6).length + 1)) (esT 4 (addS b m n) j)))]) [_, _, _, _, _, _, _, _, _, _, _, _, .gr 10 (rowS (addS b m n) j 6).length, _, _, .gr 10 ((rowS (addS b m n) j 6).length + 1), _] (by kernel_rfl) rfl
              · skip
                repeat' first | ((with_reducible refine XHold.mk ?_ ?_); (first | omega | rfl | decide | exact ⟨rfl, by decide, rfl⟩ | exact wideI _ | exact widePr _ | exact wideSk _ | (unfold Room; constructor <;> ((try simp) <;> omega)) | exact ⟨rfl, by simp only [List.length_map], by unfold Room; constructor <;> ((try simp) <;> omega)⟩ | exact ⟨by omega, by omega, by unfold Room; constructor <;> ((try simp) <;> omega)⟩); conv => whnf) | (with_reducible apply XAnd.mk) | ((first | (with_reducible apply Chk.go) | (with_reducible apply ChkA.go)); conv => whnf) | (exact XSame.mk rfl rfl) | (with_reducible exact trivial) | ((refine XGetM.rowI (te := 3) (xs := rowS (addS b m n) j 6) 10 rfl hgk ?_); conv => whnf) | fail
              · skip
                repeat' first | (with_reducible apply XAnd.mk) | ((first | (with_reducible apply Chk.go) | (with_reducible apply ChkF.go) | (with_reducible apply ChkB.go)); conv => whnf) | (exact XSame.mk rfl rfl) | (with_reducible exact trivial) | fail
              conv => whnf
              repeat' first | ((with_reducible refine XInt.i64 (by omega) (by omega) ?_); conv => whnf) | fail
              refine XAgainG.go (j + 1) [.cells [.int .i64 6, .int .i64 ((addS b m n).surveys.getD j default).lo, .int .i64 ((addS b m n).surveys.getD j default).hi]] (by omega) (by omega) ?_ ⟨rfl, rfl, rfl, rfl, rfl, rfl, rfl, trivial⟩
              rw [hes, rowB_same (q := 0) (by rw [hkm]; decide), rowB_same (q := 1) (by rw [hkm]; decide), rowB_same (q := 2) (by rw [hkm]; decide), rowB_same (q := 3) (by rw [hkm]; decide), rowB_same (q := 4) (by rw [hkm]; decide), rowB_same (q := 5) (by rw [hkm]; decide), rowB_hit hkm, rowB_same (q := 7) (by rw [hkm]; decide), rowB_same (q := 8) (by rw [hkm]; decide), rowB_same (q := 9) (by rw [hkm]; decide), rowB_same (q := 10) (by rw [hkm]; decide)]
              rfl
            · have hl := hrl 7
              have hgk := hg 7
              apply Walk.drawX tab_ok mixed_ok [] [15, 16] (hsV _ [id, fun H => H.set 11 (.grow 3 ((rowS (addS b m n) j 7).isEmpty && false) (ints (rowS (addS b m n) j 7) ++ [natA j])), fun H => (H.set 11 (.grow 3 ((rowS (addS b m n) j 7).isEmpty && false) (ints (rowS (addS b m n) j 7) ++ [natA j]))).set 2 (.map (mput 7 (.gr 11 ((rowS (addS b m n) j 7).length + 1)) (esT 4 (addS b m n) j)))]) [_, _, _, _, _, _, _, _, _, _, _, _, .gr 11 (rowS (addS b m n) j 7).length, _, _, .gr 11 ((rowS (addS b m n) j 7).length + 1), _] (by kernel_rfl) rfl
              · skip
                repeat' first | ((with_reducible refine XHold.mk ?_ ?_); (first | omega | rfl | decide | exact ⟨rfl, by decide, rfl⟩ | exact wideI _ | exact widePr _ | exact wideSk _ | (unfold Room; constructor <;> ((try simp) <;> omega)) | exact ⟨rfl, by simp only [List.length_map], by unfold Room; constructor <;> ((try simp) <;> omega)⟩ | exact ⟨by omega, by omega, by unfold Room; constructor <;> ((try simp) <;> omega)⟩); conv => whnf) | (with_reducible apply XAnd.mk) | ((first | (with_reducible apply Chk.go) | (with_reducible apply ChkA.go)); conv => whnf) | (exact XSame.mk rfl rfl) | (with_reducible exact trivial) | ((refine XGetM.rowI (te := 3) (xs := rowS (addS b m n) j 7) 11 rfl hgk ?_); conv => whnf) | fail
              · skip
                repeat' first | (with_reducible apply XAnd.mk) | ((first | (with_reducible apply Chk.go) | (with_reducible apply ChkF.go) | (with_reducible apply ChkB.go)); conv => whnf) | (exact XSame.mk rfl rfl) | (with_reducible exact trivial) | fail
              conv => whnf
              repeat' first | ((with_reducible refine XInt.i64 (by omega) (by omega) ?_); conv => whnf) | fail
              refine XAgainG.go (j + 1) [.cells [.int .i64 7, .int .i64 ((addS b m n).surveys.getD j default).lo, .int .i64 ((addS b m n).surveys.getD j default).hi]] (by omega) (by omega) ?_ ⟨rfl, rfl, rfl, rfl, rfl, rfl, rfl, trivial⟩
              rw [hes, rowB_same (q := 0) (by rw [hkm]; decide), rowB_same (q := 1) (by rw [hkm]; decide), rowB_same (q := 2) (by rw [hkm]; decide), rowB_same (q := 3) (by rw [hkm]; decide), rowB_same (q := 4) (by rw [hkm]; decide), rowB_same (q := 5) (by rw [hkm]; decide), rowB_same (q := 6) (by rw [hkm]; decide), rowB_hit hkm, rowB_same (q := 8) (by rw [hkm]; decide), rowB_same (q := 9) (by rw [hkm]; decide), rowB_same (q := 10) (by rw [hkm]; decide)]
              rfl
            · have hl := hrl 8
              have hgk := hg 8
              apply Walk.drawX tab_ok mixed_ok [] [15, 16] (hsV _ [id, fun H => H.set 12 (.grow 3 ((rowS (addS b m n) j 8).isEmpty && false) (ints (rowS (addS b m n) j 8) ++ [natA j])), fun H => (H.set 12 (.grow 3 ((rowS (addS b m n) j 8).isEmpty && false) (ints (rowS (addS b m n) j 8) ++ [natA j]))).set 2 (.map (mput 8 (.gr 12 ((rowS (addS b m n) j 8).length + 1)) (esT 4 (addS b m n) j)))]) [_, _, _, _, _, _, _, _, _, _, _, _, .gr 12 (rowS (addS b m n) j 8).length, _, _, .gr 12 ((rowS (addS b m n) j 8).length + 1), _] (by kernel_rfl) rfl
              · skip
                repeat' first | ((with_reducible refine XHold.mk ?_ ?_); (first | omega | rfl | decide | exact ⟨rfl, by decide, rfl⟩ | exact wideI _ | exact widePr _ | exact wideSk _ | (unfold Room; constructor <;> ((try simp) <;> omega)) | exact ⟨rfl, by simp only [List.length_map], by unfold Room; constructor <;> ((try simp) <;> omega)⟩ | exact ⟨by omega, by omega, by unfold Room; constructor <;> ((try simp) <;> omega)⟩); conv => whnf) | (with_reducible apply XAnd.mk) | ((first | (with_reducible apply Chk.go) | (with_reducible apply ChkA.go)); conv => whnf) | (exact XSame.mk rfl rfl) | (with_reducible exact trivial) | ((refine XGetM.rowI (te := 3) (xs := rowS (addS b m n) j 8) 12 rfl hgk ?_); conv => whnf) | fail
              · skip
                repeat' first | (with_reducible apply XAnd.mk) | ((first | (with_reducible apply Chk.go) | (with_reducible apply ChkF.go) | (with_reducible apply ChkB.go)); conv => whnf) | (exact XSame.mk rfl rfl) | (with_reducible exact trivial) | fail
              conv => whnf
              repeat' first | ((with_reducible refine XInt.i64 (by omega) (by omega) ?_); conv => whnf) | fail
              refine XAgainG.go (j + 1) [.cells [.int .i64 8, .int .i64 ((addS b m n).surveys.getD j default).lo, .int .i64 ((addS b m n).surveys.getD j default).hi]] (by omega) (by omega) ?_ ⟨rfl, rfl, rfl, rfl, rfl, rfl, rfl, trivial⟩
              rw [hes, rowB_same (q := 0) (by rw [hkm]; decide), rowB_same (q := 1) (by rw [hkm]; decide), rowB_same (q := 2) (by rw [hkm]; decide), rowB_same (q := 3) (by rw [hkm]; decide), rowB_same (q := 4) (by rw [hkm]; decide), rowB_same (q := 5) (by rw [hkm]; decide), rowB_same (q := 6) (by rw [hkm]; decide), rowB_same (q := 7) (by rw [hkm]; decide), rowB_hit hkm, rowB_same (q := 9) (by rw [hkm]; decide), rowB_same (q := 10) (by rw [hkm]; decide)]
              rfl
            · have hl := hrl 9
              have hgk := hg 9
              apply Walk.drawX tab_ok mixed_ok [] [15, 16] (hsV _ [id, fun H => H.set 13 (.grow 3 ((rowS (addS b m n) j 9).isEmpty && false) (ints (rowS (addS b m n) j 9) ++ [natA j])), fun H => (H.set 13 (.grow 3 ((rowS (addS b m n) j 9).isEmpty && false) (ints (rowS (addS b m n) j 9) ++ [natA j]))).set 2 (.map (mput 9 (.gr 13 ((rowS (addS b m n) j 9).length + 1)) (esT 4 (addS b m n) j)))]) [_, _, _, _, _, _, _, _, _, _, _, _, .gr 13 (rowS (addS b m n) j 9).length, _, _, .gr 13 ((rowS (addS b m n) j 9).length + 1), _] (by kernel_rfl) rfl
              · skip
                repeat' first | ((with_reducible refine XHold.mk ?_ ?_); (first | omega | rfl | decide | exact ⟨rfl, by decide, rfl⟩ | exact wideI _ | exact widePr _ | exact wideSk _ | (unfold Room; constructor <;> ((try simp) <;> omega)) | exact ⟨rfl, by simp only [List.length_map], by unfold Room; constructor <;> ((try simp) <;> omega)⟩ | exact ⟨by omega, by omega, by unfold Room; constructor <;> ((try simp) <;> omega)⟩); conv => whnf) | (with_reducible apply XAnd.mk) | ((first | (with_reducible apply Chk.go) | (with_reducible apply ChkA.go)); conv => whnf) | (exact XSame.mk rfl rfl) | (with_reducible exact trivial) | ((refine XGetM.rowI (te := 3) (xs := rowS (addS b m n) j 9) 13 rfl hgk ?_); conv => whnf) | fail
              · skip
                repeat' first | (with_reducible apply XAnd.mk) | ((first | (with_reducible apply Chk.go) | (with_reducible apply ChkF.go) | (with_reducible apply ChkB.go)); conv => whnf) | (exact XSame.mk rfl rfl) | (with_reducible exact trivial) | fail
              conv => whnf
              repeat' first | ((with_reducible refine XInt.i64 (by omega) (by omega) ?_); conv => whnf) | fail
              refine XAgainG.go (j + 1) [.cells [.int .i64 9, .int .i64 ((addS b m n).surveys.getD j default).lo, .int .i64 ((addS b m n).surveys.getD j default).hi]] (by omega) (by omega) ?_ ⟨rfl, rfl, rfl, rfl, rfl, rfl, rfl, trivial⟩
              rw [hes, rowB_same (q := 0) (by rw [hkm]; decide), rowB_same (q := 1) (by rw [hkm]; decide), rowB_same (q := 2) (by rw [hkm]; decide), rowB_same (q := 3) (by rw [hkm]; decide), rowB_same (q := 4) (by rw [hkm]; decide), rowB_same (q := 5) (by rw [hkm]; decide), rowB_same (q := 6) (by rw [hkm]; decide), rowB_same (q := 7) (by rw [hkm]; decide), rowB_same (q := 8) (by rw [hkm]; decide), rowB_hit hkm, rowB_same (q := 10) (by rw [hkm]; decide)]
              rfl
            · have hl := hrl 10
              have hgk := hg 10
              apply Walk.drawX tab_ok mixed_ok [] [15, 16] (hsV _ [id, fun H => H.set 14 (.grow 3 ((rowS (addS b m n) j 10).isEmpty && false) (ints (rowS (addS b m n) j 10) ++ [natA j])), fun H => (H.set 14 (.grow 3 ((rowS (addS b m n) j 10).isEmpty && false) (ints (rowS (addS b m n) j 10) ++ [natA j]))).set 2 (.map (mput 10 (.gr 14 ((rowS (addS b m n) j 10).length + 1)) (esT 4 (addS b m n) j)))]) [_, _, _, _, _, _, _, _, _, _, _, _, .gr 14 (rowS (addS b m n) j 10).length, _, _, .gr 14 ((rowS (addS b m n) j 10).length + 1), _] (by kernel_rfl) rfl
              · skip
                repeat' first | ((with_reducible refine XHold.mk ?_ ?_); (first | omega | rfl | decide | exact ⟨rfl, by decide, rfl⟩ | exact wideI _ | exact widePr _ | exact wideSk _ | (unfold Room; constructor <;> ((try simp) <;> omega)) | exact ⟨rfl, by simp only [List.length_map], by unfold Room; constructor <;> ((try simp) <;> omega)⟩ | exact ⟨by omega, by omega, by unfold Room; constructor <;> ((try simp) <;> omega)⟩); conv => whnf) | (with_reducible apply XAnd.mk) | ((first | (with_reducible apply Chk.go) | (with_reducible apply ChkA.go)); conv => whnf) | (exact XSame.mk rfl rfl) | (with_reducible exact trivial) | ((refine XGetM.rowI (te := 3) (xs := rowS (addS b m n) j 10) 14 rfl hgk ?_); conv => whnf) | fail
              · skip
                repeat' first | (with_reducible apply XAnd.mk) | ((first | (with_reducible apply Chk.go) | (with_reducible apply ChkF.go) | (with_reducible apply ChkB.go)); conv => whnf) | (exact XSame.mk rfl rfl) | (with_reducible exact trivial) | fail
              conv => whnf
              repeat' first | ((with_reducible refine XInt.i64 (by omega) (by omega) ?_); conv => whnf) | fail
              refine XAgainG.go (j + 1) [.cells [.int .i64 10, .int .i64 ((addS b m n).surveys.getD j default).lo, .int .i64 ((addS b m n).surveys.getD j default).hi]] (by omega) (by omega) ?_ ⟨rfl, rfl, rfl, rfl, rfl, rfl, rfl, trivial⟩
              rw [hes, rowB_same (q := 0) (by rw [hkm]; decide), rowB_same (q := 1) (by rw [hkm]; decide), rowB_same (q := 2) (by rw [hkm]; decide), rowB_same (q := 3) (by rw [hkm]; decide), rowB_same (q := 4) (by rw [hkm]; decide), rowB_same (q := 5) (by rw [hkm]; decide), rowB_same (q := 6) (by rw [hkm]; decide), rowB_same (q := 7) (by rw [hkm]; decide), rowB_same (q := 8) (by rw [hkm]; decide), rowB_same (q := 9) (by rw [hkm]; decide), rowB_hit hkm]
              rfl
          · obtain rfl : j = b.surveys.length + 1 := by omega
            repeat' first | ((with_reducible apply XBr.dec) <;> (intro h; first | (exfalso; omega) | ((try simp only [List.length_map] at h); first | (exfalso; omega) | (conv => whnf)))) | fail
            refine XKeepE.go [] _ [(3, .pim (bedC (addS b m n))), (6, .sl true []), (7, .int .i64 0), (10, dskA (addS b m n))] rfl (fun x hx => by cases hx) ⟨⟨_, rfl, .all (Froz.ptr rfl (bedOne _) ?_)⟩, ⟨_, rfl, .same rfl⟩, ⟨_, rfl, .same rfl⟩, ⟨_, rfl, .all (Froz.ptr rfl (dskOne _) ?_)⟩, trivial⟩ ?_
            · exact .cons (.low rfl) (.cons (.low rfl) (.cons (.low rfl) (.cons (.low (lowMo _)) (.cons (Froz.grow rfl (by rw [List.length_map]; exact hlB) (sus_low _)) .nil))))
            · refine .cons (.low rfl) (.cons (.low rfl) (.cons (.low rfl) (.cons (.low (lowMo _)) (.cons (Froz.grow rfl (by rw [List.length_map]; exact hlB) (sus_low _)) (.cons ?_ .nil)))))
              have hkB : keyS (addS b m n) = (esT 4 (addS b m n) (b.surveys.length + 1)).map (·.1) := by rw [keyS_B, hlB]
              unfold rowsS
              rw [hkB]
              refine Froz.mp rfl (frozMap _ (fun k => slA (rowT (addS b m n) k.toNat)) _ fun p hp => ?_)
              obtain ⟨h1, h2, h3⟩ := esT_vals 4 (addS b m n) hsm _ (by omega) p hp
              rw [h3]
              obtain ⟨k, hk, hk2⟩ : ∃ k : Nat, k ≤ 10 ∧ p.1.toNat = k := ⟨p.1.toNat, by omega, rfl⟩
              rw [hk2]
              unfold rowT
              rw [hlB]
              have hkk : k = 0 ∨ k = 1 ∨ k = 2 ∨ k = 3 ∨ k = 4 ∨ k = 5 ∨ k = 6 ∨ k = 7 ∨ k = 8 ∨ k = 9 ∨ k = 10 := by omega
              rcases hkk with rfl | rfl | rfl | rfl | rfl | rfl | rfl | rfl | rfl | rfl | rfl <;> exact Froz.grow rfl (List.length_map _) (lowI _)
            conv => whnf
            cases hn : noneB (addS b m n) alwP with
            | true =>
              have hn' : (vecF 121 (cnB (addS b m n) alwP 0) == List.replicate 121 false) = true := hn
              repeat' first | ((first | (refine XCall.ret bAll_c ?_) | (refine XCall.ret hcan ?_) | (refine XIx.mat 0 rfl (by omega) rfl ?_) | (refine xtk_vec rfl ?_) | (refine xeqb0 ?_) | (with_reducible refine XBr.yes hn' ?_)); conv => whnf) | fail
              exact ⟨.low rfl⟩
            | false =>
              have hn' : (vecF 121 (cnB (addS b m n) alwP 0) == List.replicate 121 false) = false := hn
              have hcc := cr_cn okB hn
              have hLn : 0 < (lstF (cnB (addS b m n) alwP 0) 121).length := List.length_pos_of_mem (lstF_mem.2 ⟨cr (addS b m n) 0, by have := cnB_room (hcc 0 (Nat.zero_le _)); have : (addS b m n).room ≤ 120 := okB.r2; omega, hcc 0 (Nat.zero_le _), rfl⟩)
              have hLl : (ints (lstF (cnB (addS b m n) alwP 0) 121)).length = (lstF (cnB (addS b m n) alwP 0) 121).length := ints_len _
              repeat' first | ((first | (refine XCall.ret bAll_c ?_) | (refine XCall.ret hcan ?_) | (refine XIx.mat 0 rfl (by omega) rfl ?_) | (refine xtk_vec rfl ?_) | (refine xeqb0 ?_) | (with_reducible refine XBr.no hn' ?_) | (refine XCall.amList ?_) | (refine XHold.mk ⟨⟨by omega, by omega, by omega, by omega⟩, hLl, rfl⟩ ?_)); conv => whnf) | fail
              refine Walk.truncCell 17 0 16 (lstF (cnB (addS b m n) alwP 0) 121).length 1 rfl rfl rfl hLl hLn ?_
              refine Walk.loopM tab_ok [] (fun k : Nat => k ≤ b.months.length) (fun k => [(6, .sl true []), (7, .int .i64 0), (10, dskA (addS b m n)), (13, .ptr 15 0), (14, .ptr 17 0), (91, .int .i64 ((b.months.map moA).length : Nat)), (92, natA k)]) (fun k => [.dead, .dead, .dead, .dead, .dead, .dead, .dead, .dead, .dead, .dead, .dead, .dead, .dead, .dead, .dead, .cells [.sl false ((matF (b.months.length + 1) 121 (cnB (addS b m n) alwP)).map (arrF .bool))], .dead, .cells [.gr 18 (crL (addS b m n) (k + 1)).length], .grow 3 false (ints (crL (addS b m n) (k + 1)))]) (fun k => b.months.length - k) 0 19 (Nat.zero_le _) (by rw [← crL_one (addS b m n) rfl hLn, crL_len] <;> rfl) rfl ⟨rfl, rfl, rfl, rfl, rfl, rfl, rfl, trivial⟩ ?_
              intro k hk
              have hcl : (ints (crL (addS b m n) (k + 1))).length = (crL (addS b m n) (k + 1)).length := ints_len _
              have hcl2 : (crL (addS b m n) (k + 1)).length = k + 1 := crL_len _ _
              conv => whnf
              by_cases hltk : k < b.months.length
              · have hgk : (crL (addS b m n) (k + 1)).getD k default = (cr (addS b m n) k : Int) := crL_get _ (by omega)
                have hck := cnB_room (hcc k (by show k ≤ b.months.length; omega))
                have hlv := bLeaves_c (addS b m n) okB k (cr (addS b m n) k) hltk
                have hck1 : (cr (addS b m n) k : Int) ≤ b.room := hck
                repeat' first | ((with_reducible apply XBr.dec) <;> (intro h; first | (exfalso; omega) | ((try simp only [List.length_map] at h); first | (exfalso; omega) | (conv => whnf)))) | (with_reducible apply XAnd.mk) | ((first | (with_reducible apply Chk.go) | (with_reducible apply ChkA.go) | (with_reducible apply ChkF.go) | (with_reducible apply ChkB.go)); conv => whnf) | (exact XSame.mk rfl rfl) | (with_reducible exact trivial) | (apply Walk.drawN (id := 23) tab_ok mixed_ok [3, 50] [] (hsU _) [_, _, _, _, _, _, _] (by kernel_rfl) rfl) | ((first | (with_reducible apply XNext.mk) | (refine XHold.mk ⟨hcl, rfl, by omega, by omega⟩ ?_) | ((refine XGet.intJ k (by omega) rfl (by omega) ?_); rw [hgk]) | (refine XCall.ret hlv ?_)); conv => whnf) | fail
                refine Walk.range (own := []) tab_ok [(13, .ptr 15 0), (14, .ptr 17 0), (15, .ptr 19 0)] rfl ⟨rfl, rfl, rfl, trivial⟩ ?_
                intro fn
                refine bLeaves1_c (addS b m n) okB k (cr (addS b m n) k) _ hltk hck _ _ ?_
                have hfind : (lvL (addS b m n) k (cr (addS b m n) k)).find? (cnB (addS b m n) alwP (k + 1)) = some (cr (addS b m n) (k + 1)) := by
                  obtain ⟨x, h1, h2⟩ := cn_next okB hltk (hcc k (by show k ≤ b.months.length; omega))
                  cases hf : (lvL (addS b m n) k (cr (addS b m n) k)).find? (cnB (addS b m n) alwP (k + 1)) with
                  | none => exact absurd h2 (List.find?_eq_none.1 hf x h1)
                  | some y => rw [show cr (addS b m n) (k + 1) = ((lvL (addS b m n) k (cr (addS b m n) k)).find? (cnB (addS b m n) alwP (k + 1))).getD 0 from rfl, hf]; rfl
                have hlr : ∀ c ∈ lvL (addS b m n) k (cr (addS b m n) k), c < 121 := fun c hc => by
                  have := ah_room okB hltk hc
                  have h2 : (addS b m n).room ≤ 120 := okB.r2
                  omega
                generalize lvL (addS b m n) k (cr (addS b m n) k) = cs at hfind hlr
                revert hfind hlr
                induction cs with
                | nil => intro h; cases h
                | cons c cs ih =>
                  intro hfind hlr
                  have hc121 := hlr c List.mem_cons_self
                  rw [List.find?_cons] at hfind
                  refine XYield.go (own := []) tab_ok rfl rfl (by decide) ?_
                  intro ρ
                  conv => whnf
                  cases hv : cnB (addS b m n) alwP (k + 1) c with
                  | false =>
                    rw [hv] at hfind
                    repeat' first | ((first | (with_reducible apply XBr.ff) | (with_reducible refine XInt.i64 (by omega) (by omega) ?_) | (refine XIx.mat (k + 1) (by omega) (by omega) rfl ?_) | ((refine XArr.vec c rfl (by omega) (by omega) ?_); rw [hv])); conv => whnf) | fail
                    exact .inl ⟨rfl, ih hfind fun x hx => hlr x (List.mem_cons_of_mem _ hx)⟩
                  | true =>
                    rw [hv] at hfind
                    obtain rfl : c = cr (addS b m n) (k + 1) := Option.some.inj hfind
                    repeat' first | ((first | (with_reducible apply XBr.tt) | (with_reducible refine XInt.i64 (by omega) (by omega) ?_)); conv => whnf) | ((with_reducible refine XHold.mk ?_ ?_); (first | omega | rfl | decide | exact ⟨rfl, by decide, rfl⟩ | exact wideI _ | exact widePr _ | exact wideSk _ | (unfold Room; constructor <;> ((try simp) <;> omega)) | exact ⟨rfl, by simp only [List.length_map], by unfold Room; constructor <;> ((try simp) <;> omega)⟩ | exact ⟨by omega, by omega, by unfold Room; constructor <;> ((try simp) <;> omega)⟩); conv => whnf) | ((first | (refine XIx.mat (k + 1) (by omega) (by omega) rfl ?_) | ((refine XArr.vec _ rfl (by omega) (by omega) ?_); rw [hv])); conv => whnf) | fail
                    refine .inr ⟨rfl, ?_⟩
                    conv => whnf
                    repeat' first | ((with_reducible refine XInt.i64 (by omega) (by omega) ?_); conv => whnf) | fail
                    refine XAgainM.go (k + 1) [.cells [natA k], .raw (.deferred (some [])), .dead] (by omega) (by omega) ?_ ⟨rfl, rfl, rfl, rfl, rfl, rfl, rfl, trivial⟩ (Nat.le_refl _) ?_ ?_ (by simp) (fun i hi => by rw [List.mem_singleton] at hi; subst hi; exact ⟨show 19 ≤ 19 + 1 by omega, rfl⟩)
                    · rw [crL_next (addS b m n) (k + 1), List.length_append]
                      unfold ints
                      rw [List.map_append]; rfl
                    · intro z hz
                      simp only [List.mem_cons, List.not_mem_nil, or_false] at hz
                      rcases hz with rfl | rfl | rfl | rfl | rfl | rfl | rfl | rfl | rfl | rfl | rfl | rfl | rfl | rfl | rfl | rfl | rfl | rfl | rfl <;> first | rfl | exact lowI _ | exact amtC_low _ _ _
                    · intro z hz
                      simp only [List.mem_cons, List.not_mem_nil, or_false] at hz
                      rcases hz with rfl | rfl | rfl | rfl | rfl | rfl | rfl <;> first | rfl | exact dskL _
              · obtain rfl : k = b.months.length := by omega
                repeat' first | ((with_reducible apply XBr.dec) <;> (intro h; first | (exfalso; omega) | ((try simp only [List.length_map] at h); first | (exfalso; omega) | (conv => whnf)))) | fail
                exact ⟨Froz.tup (.cons (Froz.grow rfl hcl (lowI _)) (.cons (.low rfl) .nil))⟩
        | true =>
          have hb := hw hnl
          have hS : b.surveys.length = 0 := by rw [hb]; rfl
          have hsu : sus (addS b m n).surveys = [suA ⟨m, n, n⟩] := by show (b.surveys ++ [_]).map suA = _; rw [hb]; rfl
          refine Comp.body (T := tab) (res := [.tmp 6, .tmp 7]) tab_ok [3, 50] Try.func68 rfl (by kernel_rfl) Try.ntmps68 rfl (by simp only [List.length_cons, List.length_nil]; decide) (by simp only [lowL, bedL, AV.low]; rfl) ?_; conv => whnf
          repeat' first | ((with_reducible apply XBr.tt); conv => whnf) | (with_reducible apply XBr.not) | ((with_reducible apply XBr.bne) <;> (intro h; first | (exfalso; omega) | (conv => whnf))) | ((with_reducible refine XHold.mk ?_ ?_); (first | omega | rfl | decide | exact ⟨rfl, by decide, rfl⟩ | exact wideI _ | exact widePr _ | exact wideSk _ | (unfold Room; constructor <;> ((try simp) <;> omega)) | exact ⟨rfl, by simp only [List.length_map], by unfold Room; constructor <;> ((try simp) <;> omega)⟩ | exact ⟨by omega, by omega, by unfold Room; constructor <;> ((try simp) <;> omega)⟩); conv => whnf) | ((first | (refine XCall.ret hck ?_) | (refine XCall.ret hinm ?_) | (refine XCall.ret ham ?_)); conv => whnf) | (refine XCall.inl (T := tab) (res := [.tmp 2]) tab_ok [] Try.func146 rfl (by kernel_rfl) Try.ntmps146 rfl (by simp only [List.length_append, List.length_cons, List.length_nil]; decide) ?_; conv => whnf) | ((with_reducible refine XBr.yes hnl ?_); conv => whnf) | fail
          iterate 11 refine Walk.nilrow 3 ?_
          refine Walk.thenKeep ?_
          refine Walk.loopGK tab_ok [] [(3, .ptr 0 0), (6, _), (7, _), (10, .ptr 3 0), (52, .gr 1 (b.surveys.length + 1)), (53, .int .i64 (b.surveys.length + 1 : Nat))] ⟨rfl, rfl, rfl, rfl, by first | rfl | (rw [hS] <;> rfl) | (show some (AV.gr 1 _) = _; rw [List.length_map] <;> rfl), by first | rfl | (rw [hS] <;> rfl) | (show some (AV.int _ _) = _; rw [List.length_map] <;> rfl), trivial⟩ (fun j : Nat => j ≤ b.surveys.length + 1) (fun j => [(54, natA j)]) (fun j => [.cells (bedG b 1 (b.surveys.length + 1)), .grow 122 false (sus (addS b m n).surveys), .map (esT 4 (addS b m n) j), .cells (bedG b 1 (b.surveys.length + 1) ++ [.mp 2]), rowB (addS b m n) j 0, rowB (addS b m n) j 1, rowB (addS b m n) j 2, rowB (addS b m n) j 3, rowB (addS b m n) j 4, rowB (addS b m n) j 5, rowB (addS b m n) j 6, rowB (addS b m n) j 7, rowB (addS b m n) j 8, rowB (addS b m n) j 9, rowB (addS b m n) j 10]) (fun j => b.surveys.length + 1 - j) 0 (Nat.zero_le _) (by first | (rw [hsu] <;> rfl) | (rw [hsu, hS] <;> rfl) | (rw [hsu]; show [Blk.cells (bedG b 1 (b.surveys.length + 1)), _, _, Blk.cells (bedG b 1 (b.surveys.length + 1) ++ _), _, _, _, _, _, _, _, _, _, _, _] = _; rw [← hsl] <;> rfl)) ⟨rfl, trivial⟩ ?_ (fun _ _ => (show (15 : Nat) ≤ 15 from Nat.le_refl 15)) ?_
          · intro q hq
            refine ⟨fun z hz => ?_, fun z hz => ?_⟩
            · simp only [List.mem_cons, List.not_mem_nil, or_false] at hz
              rcases hz with rfl | rfl | rfl | rfl | rfl | rfl | rfl | rfl | rfl | rfl | rfl | rfl | rfl | rfl | rfl <;> first | exact sus_low _ | exact esT_low 4 _ hsm q (by omega) | exact lowI _ | (simp only [Blk.low, bedG, List.cons_append, List.nil_append, lowL, AV.low, lowMo]; rfl)
            · simp only [List.cons_append, List.nil_append, List.mem_cons, List.not_mem_nil, or_false] at hz
              rcases hz with rfl | rfl | rfl | rfl | rfl | rfl | rfl <;> rfl
          intro j hj
          conv => whnf
          by_cases hlt : j < b.surveys.length + 1
          · have hsv := hsm _ (getD_mem (xs := (addS b m n).surveys) (i := j) (d := default) (by omega))
            have hg := esT_get 4 (addS b m n) (fun s h => (hsm s h).1) j (by omega)
            have hes : esT 4 (addS b m n) (j + 1) = mput ((addS b m n).surveys.getD j default).m (.gr (4 + ((addS b m n).surveys.getD j default).m.toNat) (rowS (addS b m n) (j + 1) ((addS b m n).surveys.getD j default).m.toNat).length) (esT 4 (addS b m n) j) := rfl
            have hrl : ∀ k, (rowS (addS b m n) j k).length ≤ j := fun k => by unfold rowS; rw [List.length_map]; exact Nat.le_trans (List.length_filter_le _ _) (by simp)
            have hsul : (sus (addS b m n).surveys).length = b.surveys.length + 1 := by unfold sus; rw [List.length_map]; exact hlB
            repeat' first | ((with_reducible apply XBr.dec) <;> (intro h; first | (exfalso; omega) | ((try simp only [List.length_map] at h); first | (exfalso; omega) | (conv => whnf)))) | ((first | (refine XHold.mk ⟨hsul, rfl, by omega, by omega⟩ ?_) | (refine XGet.susJ j (by omega) hlB.symm (by omega) ?_)); conv => whnf) | fail
            obtain ⟨k, hk10, hkm⟩ : ∃ k : Nat, k ≤ 10 ∧ ((addS b m n).surveys.getD j default).m = k := ⟨((addS b m n).surveys.getD j default).m.toNat, by omega, by omega⟩
            rw [hkm] at hes ⊢
            rw [Int.toNat_natCast, rowS_hit hkm] at hes
            have hkk : k = 0 ∨ k = 1 ∨ k = 2 ∨ k = 3 ∨ k = 4 ∨ k = 5 ∨ k = 6 ∨ k = 7 ∨ k = 8 ∨ k = 9 ∨ k = 10 := by omega
            rcases hkk with rfl | rfl | rfl | rfl | rfl | rfl | rfl | rfl | rfl | rfl | rfl
            · have hl := hrl 0
              have hgk := hg 0
              apply Walk.drawX tab_ok mixed_ok [] [15, 16] (hsV _ [id, fun H => H.set 4 (.grow 3 ((rowS (addS b m n) j 0).isEmpty && false) (ints (rowS (addS b m n) j 0) ++ [natA j])), fun H => (H.set 4 (.grow 3 ((rowS (addS b m n) j 0).isEmpty && false) (ints (rowS (addS b m n) j 0) ++ [natA j]))).set 2 (.map (mput 0 (.gr 4 ((rowS (addS b m n) j 0).length + 1)) (esT 4 (addS b m n) j)))]) [_, _, _, _, _, _, _, _, _, _, _, _, .gr 4 (rowS (addS b m n) j 0).length, _, _, .gr 4 ((rowS (addS b m n) j 0).length + 1), _] (by kernel_rfl) rfl
              · skip
                repeat' first | ((with_reducible refine XHold.mk ?_ ?_); (first | omega | rfl | decide | exact ⟨rfl, by decide, rfl⟩ | exact wideI _ | exact widePr _ | exact wideSk _ | (unfold Room; constructor <;> ((try simp) <;> omega)) | exact ⟨rfl, by simp only [List.length_map], by unfold Room; constructor <;> ((try simp) <;> omega)⟩ | exact ⟨by omega, by omega, by unfold Room; constructor <;> ((try simp) <;> omega)⟩); conv => whnf) | (with_reducible apply XAnd.mk) | ((first | (with_reducible apply Chk.go) | (with_reducible apply ChkA.go)); conv => whnf) | (exact XSame.mk rfl rfl) | (with_reducible exact trivial) | ((refine XGetM.rowI (te := 3) (xs := rowS (addS b m n) j 0) 4 rfl hgk ?_); conv => whnf) | fail
              · skip
                repeat' first | (with_reducible apply XAnd.mk) | ((first | (with_reducible apply Chk.go) | (with_reducible apply ChkF.go) | (with_reducible apply ChkB.go)); conv => whnf) | (exact XSame.mk rfl rfl) | (with_reducible exact trivial) | fail
              conv => whnf
              repeat' first | ((with_reducible refine XInt.i64 (by omega) (by omega) ?_); conv => whnf) | fail
              refine XAgainG.go (j + 1) [.cells [.int .i64 0, .int .i64 ((addS b m n).surveys.getD j default).lo, .int .i64 ((addS b m n).surveys.getD j default).hi]] (by omega) (by omega) ?_ ⟨rfl, rfl, rfl, rfl, rfl, rfl, rfl, trivial⟩
              rw [hes, rowB_hit hkm, rowB_same (q := 1) (by rw [hkm]; decide), rowB_same (q := 2) (by rw [hkm]; decide), rowB_same (q := 3) (by rw [hkm]; decide), rowB_same (q := 4) (by rw [hkm]; decide), rowB_same (q := 5) (by rw [hkm]; decide), rowB_same (q := 6) (by rw [hkm]; decide), rowB_same (q := 7) (by rw [hkm]; decide), rowB_same (q := 8) (by rw [hkm]; decide), rowB_same (q := 9) (by rw [hkm]; decide), rowB_same (q := 10) (by rw [hkm]; decide)]
              rfl
            · have hl := hrl 1
              have hgk := hg 1
              apply Walk.drawX tab_ok mixed_ok [] [15, 16] (hsV _ [id, fun H => H.set 5 (.grow 3 ((rowS (addS b m n) j 1).isEmpty && false) (ints (rowS (addS b m n) j 1) ++ [natA j])), fun H => (H.set 5 (.grow 3 ((rowS (addS b m n) j 1).isEmpty && false) (ints (rowS (addS b m n) j 1) ++ [natA j]))).set 2 (.map (mput 1 (.gr 5 ((rowS (addS b m n) j 1).length + 1)) (esT 4 (addS b m n) j)))]) [_, _, _, _, _, _, _, _, _, _, _, _, .gr 5 (rowS (addS b m n) j 1).length, _, _, .gr 5 ((rowS (addS b m n) j 1).length + 1), _] (by kernel_rfl) rfl
              · skip
                repeat' first | ((with_reducible refine XHold.mk ?_ ?_); (first | omega | rfl | decide | exact ⟨rfl, by decide, rfl⟩ | exact wideI _ | exact widePr _ | exact wideSk _ | (unfold Room; constructor <;> ((try simp) <;> omega)) | exact ⟨rfl, by simp only [List.length_map], by unfold Room; constructor <;> ((try simp) <;> omega)⟩ | exact ⟨by omega, by omega, by unfold Room; constructor <;> ((try simp) <;> omega)⟩); conv => whnf) | (with_reducible apply XAnd.mk) | ((first | (with_reducible apply Chk.go) | (with_reducible apply ChkA.go)); conv => whnf) | (exact XSame.mk rfl rfl) | (with_reducible exact trivial) | ((refine XGetM.rowI (te := 3) (xs := rowS (addS b m n) j 1) 5 rfl hgk ?_); conv => whnf) | fail
              · skip
                repeat' first | (with_reducible apply XAnd.mk) | ((first | (with_reducible apply Chk.go) | (with_reducible apply ChkF.go) | (with_reducible apply ChkB.go)); conv => whnf) | (exact XSame.mk rfl rfl) | (with_reducible exact trivial) | fail
              conv => whnf
              repeat' first | ((with_reducible refine XInt.i64 (by omega) (by omega) ?_); conv => whnf) | fail
              refine XAgainG.go (j + 1) [.cells [.int .i64 1, .int .i64 ((addS b m n).surveys.getD j default).lo, .int .i64 ((addS b m n).surveys.getD j default).hi]] (by omega) (by omega) ?_ ⟨rfl, rfl, rfl, rfl, rfl, rfl, rfl, trivial⟩
              rw [hes, rowB_same (q := 0) (by rw [hkm]; decide), rowB_hit hkm, rowB_same (q := 2) (by rw [hkm]; decide), rowB_same (q := 3) (by rw [hkm]; decide), rowB_same (q := 4) (by rw [hkm]; decide), rowB_same (q := 5) (by rw [hkm]; decide), rowB_same (q := 6) (by rw [hkm]; decide), rowB_same (q := 7) (by rw [hkm]; decide), rowB_same (q := 8) (by rw [hkm]; decide), rowB_same (q := 9) (by rw [hkm]; decide), rowB_same (q := 10) (by rw [hkm]; decide)]
              rfl
            · have hl := hrl 2
              have hgk := hg 2
              apply Walk.drawX tab_ok mixed_ok [] [15, 16] (hsV _ [id, fun H => H.set 6 (.grow 3 ((rowS (addS b m n) j 2).isEmpty && false) (ints (rowS (addS b m n) j 2) ++ [natA j])), fun H => (H.set 6 (.grow 3 ((rowS (addS b m n) j 2).isEmpty && false) (ints (rowS (addS b m n) j 2) ++ [natA j]))).set 2 (.map (mput 2 (.gr 6 ((rowS (addS b m n) j 2).length + 1)) (esT 4 (addS b m n) j)))]) [_, _, _, _, _, _, _, _, _, _, _, _, .gr 6 (rowS (addS b m n) j 2).length, _, _, .gr 6 ((rowS (addS b m n) j 2).length + 1), _] (by kernel_rfl) rfl
              · skip
                repeat' first | ((with_reducible refine XHold.mk ?_ ?_); (first | omega | rfl | decide | exact ⟨rfl, by decide, rfl⟩ | exact wideI _ | exact widePr _ | exact wideSk _ | (unfold Room; constructor <;> ((try simp) <;> omega)) | exact ⟨rfl, by simp only [List.length_map], by unfold Room; constructor <;> ((try simp) <;> omega)⟩ | exact ⟨by omega, by omega, by unfold Room; constructor <;> ((try simp) <;> omega)⟩); conv => whnf) | (with_reducible apply XAnd.mk) | ((first | (with_reducible apply Chk.go) | (with_reducible apply ChkA.go)); conv => whnf) | (exact XSame.mk rfl rfl) | (with_reducible exact trivial) | ((refine XGetM.rowI (te := 3) (xs := rowS (addS b m n) j 2) 6 rfl hgk ?_); conv => whnf) | fail
              · skip
                repeat' first | (with_reducible apply XAnd.mk) | ((first | (with_reducible apply Chk.go) | (with_reducible apply ChkF.go) | (with_reducible apply ChkB.go)); conv => whnf) | (exact XSame.mk rfl rfl) | (with_reducible exact trivial) | fail
              conv => whnf
              repeat' first | ((with_reducible refine XInt.i64 (by omega) (by omega) ?_); conv => whnf) | fail
              refine XAgainG.go (j + 1) [.cells [.int .i64 2, .int .i64 ((addS b m n).surveys.getD j default).lo, .int .i64 ((addS b m n).surveys.getD j default).hi]] (by omega) (by omega) ?_ ⟨rfl, rfl, rfl, rfl, rfl, rfl, rfl, trivial⟩
              rw [hes, rowB_same (q := 0) (by rw [hkm]; decide), rowB_same (q := 1) (by rw [hkm]; decide), rowB_hit hkm, rowB_same (q := 3) (by rw [hkm]; decide), rowB_same (q := 4) (by rw [hkm]; decide), rowB_same (q := 5) (by rw [hkm]; decide), rowB_same (q := 6) (by rw [hkm]; decide), rowB_same (q := 7) (by rw [hkm]; decide), rowB_same (q := 8) (by rw [hkm]; decide), rowB_same (q := 9) (by rw [hkm]; decide), rowB_same (q := 10) (by rw [hkm]; decide)]
              rfl
            · have hl := hrl 3
              have hgk := hg 3
              apply Walk.drawX tab_ok mixed_ok [] [15, 16] (hsV _ [id, fun H => H.set 7 (.grow 3 ((rowS (addS b m n) j 3).isEmpty && false) (ints (rowS (addS b m n) j 3) ++ [natA j])), fun H => (H.set 7 (.grow 3 ((rowS (addS b m n) j 3).isEmpty && false) (ints (rowS (addS b m n) j 3) ++ [natA j]))).set 2 (.map (mput 3 (.gr 7 ((rowS (addS b m n) j 3).length + 1)) (esT 4 (addS b m n) j)))]) [_, _, _, _, _, _, _, _, _, _, _, _, .gr 7 (rowS (addS b m n) j 3).length, _, _, .gr 7 ((rowS (addS b m n) j 3).length + 1), _] (by kernel_rfl) rfl
              · skip
                repeat' first | ((with_reducible refine XHold.mk ?_ ?_); (first | omega | rfl | decide | exact ⟨rfl, by decide, rfl⟩ | exact wideI _ | exact widePr _ | exact wideSk _ | (unfold Room; constructor <;> ((try simp) <;> omega)) | exact ⟨rfl, by simp only [List.length_map], by unfold Room; constructor <;> ((try simp) <;> omega)⟩ | exact ⟨by omega, by omega, by unfold Room; constructor <;> ((try simp) <;> omega)⟩); conv => whnf) | (with_reducible apply XAnd.mk) | ((first | (with_reducible apply Chk.go) | (with_reducible apply ChkA.go)); conv => whnf) | (exact XSame.mk rfl rfl) | (with_reducible exact trivial) | ((refine XGetM.rowI (te := 3) (xs := rowS (addS b m n) j 3) 7 rfl hgk ?_); conv => whnf) | fail
              · skip
                repeat' first | (with_reducible apply XAnd.mk) | ((first | (with_reducible apply Chk.go) | (with_reducible apply ChkF.go) | (with_reducible apply ChkB.go)); conv => whnf) | (exact XSame.mk rfl rfl) | (with_reducible exact trivial) | fail
              conv => whnf
              repeat' first | ((with_reducible refine XInt.i64 (by omega) (by omega) ?_); conv => whnf) | fail
              refine XAgainG.go (j + 1) [.cells [.int .i64 3, .int .i64 ((addS b m n).surveys.getD j default).lo, .int .i64 ((addS b m n).surveys.getD j default).hi]] (by omega) (by omega) ?_ ⟨rfl, rfl, rfl, rfl, rfl, rfl, rfl, trivial⟩
              rw [hes, rowB_same (q := 0) (by rw [hkm]; decide), rowB_same (q := 1) (by rw [hkm]; decide), rowB_same (q := 2) (by rw [hkm]; decide), rowB_hit hkm, rowB_same (q := 4) (by rw [hkm]; decide), rowB_same (q := 5) (by rw [hkm]; decide), rowB_same (q := 6) (by rw [hkm]; decide), rowB_same (q := 7) (by rw [hkm]; decide), rowB_same (q := 8) (by rw [hkm]; decide), rowB_same (q := 9) (by rw [hkm]; decide), rowB_same (q := 10) (by rw [hkm]; decide)]
              rfl
            · have hl := hrl 4
              have hgk := hg 4
              apply Walk.drawX tab_ok mixed_ok [] [15, 16] (hsV _ [id, fun H => H.set 8 (.grow 3 ((rowS (addS b m n) j 4).isEmpty && false) (ints (rowS (addS b m n) j 4) ++ [natA j])), fun H => (H.set 8 (.grow 3 ((rowS (addS b m n) j 4).isEmpty && false) (ints (rowS (addS b m n) j 4) ++ [natA j]))).set 2 (.map (mput 4 (.gr 8 ((rowS (addS b m n) j 4).length + 1)) (esT 4 (addS b m n) j)))]) [_, _, _, _, _, _, _, _, _, _, _, _, .gr 8 (rowS (addS b m n) j 4).length, _, _, .gr 8 ((rowS (addS b m n) j 4).length + 1), _] (by kernel_rfl) rfl
              · skip
                repeat' first | ((with_reducible refine XHold.mk ?_ ?_); (first | omega | rfl | decide | exact ⟨rfl, by decide, rfl⟩ | exact wideI _ | exact widePr _ | exact wideSk _ | (unfold Room; constructor <;> ((try simp) <;> omega)) | exact ⟨rfl, by simp only [List.length_map], by unfold Room; constructor <;> ((try simp) <;> omega)⟩ | exact ⟨by omega, by omega, by unfold Room; constructor <;> ((try simp) <;> omega)⟩); conv => whnf) | (with_reducible apply XAnd.mk) | ((first | (with_reducible apply Chk.go) | (with_reducible apply ChkA.go)); conv => whnf) | (exact XSame.mk rfl rfl) | (with_reducible exact trivial) | ((refine XGetM.rowI (te := 3) (xs := rowS (addS b m n) j 4) 8 rfl hgk ?_); conv => whnf) | fail
              · skip
                repeat' first | (with_reducible apply XAnd.mk) | ((first | (with_reducible apply Chk.go) | (with_reducible apply ChkF.go) | (with_reducible apply ChkB.go)); conv => whnf) | (exact XSame.mk rfl rfl) | (with_reducible exact trivial) | fail
              conv => whnf
              repeat' first | ((with_reducible refine XInt.i64 (by omega) (by omega) ?_); conv => whnf) | fail
              refine XAgainG.go (j + 1) [.cells [.int .i64 4, .int .i64 ((addS b m n).surveys.getD j default).lo, .int .i64 ((addS b m n).surveys.getD j default).hi]] (by omega) (by omega) ?_ ⟨rfl, rfl, rfl, rfl, rfl, rfl, rfl, trivial⟩
              rw [hes, rowB_same (q := 0) (by rw [hkm]; decide), rowB_same (q := 1) (by rw [hkm]; decide), rowB_same (q := 2) (by rw [hkm]; decide), rowB_same (q := 3) (by rw [hkm]; decide), rowB_hit hkm, rowB_same (q := 5) (by rw [hkm]; decide), rowB_same (q := 6) (by rw [hkm]; decide), rowB_same (q := 7) (by rw [hkm]; decide), rowB_same (q := 8) (by rw [hkm]; decide), rowB_same (q := 9) (by rw [hkm]; decide), rowB_same (q := 10) (by rw [hkm]; decide)]
              rfl
            · have hl := hrl 5
              have hgk := hg 5
              apply Walk.drawX tab_ok mixed_ok [] [15, 16] (hsV _ [id, fun H => H.set 9 (.grow 3 ((rowS (addS b m n) j 5).isEmpty && false) (ints (rowS (addS b m n) j 5) ++ [natA j])), fun H => (H.set 9 (.grow 3 ((rowS (addS b m n) j 5).isEmpty && false) (ints (rowS (addS b m n) j 5) ++ [natA j]))).set 2 (.map (mput 5 (.gr 9 ((rowS (addS b m n) j 5).length + 1)) (esT 4 (addS b m n) j)))]) [_, _, _, _, _, _, _, _, _, _, _, _, .gr 9 (rowS (addS b m n) j 5).length, _, _, .gr 9 ((rowS (addS b m n) j 5).length + 1), _] (by kernel_rfl) rfl
              · skip
                repeat' first | ((with_reducible refine XHold.mk ?_ ?_); (first | omega | rfl | decide | exact ⟨rfl, by decide, rfl⟩ | exact wideI _ | exact widePr _ | exact wideSk _ | (unfold Room; constructor <;> ((try simp) <;> omega)) | exact ⟨rfl, by simp only [List.length_map], by unfold Room; constructor <;> ((try simp) <;> omega)⟩ | exact ⟨by omega, by omega, by unfold Room; constructor <;> ((try simp) <;> omega)⟩); conv => whnf) | (with_reducible apply XAnd.mk) | ((first | (with_reducible apply Chk.go) | (with_reducible apply ChkA.go)); conv => whnf) | (exact XSame.mk rfl rfl) | (with_reducible exact trivial) | ((refine XGetM.rowI (te := 3) (xs := rowS (addS b m n) j 5) 9 rfl hgk ?_); conv => whnf) | fail
              · skip
                repeat' first | (with_reducible apply XAnd.mk) | ((first | (with_reducible apply Chk.go) | (with_reducible apply ChkF.go) | (with_reducible apply ChkB.go)); conv => whnf) | (exact XSame.mk rfl rfl) | (with_reducible exact trivial) | fail
              conv => whnf
              repeat' first | ((with_reducible refine XInt.i64 (by omega) (by omega) ?_); conv => whnf) | fail
              refine XAgainG.go (j + 1) [.cells [.int .i64 5, .int .i64 ((addS b m n).surveys.getD j default).lo, .int .i64 ((addS b m n).surveys.getD j default).hi]] (by omega) (by omega) ?_ ⟨rfl, rfl, rfl, rfl, rfl, rfl, rfl, trivial⟩
              rw [hes, rowB_same (q := 0) (by rw [hkm]; decide), rowB_same (q := 1) (by rw [hkm]; decide), rowB_same (q := 2) (by rw [hkm]; decide), rowB_same (q := 3) (by rw [hkm]; decide), rowB_same (q := 4) (by rw [hkm]; decide), rowB_hit hkm, rowB_same (q := 6) (by rw [hkm]; decide), rowB_same (q := 7) (by rw [hkm]; decide), rowB_same (q := 8) (by rw [hkm]; decide), rowB_same (q := 9) (by rw [hkm]; decide), rowB_same (q := 10) (by rw [hkm]; decide)]
              rfl
            · have hl := hrl 6
              have hgk := hg 6
              apply Walk.drawX tab_ok mixed_ok [] [15, 16] (hsV _ [id, fun H => H.set 10 (.grow 3 ((rowS (addS b m n) j 6).isEmpty && false) (ints (rowS (addS b m n) j 6) ++ [natA j])), fun H => (H.set 10 (.grow 3 ((rowS (addS b m n) j 6).isEmpty && false) (ints (rowS (addS b m n) j 6) ++ [natA j]))).set 2 (.map (mput 6 (.gr 10 ((rowS (addS b m n) j 6).length + 1)) (esT 4 (addS b m n) j)))]) [_, _, _, _, _, _, _, _, _, _, _, _, .gr 10 (rowS (addS b m n) j 6).length, _, _, .gr 10 ((rowS (addS b m n) j 6).length + 1), _] (by kernel_rfl) rfl
              · skip
                repeat' first | ((with_reducible refine XHold.mk ?_ ?_); (first | omega | rfl | decide | exact ⟨rfl, by decide, rfl⟩ | exact wideI _ | exact widePr _ | exact wideSk _ | (unfold Room; constructor <;> ((try simp) <;> omega)) | exact ⟨rfl, by simp only [List.length_map], by unfold Room; constructor <;> ((try simp) <;> omega)⟩ | exact ⟨by omega, by omega, by unfold Room; constructor <;> ((try simp) <;> omega)⟩); conv => whnf) | (with_reducible apply XAnd.mk) | ((first | (with_reducible apply Chk.go) | (with_reducible apply ChkA.go)); conv => whnf) | (exact XSame.mk rfl rfl) | (with_reducible exact trivial) | ((refine XGetM.rowI (te := 3) (xs := rowS (addS b m n) j 6) 10 rfl hgk ?_); conv => whnf) | fail
              · skip
                repeat' first | (with_reducible apply XAnd.mk) | ((first | (with_reducible apply Chk.go) | (with_reducible apply ChkF.go) | (with_reducible apply ChkB.go)); conv => whnf) | (exact XSame.mk rfl rfl) | (with_reducible exact trivial) | fail
              conv => whnf
              repeat' first | ((with_reducible refine XInt.i64 (by omega) (by omega) ?_); conv => whnf) | fail
              refine XAgainG.go (j + 1) [.cells [.int .i64 6, .int .i64 ((addS b m n).surveys.getD j default).lo, .int .i64 ((addS b m n).surveys.getD j default).hi]] (by omega) (by omega) ?_ ⟨rfl, rfl, rfl, rfl, rfl, rfl, rfl, trivial⟩
              rw [hes, rowB_same (q := 0) (by rw [hkm]; decide), rowB_same (q := 1) (by rw [hkm]; decide), rowB_same (q := 2) (by rw [hkm]; decide), rowB_same (q := 3) (by rw [hkm]; decide), rowB_same (q := 4) (by rw [hkm]; decide), rowB_same (q := 5) (by rw [hkm]; decide), rowB_hit hkm, rowB_same (q := 7) (by rw [hkm]; decide), rowB_same (q := 8) (by rw [hkm]; decide), rowB_same (q := 9) (by rw [hkm]; decide), rowB_same (q := 10) (by rw [hkm]; decide)]
              rfl
            · have hl := hrl 7
              have hgk := hg 7
              apply Walk.drawX tab_ok mixed_ok [] [15, 16] (hsV _ [id, fun H => H.set 11 (.grow 3 ((rowS (addS b m n) j 7).isEmpty && false) (ints (rowS (addS b m n) j 7) ++ [natA j])), fun H => (H.set 11 (.grow 3 ((rowS (addS b m n) j 7).isEmpty && false) (ints (rowS (addS b m n) j 7) ++ [natA j]))).set 2 (.map (mput 7 (.gr 11 ((rowS (addS b m n) j 7).length + 1)) (esT 4 (addS b m n) j)))]) [_, _, _, _, _, _, _, _, _, _, _, _, .gr 11 (rowS (addS b m n) j 7).length, _, _, .gr 11 ((rowS (addS b m n) j 7).length + 1), _] (by kernel_rfl) rfl
              · skip
                repeat' first | ((with_reducible refine XHold.mk ?_ ?_); (first | omega | rfl | decide | exact ⟨rfl, by decide, rfl⟩ | exact wideI _ | exact widePr _ | exact wideSk _ | (unfold Room; constructor <;> ((try simp) <;> omega)) | exact ⟨rfl, by simp only [List.length_map], by unfold Room; constructor <;> ((try simp) <;> omega)⟩ | exact ⟨by omega, by omega, by unfold Room; constructor <;> ((try simp) <;> omega)⟩); conv => whnf) | (with_reducible apply XAnd.mk) | ((first | (with_reducible apply Chk.go) | (with_reducible apply ChkA.go)); conv => whnf) | (exact XSame.mk rfl rfl) | (with_reducible exact trivial) | ((refine XGetM.rowI (te := 3) (xs := rowS (addS b m n) j 7) 11 rfl hgk ?_); conv => whnf) | fail
              · skip
                repeat' first | (with_reducible apply XAnd.mk) | ((first | (with_reducible apply Chk.go) | (with_reducible apply ChkF.go) | (with_reducible apply ChkB.go)); conv => whnf) | (exact XSame.mk rfl rfl) | (with_reducible exact trivial) | fail
              conv => whnf
              repeat' first | ((with_reducible refine XInt.i64 (by omega) (by omega) ?_); conv => whnf) | fail
              refine XAgainG.go (j + 1) [.cells [.int .i64 7, .int .i64 ((addS b m n).surveys.getD j default).lo, .int .i64 ((addS b m n).surveys.getD j default).hi]] (by omega) (by omega) ?_ ⟨rfl, rfl, rfl, rfl, rfl, rfl, rfl, trivial⟩
              rw [hes, rowB_same (q := 0) (by rw [hkm]; decide), rowB_same (q := 1) (by rw [hkm]; decide), rowB_same (q := 2) (by rw [hkm]; decide), rowB_same (q := 3) (by rw [hkm]; decide), rowB_same (q := 4) (by rw [hkm]; decide), rowB_same (q := 5) (by rw [hkm]; decide), rowB_same (q := 6) (by rw [hkm]; decide), rowB_hit hkm, rowB_same (q := 8) (by rw [hkm]; decide), rowB_same (q := 9) (by rw [hkm]; decide), rowB_same (q := 10) (by rw [hkm]; decide)]
              rfl
            · have hl := hrl 8
              have hgk := hg 8
              apply Walk.drawX tab_ok mixed_ok [] [15, 16] (hsV _ [id, fun H => H.set 12 (.grow 3 ((rowS (addS b m n) j 8).isEmpty && false) (ints (rowS (addS b m n) j 8) ++ [natA j])), fun H => (H.set 12 (.grow 3 ((rowS (addS b m n) j 8).isEmpty && false) (ints (rowS (addS b m n) j 8) ++ [natA j]))).set 2 (.map (mput 8 (.gr 12 ((rowS (addS b m n) j 8).length + 1)) (esT 4 (addS b m n) j)))]) [_, _, _, _, _, _, _, _, _, _, _, _, .gr 12 (rowS (addS b m n) j 8).length, _, _, .gr 12 ((rowS (addS b m n) j 8).length + 1), _] (by kernel_rfl) rfl
              · skip
                repeat' first | ((with_reducible refine XHold.mk ?_ ?_); (first | omega | rfl | decide | exact ⟨rfl, by decide, rfl⟩ | exact wideI _ | exact widePr _ | exact wideSk _ | (unfold Room; constructor <;> ((try simp) <;> omega)) | exact ⟨rfl, by simp only [List.length_map], by unfold Room; constructor <;> ((try simp) <;> omega)⟩ | exact ⟨by omega, by omega, by unfold Room; constructor <;> ((try simp) <;> omega)⟩); conv => whnf) | (with_reducible apply XAnd.mk) | ((first | (with_reducible apply Chk.go) | (with_reducible apply ChkA.go)); conv => whnf) | (exact XSame.mk rfl rfl) | (with_reducible exact trivial) | ((refine XGetM.rowI (te := 3) (xs := rowS (addS b m n) j 8) 12 rfl hgk ?_); conv => whnf) | fail
              · skip
                repeat' first | (with_reducible apply XAnd.mk) | ((first | (with_reducible apply Chk.go) | (with_reducible apply ChkF.go) | (with_reducible apply ChkB.go)); conv => whnf) | (exact XSame.mk rfl rfl) | (with_reducible exact trivial) | fail
              conv => whnf
              repeat' first | ((with_reducible refine XInt.i64 (by omega) (by omega) ?_); conv => whnf) | fail
              refine XAgainG.go (j + 1) [.cells [.int .i64 8, .int .i64 ((addS b m n).surveys.getD j default).lo, .int .i64 ((addS b m n).surveys.getD j default).hi]] (by omega) (by omega) ?_ ⟨rfl, rfl, rfl, rfl, rfl, rfl, rfl, trivial⟩
              rw [hes, rowB_same (q := 0) (by rw [hkm]; decide), rowB_same (q := 1) (by rw [hkm]; decide), rowB_same (q := 2) (by rw [hkm]; decide), rowB_same (q := 3) (by rw [hkm]; decide), rowB_same (q := 4) (by rw [hkm]; decide), rowB_same (q := 5) (by rw [hkm]; decide), rowB_same (q := 6) (by rw [hkm]; decide), rowB_same (q := 7) (by rw [hkm]; decide), rowB_hit hkm, rowB_same (q := 9) (by rw [hkm]; decide), rowB_same (q := 10) (by rw [hkm]; decide)]
              rfl
            · have hl := hrl 9
              have hgk := hg 9
              apply Walk.drawX tab_ok mixed_ok [] [15, 16] (hsV _ [id, fun H => H.set 13 (.grow 3 ((rowS (addS b m n) j 9).isEmpty && false) (ints (rowS (addS b m n) j 9) ++ [natA j])), fun H => (H.set 13 (.grow 3 ((rowS (addS b m n) j 9).isEmpty && false) (ints (rowS (addS b m n) j 9) ++ [natA j]))).set 2 (.map (mput 9 (.gr 13 ((rowS (addS b m n) j 9).length + 1)) (esT 4 (addS b m n) j)))]) [_, _, _, _, _, _, _, _, _, _, _, _, .gr 13 (rowS (addS b m n) j 9).length, _, _, .gr 13 ((rowS (addS b m n) j 9).length + 1), _] (by kernel_rfl) rfl
              · skip
                repeat' first | ((with_reducible refine XHold.mk ?_ ?_); (first | omega | rfl | decide | exact ⟨rfl, by decide, rfl⟩ | exact wideI _ | exact widePr _ | exact wideSk _ | (unfold Room; constructor <;> ((try simp) <;> omega)) | exact ⟨rfl, by simp only [List.length_map], by unfold Room; constructor <;> ((try simp) <;> omega)⟩ | exact ⟨by omega, by omega, by unfold Room; constructor <;> ((try simp) <;> omega)⟩); conv => whnf) | (with_reducible apply XAnd.mk) | ((first | (with_reducible apply Chk.go) | (with_reducible apply ChkA.go)); conv => whnf) | (exact XSame.mk rfl rfl) | (with_reducible exact trivial) | ((refine XGetM.rowI (te := 3) (xs := rowS (addS b m n) j 9) 13 rfl hgk ?_); conv => whnf) | fail
              · skip
                repeat' first | (with_reducible apply XAnd.mk) | ((first | (with_reducible apply Chk.go) | (with_reducible apply ChkF.go) | (with_reducible apply ChkB.go)); conv => whnf) | (exact XSame.mk rfl rfl) | (with_reducible exact trivial) | fail
              conv => whnf
              repeat' first | ((with_reducible refine XInt.i64 (by omega) (by omega) ?_); conv => whnf) | fail
              refine XAgainG.go (j + 1) [.cells [.int .i64 9, .int .i64 ((addS b m n).surveys.getD j default).lo, .int .i64 ((addS b m n).surveys.getD j default).hi]] (by omega) (by omega) ?_ ⟨rfl, rfl, rfl, rfl, rfl, rfl, rfl, trivial⟩
              rw [hes, rowB_same (q := 0) (by rw [hkm]; decide), rowB_same (q := 1) (by rw [hkm]; decide), rowB_same (q := 2) (by rw [hkm]; decide), rowB_same (q := 3) (by rw [hkm]; decide), rowB_same (q := 4) (by rw [hkm]; decide), rowB_same (q := 5) (by rw [hkm]; decide), rowB_same (q := 6) (by rw [hkm]; decide), rowB_same (q := 7) (by rw [hkm]; decide), rowB_same (q := 8) (by rw [hkm]; decide), rowB_hit hkm, rowB_same (q := 10) (by rw [hkm]; decide)]
              rfl
            · have hl := hrl 10
              have hgk := hg 10
              apply Walk.drawX tab_ok mixed_ok [] [15, 16] (hsV _ [id, fun H => H.set 14 (.grow 3 ((rowS (addS b m n) j 10).isEmpty && false) (ints (rowS (addS b m n) j 10) ++ [natA j])), fun H => (H.set 14 (.grow 3 ((rowS (addS b m n) j 10).isEmpty && false) (ints (rowS (addS b m n) j 10) ++ [natA j]))).set 2 (.map (mput 10 (.gr 14 ((rowS (addS b m n) j 10).length + 1)) (esT 4 (addS b m n) j)))]) [_, _, _, _, _, _, _, _, _, _, _, _, .gr 14 (rowS (addS b m n) j 10).length, _, _, .gr 14 ((rowS (addS b m n) j 10).length + 1), _] (by kernel_rfl) rfl
              · skip
                repeat' first | ((with_reducible refine XHold.mk ?_ ?_); (first | omega | rfl | decide | exact ⟨rfl, by decide, rfl⟩ | exact wideI _ | exact widePr _ | exact wideSk _ | (unfold Room; constructor <;> ((try simp) <;> omega)) | exact ⟨rfl, by simp only [List.length_map], by unfold Room; constructor <;> ((try simp) <;> omega)⟩ | exact ⟨by omega, by omega, by unfold Room; constructor <;> ((try simp) <;> omega)⟩); conv => whnf) | (with_reducible apply XAnd.mk) | ((first | (with_reducible apply Chk.go) | (with_reducible apply ChkA.go)); conv => whnf) | (exact XSame.mk rfl rfl) | (with_reducible exact trivial) | ((refine XGetM.rowI (te := 3) (xs := rowS (addS b m n) j 10) 14 rfl hgk ?_); conv => whnf) | fail
              · skip
                repeat' first | (with_reducible apply XAnd.mk) | ((first | (with_reducible apply Chk.go) | (with_reducible apply ChkF.go) | (with_reducible apply ChkB.go)); conv => whnf) | (exact XSame.mk rfl rfl) | (with_reducible exact trivial) | fail
              conv => whnf
              repeat' first | ((with_reducible refine XInt.i64 (by omega) (by omega) ?_); conv => whnf) | fail
              refine XAgainG.go (j + 1) [.cells [.int .i64 10, .int .i64 ((addS b m n).surveys.getD j default).lo, .int .i64 ((addS b m n).surveys.getD j default).hi]] (by omega) (by omega) ?_ ⟨rfl, rfl, rfl, rfl, rfl, rfl, rfl, trivial⟩
              rw [hes, rowB_same (q := 0) (by rw [hkm]; decide), rowB_same (q := 1) (by rw [hkm]; decide), rowB_same (q := 2) (by rw [hkm]; decide), rowB_same (q := 3) (by rw [hkm]; decide), rowB_same (q := 4) (by rw [hkm]; decide), rowB_same (q := 5) (by rw [hkm]; decide), rowB_same (q := 6) (by rw [hkm]; decide), rowB_same (q := 7) (by rw [hkm]; decide), rowB_same (q := 8) (by rw [hkm]; decide), rowB_same (q := 9) (by rw [hkm]; decide), rowB_hit hkm]
              rfl
          · obtain rfl : j = b.surveys.length + 1 := by omega
            repeat' first | ((with_reducible apply XBr.dec) <;> (intro h; first | (exfalso; omega) | ((try simp only [List.length_map] at h); first | (exfalso; omega) | (conv => whnf)))) | fail
            refine XKeepE.go [] _ [(3, .pim (bedC (addS b m n))), (6, .sl true []), (7, .int .i64 0), (10, dskA (addS b m n))] rfl (fun x hx => by cases hx) ⟨⟨_, rfl, .all (Froz.ptr rfl (bedOne _) ?_)⟩, ⟨_, rfl, .same rfl⟩, ⟨_, rfl, .same rfl⟩, ⟨_, rfl, .all (Froz.ptr rfl (dskOne _) ?_)⟩, trivial⟩ ?_
            · exact .cons (.low rfl) (.cons (.low rfl) (.cons (.low rfl) (.cons (.low (lowMo _)) (.cons (Froz.grow rfl (by rw [List.length_map]; exact hlB) (sus_low _)) .nil))))
            · refine .cons (.low rfl) (.cons (.low rfl) (.cons (.low rfl) (.cons (.low (lowMo _)) (.cons (Froz.grow rfl (by rw [List.length_map]; exact hlB) (sus_low _)) (.cons ?_ .nil)))))
              have hkB : keyS (addS b m n) = (esT 4 (addS b m n) (b.surveys.length + 1)).map (·.1) := by rw [keyS_B, hlB]
              unfold rowsS
              rw [hkB]
              refine Froz.mp rfl (frozMap _ (fun k => slA (rowT (addS b m n) k.toNat)) _ fun p hp => ?_)
              obtain ⟨h1, h2, h3⟩ := esT_vals 4 (addS b m n) hsm _ (by omega) p hp
              rw [h3]
              obtain ⟨k, hk, hk2⟩ : ∃ k : Nat, k ≤ 10 ∧ p.1.toNat = k := ⟨p.1.toNat, by omega, rfl⟩
              rw [hk2]
              unfold rowT
              rw [hlB]
              have hkk : k = 0 ∨ k = 1 ∨ k = 2 ∨ k = 3 ∨ k = 4 ∨ k = 5 ∨ k = 6 ∨ k = 7 ∨ k = 8 ∨ k = 9 ∨ k = 10 := by omega
              rcases hkk with rfl | rfl | rfl | rfl | rfl | rfl | rfl | rfl | rfl | rfl | rfl <;> exact Froz.grow rfl (List.length_map _) (lowI _)
            conv => whnf
            cases hn : noneB (addS b m n) alwP with
            | true =>
              have hn' : (vecF 121 (cnB (addS b m n) alwP 0) == List.replicate 121 false) = true := hn
              repeat' first | ((first | (refine XCall.ret bAll_c ?_) | (refine XCall.ret hcan ?_) | (refine XIx.mat 0 rfl (by omega) rfl ?_) | (refine xtk_vec rfl ?_) | (refine xeqb0 ?_) | (with_reducible refine XBr.yes hn' ?_)); conv => whnf) | fail
              exact ⟨.low rfl⟩
            | false =>
              have hn' : (vecF 121 (cnB (addS b m n) alwP 0) == List.replicate 121 false) = false := hn
              have hcc := cr_cn okB hn
              have hLn : 0 < (lstF (cnB (addS b m n) alwP 0) 121).length := List.length_pos_of_mem (lstF_mem.2 ⟨cr (addS b m n) 0, by have := cnB_room (hcc 0 (Nat.zero_le _)); have : (addS b m n).room ≤ 120 := okB.r2; omega, hcc 0 (Nat.zero_le _), rfl⟩)
              have hLl : (ints (lstF (cnB (addS b m n) alwP 0) 121)).length = (lstF (cnB (addS b m n) alwP 0) 121).length := ints_len _
              repeat' first | ((first | (refine XCall.ret bAll_c ?_) | (refine XCall.ret hcan ?_) | (refine XIx.mat 0 rfl (by omega) rfl ?_) | (refine xtk_vec rfl ?_) | (refine xeqb0 ?_) | (with_reducible refine XBr.no hn' ?_) | (refine XCall.amList ?_) | (refine XHold.mk ⟨⟨by omega, by omega, by omega, by omega⟩, hLl, rfl⟩ ?_)); conv => whnf) | fail
              refine Walk.truncCell 17 0 16 (lstF (cnB (addS b m n) alwP 0) 121).length 1 rfl rfl rfl hLl hLn ?_
              refine Walk.loopM tab_ok [] (fun k : Nat => k ≤ b.months.length) (fun k => [(6, .sl true []), (7, .int .i64 0), (10, dskA (addS b m n)), (13, .ptr 15 0), (14, .ptr 17 0), (91, .int .i64 ((b.months.map moA).length : Nat)), (92, natA k)]) (fun k => [.dead, .dead, .dead, .dead, .dead, .dead, .dead, .dead, .dead, .dead, .dead, .dead, .dead, .dead, .dead, .cells [.sl false ((matF (b.months.length + 1) 121 (cnB (addS b m n) alwP)).map (arrF .bool))], .dead, .cells [.gr 18 (crL (addS b m n) (k + 1)).length], .grow 3 false (ints (crL (addS b m n) (k + 1)))]) (fun k => b.months.length - k) 0 19 (Nat.zero_le _) (by rw [← crL_one (addS b m n) rfl hLn, crL_len] <;> rfl) rfl ⟨rfl, rfl, rfl, rfl, rfl, rfl, rfl, trivial⟩ ?_
              intro k hk
              have hcl : (ints (crL (addS b m n) (k + 1))).length = (crL (addS b m n) (k + 1)).length := ints_len _
              have hcl2 : (crL (addS b m n) (k + 1)).length = k + 1 := crL_len _ _
              conv => whnf
              by_cases hltk : k < b.months.length
              · have hgk : (crL (addS b m n) (k + 1)).getD k default = (cr (addS b m n) k : Int) := crL_get _ (by omega)
                have hck := cnB_room (hcc k (by show k ≤ b.months.length; omega))
                have hlv := bLeaves_c (addS b m n) okB k (cr (addS b m n) k) hltk
                have hck1 : (cr (addS b m n) k : Int) ≤ b.room := hck
                repeat' first | ((with_reducible apply XBr.dec) <;> (intro h; first | (exfalso; omega) | ((try simp only [List.length_map] at h); first | (exfalso; omega) | (conv => whnf)))) | (with_reducible apply XAnd.mk) | ((first | (with_reducible apply Chk.go) | (with_reducible apply ChkA.go) | (with_reducible apply ChkF.go) | (with_reducible apply ChkB.go)); conv => whnf) | (exact XSame.mk rfl rfl) | (with_reducible exact trivial) | (apply Walk.drawN (id := 23) tab_ok mixed_ok [3, 50] [] (hsU _) [_, _, _, _, _, _, _] (by kernel_rfl) rfl) | ((first | (with_reducible apply XNext.mk) | (refine XHold.mk ⟨hcl, rfl, by omega, by omega⟩ ?_) | ((refine XGet.intJ k (by omega) rfl (by omega) ?_); rw [hgk]) | (refine XCall.ret hlv ?_)); conv => whnf) | fail
                refine Walk.range (own := []) tab_ok [(13, .ptr 15 0), (14, .ptr 17 0), (15, .ptr 19 0)] rfl ⟨rfl, rfl, rfl, trivial⟩ ?_
                intro fn
                refine bLeaves1_c (addS b m n) okB k (cr (addS b m n) k) _ hltk hck _ _ ?_
                have hfind : (lvL (addS b m n) k (cr (addS b m n) k)).find? (cnB (addS b m n) alwP (k + 1)) = some (cr (addS b m n) (k + 1)) := by
                  obtain ⟨x, h1, h2⟩ := cn_next okB hltk (hcc k (by show k ≤ b.months.length; omega))
                  cases hf : (lvL (addS b m n) k (cr (addS b m n) k)).find? (cnB (addS b m n) alwP (k + 1)) with
                  | none => exact absurd h2 (List.find?_eq_none.1 hf x h1)
                  | some y => rw [show cr (addS b m n) (k + 1) = ((lvL (addS b m n) k (cr (addS b m n) k)).find? (cnB (addS b m n) alwP (k + 1))).getD 0 from rfl, hf]; rfl
                have hlr : ∀ c ∈ lvL (addS b m n) k (cr (addS b m n) k), c < 121 := fun c hc => by
                  have := ah_room okB hltk hc
                  have h2 : (addS b m n).room ≤ 120 := okB.r2
                  omega
                generalize lvL (addS b m n) k (cr (addS b m n) k) = cs at hfind hlr
                revert hfind hlr
                induction cs with
                | nil => intro h; cases h
                | cons c cs ih =>
                  intro hfind hlr
                  have hc121 := hlr c List.mem_cons_self
                  rw [List.find?_cons] at hfind
                  refine XYield.go (own := []) tab_ok rfl rfl (by decide) ?_
                  intro ρ
                  conv => whnf
                  cases hv : cnB (addS b m n) alwP (k + 1) c with
                  | false =>
                    rw [hv] at hfind
                    repeat' first | ((first | (with_reducible apply XBr.ff) | (with_reducible refine XInt.i64 (by omega) (by omega) ?_) | (refine XIx.mat (k + 1) (by omega) (by omega) rfl ?_) | ((refine XArr.vec c rfl (by omega) (by omega) ?_); rw [hv])); conv => whnf) | fail
                    exact .inl ⟨rfl, ih hfind fun x hx => hlr x (List.mem_cons_of_mem _ hx)⟩
                  | true =>
                    rw [hv] at hfind
                    obtain rfl : c = cr (addS b m n) (k + 1) := Option.some.inj hfind
                    repeat' first | ((first | (with_reducible apply XBr.tt) | (with_reducible refine XInt.i64 (by omega) (by omega) ?_)); conv => whnf) | ((with_reducible refine XHold.mk ?_ ?_); (first | omega | rfl | decide | exact ⟨rfl, by decide, rfl⟩ | exact wideI _ | exact widePr _ | exact wideSk _ | (unfold Room; constructor <;> ((try simp) <;> omega)) | exact ⟨rfl, by simp only [List.length_map], by unfold Room; constructor <;> ((try simp) <;> omega)⟩ | exact ⟨by omega, by omega, by unfold Room; constructor <;> ((try simp) <;> omega)⟩); conv => whnf) | ((first | (refine XIx.mat (k + 1) (by omega) (by omega) rfl ?_) | ((refine XArr.vec _ rfl (by omega) (by omega) ?_); rw [hv])); conv => whnf) | fail
                    refine .inr ⟨rfl, ?_⟩
                    conv => whnf
                    repeat' first | ((with_reducible refine XInt.i64 (by omega) (by omega) ?_); conv => whnf) | fail
                    refine XAgainM.go (k + 1) [.cells [natA k], .raw (.deferred (some [])), .dead] (by omega) (by omega) ?_ ⟨rfl, rfl, rfl, rfl, rfl, rfl, rfl, trivial⟩ (Nat.le_refl _) ?_ ?_ (by simp) (fun i hi => by rw [List.mem_singleton] at hi; subst hi; exact ⟨show 19 ≤ 19 + 1 by omega, rfl⟩)
                    · rw [crL_next (addS b m n) (k + 1), List.length_append]
                      unfold ints
                      rw [List.map_append]; rfl
                    · intro z hz
                      simp only [List.mem_cons, List.not_mem_nil, or_false] at hz
                      rcases hz with rfl | rfl | rfl | rfl | rfl | rfl | rfl | rfl | rfl | rfl | rfl | rfl | rfl | rfl | rfl | rfl | rfl | rfl | rfl <;> first | rfl | exact lowI _ | exact amtC_low _ _ _
                    · intro z hz
                      simp only [List.mem_cons, List.not_mem_nil, or_false] at hz
                      rcases hz with rfl | rfl | rfl | rfl | rfl | rfl | rfl <;> first | rfl | exact dskL _
              · obtain rfl : k = b.months.length := by omega
                repeat' first | ((with_reducible apply XBr.dec) <;> (intro h; first | (exfalso; omega) | ((try simp only [List.length_map] at h); first | (exfalso; omega) | (conv => whnf)))) | fail
                exact ⟨Froz.tup (.cons (Froz.grow rfl hcl (lowI _)) (.cons (.low rfl) .nil))⟩
  · rw [if_pos hE]
    generalize bedE b = e at hck hE
    have hnl : True := trivial
    refine Comp.body (T := tab) (res := [.tmp 6, .tmp 7]) tab_ok [3, 50] Try.func68 rfl (by kernel_rfl) Try.ntmps68 rfl (by simp only [List.length_cons, List.length_nil]; decide) (by simp only [lowL, bedL, AV.low]; rfl) ?_; conv => whnf
    repeat' first | ((with_reducible apply XBr.bne) <;> (intro h; first | (exfalso; omega) | (conv => whnf))) | ((refine XCall.ret hck ?_); conv => whnf) | fail
    exact ⟨.low rfl⟩
end GA
end

section
namespace GA
open Go Go.RowKit Go.Proofs
set_option pp.deepTerms true
set_option maxRecDepth 8000
set_option linter.unusedVariables false
set_option linter.unusedSimpArgs false

theorem XIx.lss {l : List (List Int)} {n : Int} {k : AV → Prop} (i : Nat) (hn : n = i) (h2 : i < l.length) (h : k (.pim [lsA (l.getD i default)])) : XIx (l.map lsA) n 1 k := by
  subst hn
  exact XIx.nat (f := lsA) h2 (fun _ => rfl) h
end GA
end

section
namespace GA
open Go Go.RowKit Go.Proofs
set_option pp.deepTerms true
set_option maxRecDepth 8000
set_option linter.unusedVariables false
set_option linter.unusedSimpArgs false

set_option maxHeartbeats 2000000 in
theorem bedCan_c (b : Bd) (month amount : Int) : Comp Try.prog 13 [bedA b, .int .i64 month, .int .i64 amount] (.bool true) := by
  have hgr := great04_c b
  have hwi := wide04_c b 60 10 8
  cases hg : great04 b
  case true =>
    refine Comp.body (T := tab) (res := [.tmp 6]) tab_ok [] Try.func13 rfl (by kernel_rfl) Try.ntmps13 rfl (by simp only [List.length_cons, List.length_nil]; decide) (by simp only [lowL, bedL, AV.low]; rfl) ?_; conv => whnf
    repeat' first | ((first | (with_reducible apply XBr.tt) | ((refine XCall.ret hgr ?_); rw [hg]) | (refine XCall.ret awake04_c ?_)); conv => whnf) | fail
    exact ⟨.low rfl⟩
  generalize decide (60 < b.room ∧ b.room ≤ 120 ∨ (10 : Int) < b.months.length ∧ (b.months.length : Int) ≤ 10 ∨ (8 : Int) < b.surveys.length ∧ (b.surveys.length : Int) ≤ 8) = w at hwi
  cases w with
  | true =>
    refine Comp.body (T := tab) (res := [.tmp 6]) tab_ok [] Try.func13 rfl (by kernel_rfl) Try.ntmps13 rfl (by simp only [List.length_cons, List.length_nil]; decide) (by simp only [lowL, bedL, AV.low]; rfl) ?_; conv => whnf
    repeat' first | ((first | (with_reducible apply XBr.tt) | (with_reducible apply XBr.ff) | ((refine XCall.ret hgr ?_); rw [hg]) | (refine XCall.ret hwi ?_) | (refine XCall.ret awake04_c ?_)); conv => whnf) | fail
    exact ⟨.low rfl⟩
  | false =>
    obtain ⟨g1, g2⟩ := great_iff.1 hg
    have how := own04_c b (by omega) (by omega)
    have hth := theirs04_c b (by omega) (by omega)
    have hsa := same04_c b (by omega) (by omega)
    have hM : (ownB b).months.length ≤ 100000 := show b.months.length ≤ 100000 by omega
    have hS : (ownB b).surveys.length ≤ 100000 := show b.surveys.length ≤ 100000 by omega
    have hcr := refCan_c (thB b) hM hS
    have hca := can_all_c (ownB b) hM hS
    have hbo := bounds_c (ownB b) hM hS
    have hlk := look_c (ownB b) hM hS
    have hco := course_c (ownB b) hM hS (fun h => by cases h) month amount
    have hrc := refCourse_c (thB b) hM hS month amount
    rw [canV_own] at hca
    rw [boundsA_own] at hbo
    rw [lookA_own] at hlk
    rw [courseA_own] at hco
    obtain ⟨nl, R, B, K, e, f1, f2, f3, f4, f5, f6, f7, f8, f9, f10⟩ := can_form (thB b)
    rw [f1] at hca hcr
    rw [f2] at hbo
    rw [f3] at hlk
    obtain ⟨cn, c, ce, hcf, hcl⟩ := courseA_form (thB b) (show b.months.length ≤ 1000 by omega) month amount
    rw [hcf] at hco hrc
    have heq := eq_int cn cn c c hcl
    rw [beq_self_eq_true] at heq
    have hrw := eqRows nl nl R f7 f8
    have erl : ((rowsA R).length : Int) = R.length := by rw [List.length_map]
    have ebl : ((chsA B).length : Int) = R.length := by rw [List.length_map, f5]
    clear f1 f2 f3 hcf
    refine Comp.body (T := tab) (res := [.tmp 6]) tab_ok [] Try.func13 rfl (by kernel_rfl) Try.ntmps13 rfl (by simp only [List.length_cons, List.length_nil]; decide) (by simp only [lowL, bedL, AV.low]; rfl) ?_; conv => whnf
    repeat' first | ((first | (with_reducible apply XBr.ff) | ((refine XCall.ret hgr ?_); rw [hg]) | (refine XCall.ret hwi ?_)); conv => whnf) | fail
    refine Walk.place (Walk.place ?_)
    apply Walk.drawX tab_ok mixed_ok [] [4, 5, 6, 7] (fun fl => match fl with
      | [a, b', x, y] => [(bif a then .cells (bif x then bedC (ownB b) else bzero) else .free), (bif b' then .cells (bif y then bedC (thB b) else bzero) else .free)]
      | _ => []) [_, _, _, _, .ptr 0 0, .ptr 1 0, _, _] (by kernel_rfl) rfl
    · skip
      repeat' first | (with_reducible apply XAnd.mk) | ((first | (with_reducible apply Chk.go) | (with_reducible apply ChkA.go)); conv => whnf) | (exact XSame.mk rfl rfl) | (with_reducible exact trivial) | ((first | (refine XCall.ret how ?_) | (refine XCall.ret hth ?_)); conv => whnf) | (first | ((refine XFree.at 0 rfl ?_); (conv => whnf); exact XSame.mk rfl rfl) | ((refine XFree.at 1 rfl ?_); (conv => whnf); exact XSame.mk rfl rfl)) | fail
    · skip
      repeat' first | (with_reducible apply XAnd.mk) | ((first | (with_reducible apply Chk.go) | (with_reducible apply ChkF.go) | (with_reducible apply ChkB.go)); conv => whnf) | (exact XSame.mk rfl rfl) | (with_reducible exact trivial) | ((first | (refine XCall.ret how ?_) | (refine XCall.ret hth ?_)); conv => whnf) | (first | ((refine XFree.at 0 rfl ?_); (conv => whnf); exact XSame.mk rfl rfl) | ((refine XFree.at 1 rfl ?_); (conv => whnf); exact XSame.mk rfl rfl)) | fail
    conv => whnf
    repeat' first | ((first | (refine XCall.ret hcr ?_) | (refine XCall.ret hca ?_) | (refine XCall.ret hbo ?_) | (refine XCall.ret hlk ?_)); conv => whnf) | fail
    refine Walk.norm tab_ok [] [(1, _), (2, _), (3, _), (7, _), (8, _), (9, _), (10, _), (11, _), (12, _), (13, _), (14, _), (15, _), (16, _), (17, _)] ⟨rfl, rfl, rfl, rfl, rfl, rfl, rfl, rfl, rfl, rfl, rfl, rfl, rfl, rfl, trivial⟩ ?_
    conv => whnf
    repeat' first | ((first | (with_reducible apply XBr.tt) | (with_reducible apply XBr.ff)); conv => whnf) | (with_reducible apply XBr.not) | ((with_reducible apply XBr.bne) <;> (intro h; first | (exfalso; omega) | (conv => whnf))) | ((refine XCall.ret hrw ?_); conv => whnf) | fail
    refine Walk.loopK tab_ok [] [(1, _), (2, _), (3, _), (7, _), (8, _), (13, _), (15, _), (16, _), (82, _), (83, _)] ⟨rfl, rfl, rfl, rfl, rfl, rfl, rfl, rfl, rfl, rfl, trivial⟩ (fun i : Nat => i ≤ R.length) (fun i => [(18, natA (lkF (fun m => (R.getD m default).length) i).1), (19, natA (lkF (fun m => (R.getD m default).length) i).2), (84, natA i)]) (fun _ => [.cells (bedC (ownB b)), .cells (bedC (thB b))]) (fun i => R.length - i) 0 (Nat.zero_le _) rfl ⟨rfl, rfl, rfl, trivial⟩ ?_
    intro i hi
    conv => whnf
    by_cases hlt : i < R.length
    · obtain ⟨q1, q2⟩ := f6 i hlt
      have hil : ((ints (R.getD i default)).length : Int) = (R.getD i default).length := by rw [ints_len]
      have hrl := f10 i
      have hbe : (!([(B.getD i default).1, (B.getD i default).2] == [(R.getD i default).getD (Int.toNat 0) default, (R.getD i default).getD (((ints (R.getD i default)).length : Int) - 1).toNat default])) = false := by
        rw [q1, show (((ints (R.getD i default)).length : Int) - 1).toNat = (R.getD i default).length - 1 by omega]
        simp
      have hnx : lkF (fun m => (R.getD m default).length) (i + 1) = if (lkF (fun m => (R.getD m default).length) i).2 < (R.getD i default).length then (i, (R.getD i default).length) else lkF (fun m => (R.getD m default).length) i := by rw [lkF]
      by_cases hc : (lkF (fun m => (R.getD m default).length) i).2 < (R.getD i default).length
      · rw [if_pos hc] at hnx
        repeat' first | ((with_reducible apply XBr.ff); conv => whnf) | ((with_reducible apply XBr.dec) <;> (intro h; first | (exfalso; omega) | ((try simp only [List.length_map] at h); first | (exfalso; omega) | (conv => whnf)))) | ((first | (with_reducible refine XInt.i64 (by omega) (by omega) ?_) | ((with_reducible refine XIx.nat ?_ ?_ ?_); omega; (intro _; rfl)) | ((with_reducible refine XIx.map ?_ ?_ ?_ ?_); omega; omega; (intro _; rfl))); conv => whnf) | (with_reducible apply XAnd.mk) | ((first | (with_reducible apply Chk.go) | (with_reducible apply ChkA.go) | (with_reducible apply ChkF.go) | (with_reducible apply ChkB.go)); conv => whnf) | (exact XSame.mk rfl rfl) | (with_reducible exact trivial) | (apply Walk.drawN (id := 14) tab_ok mixed_ok [] [] (hsU _) [_, _, _, _, _, _, _, _, _, _, _, _, _, _, _] (by kernel_rfl) rfl) | ((with_reducible apply XNext.mk); conv => whnf) | ((refine XEqA.mk ⟨[_, _], [_, _], rfl, rfl, rfl, rfl, ?_⟩); exact XSame.mk (congrArg AV.bool hbe) rfl) | fail
        exact XAgain.go (i + 1) (by omega) (by omega) rfl ⟨rfl, rfl, rfl, rfl, rfl, rfl, rfl, rfl, rfl, rfl, by rw [hnx] <;> rfl, by rw [hnx]; exact congrArg (fun z => some (AV.int .i64 z)) hil, rfl, trivial⟩
      · rw [if_neg hc] at hnx
        repeat' first | ((with_reducible apply XBr.ff); conv => whnf) | ((with_reducible apply XBr.dec) <;> (intro h; first | (exfalso; omega) | ((try simp only [List.length_map] at h); first | (exfalso; omega) | (conv => whnf)))) | ((first | (with_reducible refine XInt.i64 (by omega) (by omega) ?_) | ((with_reducible refine XIx.nat ?_ ?_ ?_); omega; (intro _; rfl)) | ((with_reducible refine XIx.map ?_ ?_ ?_ ?_); omega; omega; (intro _; rfl))); conv => whnf) | (with_reducible apply XAnd.mk) | ((first | (with_reducible apply Chk.go) | (with_reducible apply ChkA.go) | (with_reducible apply ChkF.go) | (with_reducible apply ChkB.go)); conv => whnf) | (exact XSame.mk rfl rfl) | (with_reducible exact trivial) | (apply Walk.drawN (id := 14) tab_ok mixed_ok [] [] (hsU _) [_, _, _, _, _, _, _, _, _, _, _, _, _, _, _] (by kernel_rfl) rfl) | ((with_reducible apply XNext.mk); conv => whnf) | ((refine XEqA.mk ⟨[_, _], [_, _], rfl, rfl, rfl, rfl, ?_⟩); exact XSame.mk (congrArg AV.bool hbe) rfl) | fail
        exact XAgain.go (i + 1) (by omega) (by omega) rfl ⟨rfl, rfl, rfl, rfl, rfl, rfl, rfl, rfl, rfl, rfl, by rw [hnx] <;> rfl, by rw [hnx] <;> rfl, rfl, trivial⟩
    · obtain rfl : i = R.length := by omega
      rw [f4]
      repeat' first | ((with_reducible apply XBr.dec) <;> (intro h; first | (exfalso; omega) | ((try simp only [List.length_map] at h); first | (exfalso; omega) | (conv => whnf)))) | ((first | (refine XCall.ret hco ?_) | (refine XCall.ret hrc ?_)); conv => whnf) | fail
      refine Walk.norm tab_ok [] [(3, _), (7, _), (10, _), (12, _), (15, _), (16, _), (18, _), (19, _), (22, _), (23, _)] ⟨rfl, rfl, rfl, rfl, rfl, rfl, rfl, rfl, rfl, rfl, trivial⟩ ?_
      conv => whnf
      repeat' first | ((with_reducible apply XBr.tt); conv => whnf) | ((with_reducible apply XBr.beq) <;> (intro h; first | (exfalso; omega) | (conv => whnf))) | ((first | (refine XCall.ret heq ?_) | (refine XCall.ret hsa ?_) | (refine XCall.ret awake04_c ?_)); conv => whnf) | fail
      all_goals exact ⟨.low rfl⟩
end GA
end
