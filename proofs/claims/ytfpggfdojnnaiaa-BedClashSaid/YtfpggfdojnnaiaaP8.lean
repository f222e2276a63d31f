/- Part 8 of a proof: D59, D49, D53, D54, Abs39, D56, D60, D61, D62, D42, D63. -/
import Derived.Test.YtfpggfdojnnaiaaP7
section
namespace GA
open Go Go.RowKit Go.Proofs
set_option maxRecDepth 8000
set_option linter.unusedVariables false
set_option linter.unusedSimpArgs false

theorem nxF_iff {b : Bd} {m n k : Nat} : nxF b m n k = true ↔ k ∈ lvL b m n := by
  unfold nxF befF; exact decide_eq_true_iff
theorem W_iff {b : Bd} (ok : BedOk b) {n : Nat} : n < (b.room + 1).toNat ↔ (n : Int) ≤ b.room := by have := ok.r1; omega
theorem psR_ag {b : Bd} {p : Nat → Bool} {m n : Nat} (h : psR b p m n = true) : agB b p m n = true := by
  cases m <;> (rw [psR, Bool.and_eq_true] at h; exact h.2)
theorem psF_R {b : Bd} {p : Nat → Bool} {m n : Nat} (hm : m ≤ b.months.length) (h : psF b p m n = true) : psR b p m n = true := by
  by_cases h1 : m = b.months.length
  · subst h1; rwa [psF_end] at h
  · rw [psF_step (by omega), Bool.and_eq_true] at h; exact h.1
theorem psR_begin {b : Bd} (ok : BedOk b) {p : Nat → Bool} : ∀ (m n : Nat), m ≤ b.months.length → (n : Int) ≤ b.room → psR b p m n = true →
    ∃ c : Nat → Nat, c m = n ∧ inZ (c 0 : Nat) (b.first - b.unsure) (b.first + b.unsure) = true ∧ (∀ i, i ≤ m → (c i : Int) ≤ b.room ∧ agB b p i (c i) = true) ∧ ∀ i, i < m → c (i + 1) ∈ lvL b i (c i)
  | 0, n, _, hr, h => by
    have ha := psR_ag h
    rw [psR, Bool.and_eq_true] at h
    refine ⟨fun _ => n, rfl, h.1, fun i hi => ⟨hr, ?_⟩, fun i hi => by omega⟩
    obtain rfl : i = 0 := by omega
    exact ha
  | m + 1, n, hm, hr, h => by
    have ha := psR_ag h
    rw [psR, Bool.and_eq_true, List.any_eq_true] at h
    obtain ⟨⟨j, hj, h1⟩, -⟩ := h
    rw [Bool.and_eq_true] at h1
    obtain ⟨c, e, q1, q2, q3⟩ := psR_begin ok m j (by omega) ((W_iff ok).1 (List.mem_range.1 hj)) h1.1
    refine ⟨fun i => if i = m + 1 then n else c i, if_pos rfl, ?_, fun i hi => ?_, fun i hi => ?_⟩
    · dsimp only; rw [if_neg (by omega)]; exact q1
    · dsimp only
      by_cases hi2 : i = m + 1
      · rw [if_pos hi2]; subst hi2; exact ⟨hr, ha⟩
      · rw [if_neg hi2]; exact q2 i (by omega)
    · dsimp only
      rw [if_neg (show ¬ i = m + 1 by omega)]
      by_cases hi2 : i = m
      · rw [if_pos (by omega)]; subst hi2; rw [e]; exact nxF_iff.1 h1.2
      · rw [if_neg (by omega)]; exact q3 i (by omega)
theorem psG_course {b : Bd} (ok : BedOk b) {p : Nat → Bool} : ∀ (k n : Nat), k ≤ b.months.length → (n : Int) ≤ b.room → psF b p (b.months.length - k) n = true →
    ∃ c : Nat → Nat, c (b.months.length - k) = n ∧ ∀ m, b.months.length - k ≤ m → m ≤ b.months.length → (c m : Int) ≤ b.room ∧ agB b p m (c m) = true ∧ (m < b.months.length → c (m + 1) ∈ lvL b m (c m))
  | 0, n, _, hn, h => ⟨fun _ => n, rfl, fun m h1 h2 => by
      obtain rfl : m = b.months.length := by omega
      exact ⟨hn, psR_ag (psF_R (by omega) h), fun h => by omega⟩⟩
  | k + 1, n, hk, hn, h => by
    have ha := psR_ag (psF_R (by omega) h)
    rw [psF_step (by omega), Bool.and_eq_true, List.any_eq_true] at h
    obtain ⟨-, j, hj, h1⟩ := h
    rw [Bool.and_eq_true, show b.months.length - (k + 1) + 1 = b.months.length - k by omega] at h1
    obtain ⟨c, e, hc⟩ := psG_course ok k j (by omega) ((W_iff ok).1 (List.mem_range.1 hj)) h1.2
    refine ⟨fun m => if m = b.months.length - (k + 1) then n else c m, if_pos rfl, fun m q1 q2 => ?_⟩
    dsimp only
    rw [if_neg (show ¬ m + 1 = b.months.length - (k + 1) by omega)]
    by_cases hm : m = b.months.length - (k + 1)
    · rw [if_pos hm]
      subst hm
      refine ⟨hn, ha, fun _ => ?_⟩
      rw [show b.months.length - (k + 1) + 1 = b.months.length - k by omega, e]; exact nxF_iff.1 h1.1
    · rw [if_neg hm]; exact hc m (by omega) q2
theorem crs_join {b : Bd} {p : Nat → Bool} {m n : Nat} {c d : Nat → Nat} (hm : m ≤ b.months.length) (e : c m = n) (e2 : d m = n) (q1 : inZ (c 0 : Nat) (b.first - b.unsure) (b.first + b.unsure) = true) (q2 : ∀ i, i ≤ m → (c i : Int) ≤ b.room ∧ agB b p i (c i) = true) (q3 : ∀ i, i < m → c (i + 1) ∈ lvL b i (c i))
    (q4 : ∀ i, m ≤ i → i ≤ b.months.length → (d i : Int) ≤ b.room ∧ agB b p i (d i) = true ∧ (i < b.months.length → d (i + 1) ∈ lvL b i (d i))) : ∃ c, Crs b p c ∧ c m = n := by
  refine ⟨fun i => if i ≤ m then c i else d i, ⟨?_, fun i hi => ?_, fun i hi => ?_, fun i hi => ?_⟩, by dsimp only; rw [if_pos (Nat.le_refl _), e]⟩
  · rw [if_pos (Nat.zero_le _)]; exact q1
  · split
    · exact (q2 i (by omega)).1
    · exact (q4 i (by omega) hi).1
  · split
    · exact (q2 i (by omega)).2
    · exact (q4 i (by omega) hi).2.1
  · by_cases h1 : i + 1 ≤ m
    · rw [if_pos h1, if_pos (by omega)]; exact q3 i (by omega)
    · rw [if_neg h1]
      by_cases h2 : i ≤ m
      · obtain rfl : i = m := by omega
        rw [if_pos h2, e, ← e2]
        exact (q4 i (by omega) (by omega)).2.2 hi
      · rw [if_neg h2]; exact (q4 i (by omega) (by omega)).2.2 hi
theorem Crs.psR {b : Bd} (ok : BedOk b) {p : Nat → Bool} {c : Nat → Nat} (h : Crs b p c) : ∀ m, m ≤ b.months.length → GA.psR b p m (c m) = true
  | 0, _ => by rw [GA.psR, h.st, h.ag 0 (Nat.zero_le _)]; rfl
  | m + 1, hm => by
    rw [GA.psR, h.ag _ hm, Bool.and_true, List.any_eq_true]
    exact ⟨c m, List.mem_range.2 ((W_iff ok).2 (h.rm m (by omega))), by rw [h.psR ok m (by omega), nxF_iff.2 (h.nx m (by omega))]; rfl⟩
theorem Crs.psF {b : Bd} (ok : BedOk b) {p : Nat → Bool} {c : Nat → Nat} (h : Crs b p c) : ∀ k, k ≤ b.months.length → GA.psF b p (b.months.length - k) (c (b.months.length - k)) = true
  | 0, _ => by rw [Nat.sub_zero, psF_end]; exact h.psR ok _ (Nat.le_refl _)
  | k + 1, hk => by
    rw [psF_step (by omega), h.psR ok _ (by omega), Bool.true_and, List.any_eq_true, show b.months.length - (k + 1) + 1 = b.months.length - k by omega]
    refine ⟨c (b.months.length - k), List.mem_range.2 ((W_iff ok).2 (h.rm _ (by omega))), ?_⟩
    rw [h.psF ok k (by omega), Bool.and_true, nxF_iff]
    have := h.nx (b.months.length - (k + 1)) (by omega)
    rwa [show b.months.length - (k + 1) + 1 = b.months.length - k by omega] at this
theorem ps_iff {b : Bd} (ok : BedOk b) {p : Nat → Bool} {m n : Nat} (hm : m ≤ b.months.length) (hn : (n : Int) ≤ b.room) : psF b p m n = true ↔ ∃ c, Crs b p c ∧ c m = n := by
  constructor
  · intro h
    obtain ⟨c, e, q1, q2, q3⟩ := psR_begin ok m n hm hn (psF_R hm h)
    obtain ⟨d, e2, q4⟩ := psG_course ok (b.months.length - m) n (by omega) hn (by rw [show b.months.length - (b.months.length - m) = m by omega]; exact h)
    rw [show b.months.length - (b.months.length - m) = m by omega] at e2 q4
    exact crs_join hm e e2 q1 q2 q3 q4
  · rintro ⟨c, hc, rfl⟩
    have := hc.psF ok (b.months.length - m) (by omega)
    rwa [show b.months.length - (b.months.length - m) = m by omega] at this
theorem ps_cn {b : Bd} (ok : BedOk b) {p : Nat → Bool} {m n : Nat} (hm : m ≤ b.months.length) (hn : (n : Int) ≤ b.room) : psF b p m n = cnB b p m n := by
  rw [Bool.eq_iff_iff, ps_iff ok hm hn, cn_iff ok hm]
theorem ps_list {b : Bd} (ok : BedOk b) {p : Nat → Bool} {m : Nat} (hm : m ≤ b.months.length) : lstF (psF b p m) (b.room + 1).toNat = lstF (cnB b p m) 121 := by
  have h1 : lstF (psF b p m) (b.room + 1).toNat = lstF (cnB b p m) (b.room + 1).toNat := by
    unfold lstF
    refine congrArg _ (List.filter_congr fun n hn => ?_)
    exact ps_cn ok hm ((W_iff ok).1 (List.mem_range.1 hn))
  rw [h1]
  have h2 : ∀ d, lstF (cnB b p m) ((b.room + 1).toNat + d) = lstF (cnB b p m) (b.room + 1).toNat := by
    intro d
    induction d with
    | zero => rfl
    | succ d ih =>
      rw [show (b.room + 1).toNat + (d + 1) = ((b.room + 1).toNat + d) + 1 by omega, lstF_succ, if_neg ?_, ih]
      intro hc
      have := cnB_room hc
      omega
  have := h2 (121 - (b.room + 1).toNat)
  rw [show (b.room + 1).toNat + (121 - (b.room + 1).toNat) = 121 by have := ok.r2; omega] at this
  exact this.symm
theorem none_list {b : Bd} {p : Nat → Bool} : noneB b p = decide (lstF (cnB b p 0) 121 = []) := by
  rw [Bool.eq_iff_iff, noneB_iff, decide_eq_true_iff]
  constructor
  · intro h
    refine List.eq_nil_iff_forall_not_mem.2 fun x hx => ?_
    obtain ⟨n, hn, hc, -⟩ := lstF_mem.1 hx
    rw [h n hn] at hc; cases hc
  · intro h n hn
    cases hc : cnB b p 0 n with
    | false => rfl
    | true =>
      have : (n : Int) ∈ lstF (cnB b p 0) 121 := lstF_mem.2 ⟨n, hn, hc, rfl⟩
      rw [h] at this; cases this
end GA
end

section
namespace GA
open Go Go.RowKit Go.Proofs
set_option maxRecDepth 8000
set_option linter.unusedVariables false
set_option linter.unusedSimpArgs false

def moreF (q : List Int → Bool) (S : Nat) : Nat → List Int → Nat → Option (List Int)
  | 0, l, _ => if q l = true then some l else none
  | k + 1, l, f => (List.range' f (S - f)).findSome? fun i : Nat => moreF q S k (l ++ [(i : Int)]) (i + 1)
structure Pck (S f : Nat) (t : List Int) : Prop where
  lt : t.Pairwise (· < ·)
  b : ∀ x ∈ t, (f : Int) ≤ x ∧ x < S
theorem Pck.cons {S f i : Nat} {t : List Int} (h : Pck S (i + 1) t) (hf : f ≤ i) (hi : i < S) : Pck S f ((i : Int) :: t) :=
  ⟨List.pairwise_cons.2 ⟨fun x hx => by have := h.b x hx; omega, h.lt⟩, fun x hx => by
    rcases List.mem_cons.1 hx with rfl | hx
    · omega
    · have := h.b x hx; omega⟩
theorem moreF_some {q : List Int → Bool} {S : Nat} : ∀ (k : Nat) (l : List Int) (f : Nat) (L : List Int), moreF q S k l f = some L → ∃ t, L = l ++ t ∧ t.length = k ∧ Pck S f t ∧ q L = true
  | 0, l, f, L, h => by
    rw [moreF] at h
    split at h
    · rename_i hq
      cases h
      exact ⟨[], (List.append_nil _).symm, rfl, ⟨List.Pairwise.nil, fun x hx => by cases hx⟩, hq⟩
    · cases h
  | k + 1, l, f, L, h => by
    rw [moreF, List.findSome?_eq_some_iff] at h
    obtain ⟨a, i, c, h1, h2, -⟩ := h
    have hi : i ∈ List.range' f (S - f) := by rw [h1]; simp
    rw [List.mem_range'_1] at hi
    obtain ⟨t, e, hl, hp, hq⟩ := moreF_some k _ _ _ h2
    exact ⟨(i : Int) :: t, by rw [e, List.append_assoc]; rfl, by rw [List.length_cons, hl], hp.cons hi.1 (by omega), hq⟩
theorem moreF_none {q : List Int → Bool} {S : Nat} : ∀ (k : Nat) (l : List Int) (f : Nat), moreF q S k l f = none → ∀ t : List Int, t.length = k → Pck S f t → q (l ++ t) = false
  | 0, l, f, h, t, hl, hp => by
    rw [moreF] at h
    obtain rfl := List.length_eq_zero_iff.1 hl
    rw [List.append_nil]
    split at h
    · cases h
    · rename_i hq; exact Bool.not_eq_true _ ▸ hq
  | k + 1, l, f, h, t, hl, hp => by
    rw [moreF, List.findSome?_eq_none_iff] at h
    cases t with
    | nil => simp at hl
    | cons x t =>
      have hx := hp.b x List.mem_cons_self
      have hlt := List.pairwise_cons.1 hp.lt
      have h2 := h x.toNat (by rw [List.mem_range'_1]; omega)
      rw [Int.toNat_of_nonneg (by omega)] at h2
      have := moreF_none k _ _ h2 t (by simpa using hl) ⟨hlt.2, fun y hy => by have := hlt.1 y hy; have := hp.b y (List.mem_cons_of_mem _ hy); omega⟩
      rwa [List.append_assoc] at this
theorem moreF_end {q : List Int → Bool} {S k : Nat} {l : List Int} {f : Nat} (h : S ≤ f) : moreF q S (k + 1) l f = none := by
  rw [moreF, show S - f = 0 by omega]; rfl
theorem moreF_hit {q : List Int → Bool} {S k : Nat} {l : List Int} {f : Nat} (h : f < S) {L : List Int} (h2 : moreF q S k (l ++ [(f : Int)]) (f + 1) = some L) : moreF q S (k + 1) l f = some L := by
  rw [moreF, show S - f = (S - (f + 1)) + 1 by omega, List.range'_succ, List.findSome?_cons, h2]
theorem moreF_miss {q : List Int → Bool} {S k : Nat} {l : List Int} {f : Nat} (h : f < S) (h2 : moreF q S k (l ++ [(f : Int)]) (f + 1) = none) : moreF q S (k + 1) l f = moreF q S (k + 1) l (f + 1) := by
  rw [moreF, show S - f = (S - (f + 1)) + 1 by omega, List.range'_succ, List.findSome?_cons, h2]
  rw [moreF]
theorem findSome_range {α : Type} {g : Nat → Option α} {N j : Nat} (hj : j < N) (h : ∀ k, k < j → g k = none) {v : α} (hv : g j = some v) : (List.range N).findSome? g = some v := by
  obtain ⟨d, rfl⟩ : ∃ d, N = j + (d + 1) := ⟨N - j - 1, by omega⟩
  rw [List.findSome?_eq_some_iff]
  refine ⟨List.range j, j, List.range' (j + 1) d, ?_, hv, fun x hx => h x (List.mem_range.1 hx)⟩
  rw [List.range_eq_range', List.range_eq_range', ← List.range'_succ]
  have := List.range'_append_1 (s := 0) (m := j) (n := d + 1)
  rw [Nat.zero_add] at this
  exact this.symm
def clsF (q : List Int → Bool) (S : Nat) : Option (List Int) := (List.range (S + 1)).findSome? fun k => moreF q S k [] 0
theorem clsF_some {q : List Int → Bool} {S : Nat} {L : List Int} (h : clsF q S = some L) : Pck S 0 L ∧ q L = true ∧ L.length ≤ S ∧ ∀ t, t.length < L.length → Pck S 0 t → q t = false := by
  unfold clsF at h
  rw [List.findSome?_eq_some_iff] at h
  obtain ⟨a, k, c, h1, h2, h3⟩ := h
  obtain ⟨t, e, hl, hp, hq⟩ := moreF_some k _ _ _ h2
  rw [List.nil_append] at e
  subst e
  have hk : k ∈ List.range (S + 1) := by rw [h1]; simp
  have hk2 := List.mem_range.1 hk
  refine ⟨hp, hq, by omega, fun u hu hpu => ?_⟩
  have hmem : u.length ∈ a := by
    have h5 : (List.range (S + 1))[u.length]? = some u.length := List.getElem?_range (by omega)
    have hal : a.length = k := by
      have h6 : (List.range (S + 1))[a.length]? = some k := by rw [h1, List.getElem?_append_right (Nat.le_refl _), Nat.sub_self]; rfl
      have h7 : a.length < S + 1 := by
        have := congrArg List.length h1
        simp at this; omega
      rw [List.getElem?_range h7] at h6
      exact Option.some.inj h6
    rw [h1, List.getElem?_append_left (by omega)] at h5
    exact List.mem_of_getElem? h5
  have := h3 _ hmem
  exact moreF_none u.length [] 0 this u rfl hpu
theorem every_pck (S : Nat) : Pck S 0 ((List.range S).map fun i : Nat => (i : Int)) := by
  refine ⟨?_, fun x hx => ?_⟩
  · rw [List.pairwise_map]
    exact (List.pairwise_lt_range).imp fun h => by omega
  · obtain ⟨i, hi, rfl⟩ := List.mem_map.1 hx
    have := List.mem_range.1 hi
    omega
theorem clsF_ex {q : List Int → Bool} {S : Nat} (h : q ((List.range S).map fun i : Nat => (i : Int)) = true) : clsF q S ≠ none := fun hn => by
  unfold clsF at hn
  rw [List.findSome?_eq_none_iff] at hn
  have := moreF_none S [] 0 (hn S (List.mem_range.2 (by omega))) _ (by simp) (every_pck S)
  rw [List.nil_append, h] at this
  cases this
end GA
end

section
namespace GA
open Go Go.RowKit Go.Proofs
set_option pp.deepTerms true
set_option maxRecDepth 8000
set_option linter.unusedVariables false
set_option linter.unusedSimpArgs false

def conP (L : List Int) : Nat → Bool := fun i => L.contains (i : Int)
def clB (b : Bd) (L : List Int) : Bool := noneB b (conP L)
theorem conF_c (b : Bd) (nl : Bool) (L : List Int) (hL : L.length ≤ 100000) : Flt b 138 [.pim [.sl nl (ints L)]] (conP L) := by
  refine ⟨by simp only [lowL, AV.low, lowI]; rfl, fun i hi => ?_⟩
  have hc := contains_c nl L i hL
  show Comp Try.prog _ _ (.bool (L.contains (i : Int)))
  generalize L.contains (i : Int) = r at hc
  refine Comp.body (T := tab) (res := [.tmp 3]) tab_ok [] Try.func138 rfl (by kernel_rfl) Try.ntmps138 rfl (by simp only [List.length_cons, List.length_nil]; decide) (by simp only [lowL, AV.low, lowI]; rfl) ?_; conv => whnf
  repeat' first | ((refine XCall.ret hc ?_); conv => whnf) | fail
  exact ⟨.low rfl⟩
theorem clash1_c (b : Bd) (ok : BdOk b) (nl : Bool) (L : List Int) (hL : L.length ≤ 100000) : Comp Try.prog 136 [.sl nl (ints L), .pim [dskA b]] (.bool (clB b L)) := by
  have hc := can_c b ok 138 [.pim [.sl nl (ints L)]] (conP L) (conF_c b nl L hL)
  have hn : (vecF 121 (cnB b (conP L) 0) == List.replicate 121 false) = clB b L := rfl
  generalize clB b L = r at hn
  refine Comp.body (T := tab) (res := [.tmp 3]) tab_ok [] Try.func136 rfl (by kernel_rfl) Try.ntmps136 rfl (by simp only [List.length_cons, List.length_nil]; decide) (by simp only [lowL, AV.low, lowI, dskL]; rfl) ?_; conv => whnf
  repeat' first | ((first | (refine XCall.ret hc ?_) | (refine XIx.mat 0 rfl (by omega) rfl ?_) | (refine xtk_vec rfl ?_) | ((refine xeqb0 ?_); rw [hn])); conv => whnf) | fail
  exact ⟨.low rfl⟩
def clH (b : Bd) (d c o m : Nat) (out : AV) : List Blk := [.cells [dskA b], .cells [.fn 136 [.ptr d 0]], .cells [out], .cells [.fn 139 [.ptr o 0, .ptr c 0, .pim (bedC b), .ptr m 0]]]
theorem clH_low (b : Bd) (l : List Int) : ∀ x ∈ clH b 0 1 2 3 (slA l), x.low 4 = true := by
  intro x hx
  simp only [clH, List.mem_cons, List.not_mem_nil, or_false] at hx
  rcases hx with rfl | rfl | rfl | rfl
  · simp only [Blk.low, lowL, dskL]; rfl
  · rfl
  · simp only [Blk.low, lowL, slA_low]; rfl
  · simp only [Blk.low, lowL, AV.low, show lowL 4 (bedC b) = true from lowBd b]; rfl
def outL (o : Option (List Int)) : List Int := o.getD []
def MoreOk (b : Bd) (k : Nat) (l : List Int) (f : Nat) : Prop :=
  ACall Try.prog 139 [slA l, natA f, natA k, .ptr 2 0, .ptr 1 0, .pim (bedC b), .ptr 3 0] (clH b 0 1 2 3 (slA [])) fun r H' => r = .bool (moreF (clB b) b.surveys.length k l f).isSome ∧ H' = clH b 0 1 2 3 (slA (outL (moreF (clB b) b.surveys.length k l f)))
def rho4 (d c o m : Nat) : Nat → Nat
  | 0 => d
  | 1 => c
  | 2 => o
  | _ => m
theorem XCall.more {b : Bd} {k : Nat} {l : List Int} {f : Nat} (x : MoreOk b k l f) {v : AV} (hv : v = slA l) {H : List Blk} {K : AV → List Blk → Prop} (d c o m : Nat) (hd : d < c ∧ c < o ∧ o < m) (h0 : lget H d = some (.cells [dskA b])) (h1 : lget H c = some (.cells [.fn 136 [.ptr d 0]])) (h2 : lget H o = some (.cells [slA []]))
    (h3 : lget H m = some (.cells [.fn 139 [.ptr o 0, .ptr c 0, .pim (bedC b), .ptr m 0]])) (hk : K (.bool (moreF (clB b) b.surveys.length k l f).isSome) (H.set o (.cells [slA (outL (moreF (clB b) b.surveys.length k l f))]))) :
    XCall Try.prog 139 [v, natA f, natA k, .ptr o 0, .ptr c 0, .pim (bedC b), .ptr m 0] H K := by
  subst hv
  have hb : renL (rho4 d c o m) (bedC b) = bedC b := renL_low0 (lowBd b)
  have hD : renL (rho4 d c o m) (dskC b) = dskC b := renL_low0 (lowDk1 b)
  have hL : ∀ xs : List Int, renL (rho4 d c o m) (ints xs) = ints xs := fun xs => renL_low0 (lowI xs)
  rw [lget_eq] at h0 h1 h2 h3
  constructor
  have e := ACall.frame (ρ := rho4 d c o m) (H := H) (k := K) x ?_ ?_ (clH_low b []) ?_ ?_
  · simp only [List.map_cons, List.map_nil, slA, natA, AV.ren, hb, hL] at e
    exact e
  · intro i j hi hj he
    simp only [clH, List.length_cons, List.length_nil] at hi hj
    rcases i with _ | _ | _ | _ | i <;> rcases j with _ | _ | _ | _ | j <;> simp only [rho4] at he <;> omega
  · intro i x1 hi
    rcases i with _ | _ | _ | _ | i
    · simp only [clH, List.getElem?_cons_zero, Option.some.injEq] at hi; subst hi
      simp only [Blk.ren, renL, dskA, AV.ren, hD]; exact h0
    · simp only [clH, List.getElem?_cons_succ, List.getElem?_cons_zero, Option.some.injEq] at hi; subst hi
      exact h1
    · simp only [clH, List.getElem?_cons_succ, List.getElem?_cons_zero, Option.some.injEq] at hi; subst hi
      exact h2
    · simp only [clH, List.getElem?_cons_succ, List.getElem?_cons_zero, Option.some.injEq] at hi; subst hi
      simp only [Blk.ren, renL, AV.ren, hb]; exact h3
    · simp [clH] at hi
  · simp only [clH, List.length_cons, List.length_nil, lowL, AV.low, natA, slA, lowI, show lowL 4 (bedC b) = true from lowBd b]; rfl
  · rintro r1 H1' ⟨rfl, rfl⟩
    have ho := (List.getElem?_eq_some_iff.1 h2).1
    refine ⟨rfl, H.set o (.cells [slA (outL (moreF (clB b) b.surveys.length k l f))]), by simp, fun i x1 hi => ?_, fun q hq => ?_, hk⟩
    · rcases i with _ | _ | _ | _ | i
      · simp only [clH, List.getElem?_cons_zero, Option.some.injEq] at hi; subst hi
        simp only [Blk.ren, renL, dskA, AV.ren, hD]
        rw [List.getElem?_set_ne (by simp only [rho4]; omega)]; exact h0
      · simp only [clH, List.getElem?_cons_succ, List.getElem?_cons_zero, Option.some.injEq] at hi; subst hi
        rw [List.getElem?_set_ne (by simp only [rho4]; omega)]; exact h1
      · simp only [clH, List.getElem?_cons_succ, List.getElem?_cons_zero, Option.some.injEq] at hi; subst hi
        simp only [Blk.ren, renL, slA, AV.ren, hL]
        exact List.getElem?_set_self ho
      · simp only [clH, List.getElem?_cons_succ, List.getElem?_cons_zero, Option.some.injEq] at hi; subst hi
        simp only [Blk.ren, renL, AV.ren, hb]
        rw [List.getElem?_set_ne (by simp only [rho4]; omega)]; exact h3
      · simp [clH] at hi
    · exact List.getElem?_set_ne (by have := hq 2 (by simp [clH]); simpa [rho4] using this)
theorem more_c (b : Bd) (ok : BdOk b) (q0 : clB b [] = false) : ∀ (k : Nat) (l : List Int) (f : Nat), l.length + k ≤ 100 → f ≤ 100 → MoreOk b k l f
  | 0, l, f, hl, hf => by
    have hc := clash1_c b ok l.isEmpty l (by omega)
    have e2 : ((ints l).length : Int) = l.length := by rw [ints_len]
    have hfr : FrozL Try.prog (clH b 0 1 2 3 (slA [])) [slA l, .ptr 0 0] [.sl l.isEmpty (ints l), .pim [dskA b]] := .cons (.low (lowI _)) (.cons (Froz.ptr rfl (one1 rfl) (.cons (.low (dskL b)) .nil)) .nil)
    have hq : moreF (clB b) b.surveys.length 0 l f = if clB b l = true then some l else none := rfl
    unfold MoreOk
    rw [hq]
    cases hb : clB b l with
    | true =>
      have hne : l ≠ [] := fun e => by rw [e, q0] at hb; cases hb
      have hne2 := List.length_pos_iff.2 hne
      rw [hb] at hc
      refine ACall.bodyK (T := tab) (res := [.tmp 10]) tab_ok [] Try.func139 rfl (by kernel_rfl) Try.ntmps139 rfl (by simp only [List.length_cons, List.length_nil]; decide) ?_; conv => whnf
      repeat' first | ((with_reducible apply XBr.tt); conv => whnf) | ((with_reducible apply XBr.beq) <;> (intro h; first | (exfalso; omega) | (conv => whnf))) | ((refine XCall.lend hc (.cons (.low (lowI _)) (.cons (Froz.ptr rfl (one1 rfl) (.cons (.low (dskL b)) .nil)) .nil)) rfl ?_); conv => whnf) | fail
      exact XCut.mk' (clH b 0 1 2 3 (slA l)) [] rfl rfl (clH_low b l) rfl ⟨congrArg AV.bool (decide_eq_true (by omega)), rfl⟩
    | false =>
      rw [hb] at hc
      refine ACall.bodyK (T := tab) (res := [.tmp 10]) tab_ok [] Try.func139 rfl (by kernel_rfl) Try.ntmps139 rfl (by simp only [List.length_cons, List.length_nil]; decide) ?_; conv => whnf
      repeat' first | ((with_reducible apply XBr.ff); conv => whnf) | ((with_reducible apply XBr.beq) <;> (intro h; first | (exfalso; omega) | (conv => whnf))) | ((refine XCall.lend hc (.cons (.low (lowI _)) (.cons (Froz.ptr rfl (one1 rfl) (.cons (.low (dskL b)) .nil)) .nil)) rfl ?_); conv => whnf) | fail
      exact XCut.mk' (clH b 0 1 2 3 (slA [])) [] rfl rfl (clH_low b []) rfl ⟨rfl, rfl⟩
  | k + 1, l, f, hl, hf => by
    have e3 : ((b.surveys.map suA).length : Int) = b.surveys.length := by rw [List.length_map]
    have s1 := ok.s1
    unfold MoreOk
    refine ACall.bodyK (T := tab) (res := [.tmp 10]) tab_ok [] Try.func139 rfl (by kernel_rfl) Try.ntmps139 rfl (by simp only [List.length_cons, List.length_nil]; decide) ?_; conv => whnf
    repeat' first | ((with_reducible apply XBr.beq) <;> (intro h; first | (exfalso; omega) | (conv => whnf))) | fail
    refine Walk.loopGK tab_ok [] [(0, _), (2, _), (5, _), (6, _)] ⟨rfl, rfl, rfl, rfl, trivial⟩ (fun i : Nat => f ≤ i ∧ i ≤ max f b.surveys.length ∧ moreF (clB b) b.surveys.length (k + 1) l f = moreF (clB b) b.surveys.length (k + 1) l i) (fun i => [(11, natA i)]) (fun _ => clH b 0 1 2 3 (slA [])) (fun i => b.surveys.length - i) f ⟨Nat.le_refl _, by omega, rfl⟩ rfl ⟨rfl, trivial⟩ ?_ (fun _ _ => (show (4 : Nat) ≤ 4 from Nat.le_refl 4)) ?_
    · intro q _
      refine ⟨clH_low b [], fun z hz => ?_⟩
      simp only [List.cons_append, List.nil_append, List.mem_cons, List.not_mem_nil, or_false] at hz
      rcases hz with rfl | rfl | rfl | rfl | rfl <;> first | rfl | exact slA_low _ | exact lowBd b
    rintro i ⟨hi1, hi2, hi3⟩
    rw [hi3]
    conv => whnf
    by_cases hlt : i < b.surveys.length
    · have hmo := more_c b ok q0 k (l ++ [(i : Int)]) (i + 1) (by rw [List.length_append, List.length_cons, List.length_nil]; omega) (by omega)
      have hk1 : ((k + 1 : Nat) : Int) - 1 = (k : Nat) := by omega
      cases hl0 : l with
      | nil =>
        subst hl0
        have hnl : True := trivial
        have hll : True := trivial
        have hsl : True := trivial
        cases hR : moreF (clB b) b.surveys.length k (([] : List Int) ++ [(i : Int)]) (i + 1) with
        | none =>
          repeat' first | ((with_reducible apply XBr.dec) <;> (intro h; first | (exfalso; omega) | ((try simp only [List.length_map] at h); first | (exfalso; omega) | (conv => whnf)))) | fail
          apply Walk.drawX tab_ok mixed_ok [] [5, 10] (hsC [clH b 0 1 2 3 (slA []), clH b 0 1 2 3 (slA []) ++ [.grow 3 false [natA i]], clH b 0 1 2 3 (slA []) ++ [.dead]]) [_, _, .sl true [], _, _, .gr 4 1, _, _, _, _, .bool false] (by kernel_rfl) rfl
          · skip
            repeat' first | ((with_reducible refine XInt.i64 (by omega) (by omega) ?_); conv => whnf) | ((with_reducible refine XHold.mk ?_ ?_); (first | omega | rfl | decide | exact ⟨rfl, by decide, rfl⟩ | exact wideI _ | exact widePr _ | exact wideSk _ | (unfold Room; constructor <;> ((try simp) <;> omega)) | exact ⟨rfl, by simp only [List.length_map], by unfold Room; constructor <;> ((try simp) <;> omega)⟩ | exact ⟨by omega, by omega, by unfold Room; constructor <;> ((try simp) <;> omega)⟩); conv => whnf) | (with_reducible apply XAnd.mk) | ((first | (with_reducible apply Chk.go) | (with_reducible apply ChkA.go)); conv => whnf) | (exact XSame.mk rfl rfl) | (with_reducible exact trivial) | (refine XCall.inl (T := tab) (res := [.tmp 2]) tab_ok [] Try.func140 rfl (by kernel_rfl) Try.ntmps140 rfl (by simp only [List.length_append, List.length_cons, List.length_nil]; decide) ?_; conv => whnf) | ((with_reducible refine XBr.yes rfl ?_); conv => whnf) | (rw [hk1]; (refine XCall.freeze 4 _ rfl (by first | rfl | (rw [List.length_append, hll]; rfl)) (.gr (.same (.same (.same (.same (.same (.same .nil))))))) ?_); (refine XCall.more hmo (by first | rfl | exact hsl.symm) 0 1 2 3 (by omega) rfl rfl rfl rfl ?_); rw [hR]; exact XSame.mk rfl rfl) | fail
          · skip
            repeat' first | ((with_reducible refine XInt.i64 (by omega) (by omega) ?_); conv => whnf) | (with_reducible apply XAnd.mk) | ((first | (with_reducible apply Chk.go) | (with_reducible apply ChkF.go) | (with_reducible apply ChkB.go)); conv => whnf) | (exact XSame.mk rfl rfl) | (with_reducible exact trivial) | fail
          conv => whnf
          repeat' first | ((first | (with_reducible apply XBr.ff) | (with_reducible refine XInt.i64 (by omega) (by omega) ?_)); conv => whnf) | fail
          exact XAgainG.go (i + 1) [.dead] ⟨by omega, by omega, moreF_miss hlt hR⟩ (by omega) rfl ⟨rfl, rfl, rfl, rfl, rfl, trivial⟩
        | some L =>
          repeat' first | ((with_reducible apply XBr.dec) <;> (intro h; first | (exfalso; omega) | ((try simp only [List.length_map] at h); first | (exfalso; omega) | (conv => whnf)))) | fail
          apply Walk.drawX tab_ok mixed_ok [] [5, 10] (hsC [clH b 0 1 2 3 (slA []), clH b 0 1 2 3 (slA []) ++ [.grow 3 false [natA i]], clH b 0 1 2 3 (slA L) ++ [.dead]]) [_, _, .sl true [], _, _, .gr 4 1, _, _, _, _, .bool true] (by kernel_rfl) rfl
          · skip
            repeat' first | ((with_reducible refine XInt.i64 (by omega) (by omega) ?_); conv => whnf) | ((with_reducible refine XHold.mk ?_ ?_); (first | omega | rfl | decide | exact ⟨rfl, by decide, rfl⟩ | exact wideI _ | exact widePr _ | exact wideSk _ | (unfold Room; constructor <;> ((try simp) <;> omega)) | exact ⟨rfl, by simp only [List.length_map], by unfold Room; constructor <;> ((try simp) <;> omega)⟩ | exact ⟨by omega, by omega, by unfold Room; constructor <;> ((try simp) <;> omega)⟩); conv => whnf) | (with_reducible apply XAnd.mk) | ((first | (with_reducible apply Chk.go) | (with_reducible apply ChkA.go)); conv => whnf) | (exact XSame.mk rfl rfl) | (with_reducible exact trivial) | (refine XCall.inl (T := tab) (res := [.tmp 2]) tab_ok [] Try.func140 rfl (by kernel_rfl) Try.ntmps140 rfl (by simp only [List.length_append, List.length_cons, List.length_nil]; decide) ?_; conv => whnf) | ((with_reducible refine XBr.yes rfl ?_); conv => whnf) | (rw [hk1]; (refine XCall.freeze 4 _ rfl (by first | rfl | (rw [List.length_append, hll]; rfl)) (.gr (.same (.same (.same (.same (.same (.same .nil))))))) ?_); (refine XCall.more hmo (by first | rfl | exact hsl.symm) 0 1 2 3 (by omega) rfl rfl rfl rfl ?_); rw [hR]; exact XSame.mk rfl rfl) | fail
          · skip
            repeat' first | ((with_reducible refine XInt.i64 (by omega) (by omega) ?_); conv => whnf) | (with_reducible apply XAnd.mk) | ((first | (with_reducible apply Chk.go) | (with_reducible apply ChkF.go) | (with_reducible apply ChkB.go)); conv => whnf) | (exact XSame.mk rfl rfl) | (with_reducible exact trivial) | fail
          conv => whnf
          repeat' first | ((with_reducible apply XBr.tt); conv => whnf) | fail
          rw [moreF_hit hlt hR]
          exact XCut.mk' (clH b 0 1 2 3 (slA L)) [.dead] rfl rfl (clH_low b L) rfl ⟨rfl, rfl⟩
      | cons x0 xs0 =>
        have hnl : l.isEmpty = false := by rw [hl0]; rfl
        have hll : (ints l).length = l.length := ints_len _
        have hsl : slA (l ++ [(i : Int)]) = .sl false (ints l ++ [natA i]) := by unfold slA; rw [isEmpty_app, ints, List.map_append, Bool.and_false]; rfl
        rw [← hl0]
        clear hl0
        cases hR : moreF (clB b) b.surveys.length k (l ++ [(i : Int)]) (i + 1) with
        | none =>
          repeat' first | ((with_reducible apply XBr.dec) <;> (intro h; first | (exfalso; omega) | ((try simp only [List.length_map] at h); first | (exfalso; omega) | (conv => whnf)))) | fail
          apply Walk.drawX tab_ok mixed_ok [] [2, 5, 10] (hsC [clH b 0 1 2 3 (slA []), clH b 0 1 2 3 (slA []) ++ [.grow 3 false (ints l)], clH b 0 1 2 3 (slA []) ++ [.grow 3 false (ints l ++ [natA i])], clH b 0 1 2 3 (slA []) ++ [.dead]]) [_, _, .gr 4 l.length, _, _, .gr 4 (l.length + 1), _, _, _, _, .bool false] (by kernel_rfl) rfl
          · skip
            repeat' first | ((with_reducible refine XInt.i64 (by omega) (by omega) ?_); conv => whnf) | ((with_reducible refine XHold.mk ?_ ?_); (first | omega | rfl | decide | exact ⟨rfl, by decide, rfl⟩ | exact wideI _ | exact widePr _ | exact wideSk _ | (unfold Room; constructor <;> ((try simp) <;> omega)) | exact ⟨rfl, by simp only [List.length_map], by unfold Room; constructor <;> ((try simp) <;> omega)⟩ | exact ⟨by omega, by omega, by unfold Room; constructor <;> ((try simp) <;> omega)⟩); conv => whnf) | (with_reducible apply XAnd.mk) | ((first | (with_reducible apply Chk.go) | (with_reducible apply ChkA.go)); conv => whnf) | (exact XSame.mk rfl rfl) | (exact XSame.mk (by first | rfl | (simp only [List.map_append, List.length_append, List.length_map]; done) | (simp only [List.map_append, List.length_append, List.length_map]; rfl)) (by first | rfl | (simp only [List.map_append]; done) | (simp only [List.map_append]; rfl))) | (with_reducible exact trivial) | (refine XCall.inl (T := tab) (res := [.tmp 2]) tab_ok [] Try.func140 rfl (by kernel_rfl) Try.ntmps140 rfl (by simp only [List.length_append, List.length_cons, List.length_nil]; decide) ?_; conv => whnf) | ((with_reducible refine XBr.no hnl ?_); conv => whnf) | (rw [hk1]; (refine XCall.freeze 4 _ rfl (by first | rfl | (rw [List.length_append, hll]; rfl)) (.gr (.same (.same (.same (.same (.same (.same .nil))))))) ?_); (refine XCall.more hmo (by first | rfl | exact hsl.symm) 0 1 2 3 (by omega) rfl rfl rfl rfl ?_); rw [hR]; exact XSame.mk rfl rfl) | fail
          · skip
            repeat' first | ((with_reducible refine XInt.i64 (by omega) (by omega) ?_); conv => whnf) | ((with_reducible refine XHold.mk ?_ ?_); (first | omega | rfl | decide | exact ⟨rfl, by decide, rfl⟩ | exact wideI _ | exact widePr _ | exact wideSk _ | (unfold Room; constructor <;> ((try simp) <;> omega)) | exact ⟨rfl, by simp only [List.length_map], by unfold Room; constructor <;> ((try simp) <;> omega)⟩ | exact ⟨by omega, by omega, by unfold Room; constructor <;> ((try simp) <;> omega)⟩); conv => whnf) | (with_reducible apply XAnd.mk) | ((first | (with_reducible apply Chk.go) | (with_reducible apply ChkF.go) | (with_reducible apply ChkB.go)); conv => whnf) | (exact XSame.mk rfl rfl) | (with_reducible exact trivial) | fail
          conv => whnf
          repeat' first | ((first | (with_reducible apply XBr.ff) | (with_reducible refine XInt.i64 (by omega) (by omega) ?_)); conv => whnf) | fail
          exact XAgainG.go (i + 1) [.dead] ⟨by omega, by omega, moreF_miss hlt hR⟩ (by omega) rfl ⟨rfl, rfl, rfl, rfl, rfl, trivial⟩
        | some L =>
          repeat' first | ((with_reducible apply XBr.dec) <;> (intro h; first | (exfalso; omega) | ((try simp only [List.length_map] at h); first | (exfalso; omega) | (conv => whnf)))) | fail
          apply Walk.drawX tab_ok mixed_ok [] [2, 5, 10] (hsC [clH b 0 1 2 3 (slA []), clH b 0 1 2 3 (slA []) ++ [.grow 3 false (ints l)], clH b 0 1 2 3 (slA []) ++ [.grow 3 false (ints l ++ [natA i])], clH b 0 1 2 3 (slA L) ++ [.dead]]) [_, _, .gr 4 l.length, _, _, .gr 4 (l.length + 1), _, _, _, _, .bool true] (by kernel_rfl) rfl
          · skip
            repeat' first | ((with_reducible refine XInt.i64 (by omega) (by omega) ?_); conv => whnf) | ((with_reducible refine XHold.mk ?_ ?_); (first | omega | rfl | decide | exact ⟨rfl, by decide, rfl⟩ | exact wideI _ | exact widePr _ | exact wideSk _ | (unfold Room; constructor <;> ((try simp) <;> omega)) | exact ⟨rfl, by simp only [List.length_map], by unfold Room; constructor <;> ((try simp) <;> omega)⟩ | exact ⟨by omega, by omega, by unfold Room; constructor <;> ((try simp) <;> omega)⟩); conv => whnf) | (with_reducible apply XAnd.mk) | ((first | (with_reducible apply Chk.go) | (with_reducible apply ChkA.go)); conv => whnf) | (exact XSame.mk rfl rfl) | (exact XSame.mk (by first | rfl | (simp only [List.map_append, List.length_append, List.length_map]; done) | (simp only [List.map_append, List.length_append, List.length_map]; rfl)) (by first | rfl | (simp only [List.map_append]; done) | (simp only [List.map_append]; rfl))) | (with_reducible exact trivial) | (refine XCall.inl (T := tab) (res := [.tmp 2]) tab_ok [] Try.func140 rfl (by kernel_rfl) Try.ntmps140 rfl (by simp only [List.length_append, List.length_cons, List.length_nil]; decide) ?_; conv => whnf) | ((with_reducible refine XBr.no hnl ?_); conv => whnf) | (rw [hk1]; (refine XCall.freeze 4 _ rfl (by first | rfl | (rw [List.length_append, hll]; rfl)) (.gr (.same (.same (.same (.same (.same (.same .nil))))))) ?_); (refine XCall.more hmo (by first | rfl | exact hsl.symm) 0 1 2 3 (by omega) rfl rfl rfl rfl ?_); rw [hR]; exact XSame.mk rfl rfl) | fail
          · skip
            repeat' first | ((with_reducible refine XInt.i64 (by omega) (by omega) ?_); conv => whnf) | ((with_reducible refine XHold.mk ?_ ?_); (first | omega | rfl | decide | exact ⟨rfl, by decide, rfl⟩ | exact wideI _ | exact widePr _ | exact wideSk _ | (unfold Room; constructor <;> ((try simp) <;> omega)) | exact ⟨rfl, by simp only [List.length_map], by unfold Room; constructor <;> ((try simp) <;> omega)⟩ | exact ⟨by omega, by omega, by unfold Room; constructor <;> ((try simp) <;> omega)⟩); conv => whnf) | (with_reducible apply XAnd.mk) | ((first | (with_reducible apply Chk.go) | (with_reducible apply ChkF.go) | (with_reducible apply ChkB.go)); conv => whnf) | (exact XSame.mk rfl rfl) | (with_reducible exact trivial) | fail
          conv => whnf
          repeat' first | ((with_reducible apply XBr.tt); conv => whnf) | fail
          rw [moreF_hit hlt hR]
          exact XCut.mk' (clH b 0 1 2 3 (slA L)) [.dead] rfl rfl (clH_low b L) rfl ⟨rfl, rfl⟩
    · rw [moreF_end (by omega)]
      repeat' first | ((with_reducible apply XBr.dec) <;> (intro h; first | (exfalso; omega) | ((try simp only [List.length_map] at h); first | (exfalso; omega) | (conv => whnf)))) | fail
      exact XCut.mk' (clH b 0 1 2 3 (slA [])) [] rfl rfl (clH_low b []) rfl ⟨rfl, rfl⟩
end GA
end

section
namespace GA
open Go Go.RowKit Go.Proofs
set_option pp.deepTerms true
set_option maxRecDepth 8000
set_option linter.unusedVariables false
set_option linter.unusedSimpArgs false

def evrL (b : Bd) : List Int := vecF b.surveys.length fun q => (q : Int)
theorem evrL_len (b : Bd) : (evrL b).length = b.surveys.length := vecF_len _ _
def clashV (b : Bd) : AV := if bedE b ≠ 0 then .tup [.sl true [], .int .i64 (bedE b)] else if (clB b [] || !clB b (evrL b)) = true then .tup [.sl true [], .int .i64 6] else .tup [slA (outL (clsF (clB b) b.surveys.length)), .int .i64 0]
set_option maxHeartbeats 1000000 in
theorem clash_c (b : Bd) (hm : b.months.length ≤ 100000) (hs : b.surveys.length ≤ 100000) : Comp Try.prog 61 [bedA b] (clashV b) := by
  have e2 : ((b.surveys.map suA).length : Int) = b.surveys.length := by rw [List.length_map]
  unfold clashV
  by_cases hE : bedE b = 0
  · have ok := (bedE_iff b).1 hE
    have ho := bOpened_c b ok
    have s1 := ok.s1
    have hc0 := clash1_c b ok true [] (by simp)
    have hevl : (ints (evrL b)).length = b.surveys.length := by rw [ints_len, evrL_len]
    have hc1 := clash1_c b ok false (evrL b) (by rw [evrL_len]; omega)
    have hmore := fun (q0 : clB b [] = false) (k : Nat) (hk : k ≤ 8) => more_c b ok q0 k [] 0 (by simp; omega) (by omega)
    have hev0 : List.replicate (((b.surveys.map suA).length : Int)).toNat (AV.int .i64 0) = ivs b.surveys.length fun q => if q < 0 then (q : Int) else 0 := by
      rw [show (((b.surveys.map suA).length : Int)).toNat = b.surveys.length by omega, ivs_rep]
      exact ivs_congr fun q _ => by rw [if_neg (by omega)]
    rw [if_neg (fun h => h hE)]
    cases h0 : clB b [] with
    | true =>
      rw [h0] at hc0
      refine Comp.body (T := tab) (res := [.tmp 2, .tmp 3]) tab_ok [] Try.func61 rfl (by kernel_rfl) Try.ntmps61 rfl (by simp only [List.length_cons, List.length_nil]; decide) (by simp only [lowL, bedL]; rfl) ?_; conv => whnf
      skip
      refine Walk.scope tab_ok [] ?_
      conv => whnf
      repeat' first | ((with_reducible apply XBr.bne) <;> (intro h; first | (exfalso; omega) | (conv => whnf))) | ((with_reducible refine XHold.mk ?_ ?_); (first | omega | rfl | decide | exact ⟨rfl, by decide, rfl⟩ | exact wideI _ | exact widePr _ | exact wideSk _ | (unfold Room; constructor <;> ((try simp) <;> omega)) | exact ⟨rfl, by simp only [List.length_map], by unfold Room; constructor <;> ((try simp) <;> omega)⟩ | exact ⟨by omega, by omega, by unfold Room; constructor <;> ((try simp) <;> omega)⟩); conv => whnf) | ((first | (refine XCall.ret ho ?_) | (refine XHold.mk (by rw [List.length_replicate]) ?_)); conv => whnf) | fail
      refine Walk.loopK tab_ok [] [(1, _), (2, _), (3, _), (6, _), (7, .gr 2 b.surveys.length), (26, .int .i64 b.surveys.length)] ⟨rfl, rfl, rfl, rfl, by rw [show b.surveys.length = (((b.surveys.map suA).length : Int)).toNat by omega]; rfl, by rw [show (b.surveys.length : Int) = ((((b.surveys.map suA).length : Int)).toNat : Nat) by omega]; rfl, trivial⟩ (fun i : Nat => i ≤ b.surveys.length) (fun i => [(27, natA i)]) (fun i => [.cells [dskA b], .cells [.fn 136 [.ptr 0 0]], .grow 3 false (ivs b.surveys.length fun q => if q < i then (q : Int) else 0)]) (fun i => b.surveys.length - i) 0 (Nat.zero_le _) (by rw [← hev0]) ⟨rfl, trivial⟩ ?_
      intro i hi
      have hvl := ivs_len b.surveys.length fun q => if q < i then (q : Int) else 0
      conv => whnf
      by_cases hlt : i < b.surveys.length
      · skip
        repeat' first | ((with_reducible apply XBr.dec) <;> (intro h; first | (exfalso; omega) | ((try simp only [List.length_map] at h); first | (exfalso; omega) | (conv => whnf)))) | ((first | (with_reducible refine XInt.i64 (by omega) (by omega) ?_) | (refine XHold.mk ⟨hvl, rfl, by omega, by omega⟩ ?_) | (refine XPut.ivs i (by omega) rfl (by omega) ?_)); conv => whnf) | fail
        refine XAgain.go (i + 1) (by omega) (by omega) ?_ ⟨rfl, rfl, rfl, rfl, rfl, rfl, rfl, trivial⟩
        show [_, _, Blk.grow _ false (ivs _ _)] = [_, _, Blk.grow _ false (ivs _ _)]
        refine congrArg (fun z => [_, _, Blk.grow _ false z]) (ivs_congr fun q _ => ?_)
        unfold updV
        by_cases hq : q = i
        · rw [if_pos hq, if_pos (by omega), hq]
        · rw [if_neg hq]
          show (if q < i + 1 then (q : Int) else 0) = if q < i then (q : Int) else 0
          by_cases hq2 : q < i
          · rw [if_pos hq2, if_pos (by omega)]
          · rw [if_neg hq2, if_neg (by omega)]
      obtain rfl : i = b.surveys.length := by omega
      rw [show (ivs b.surveys.length fun q => if q < b.surveys.length then (q : Int) else 0) = ints (evrL b) from ivs_congr fun q hq => if_pos hq]
      repeat' first | ((with_reducible apply XBr.tt); conv => whnf) | ((with_reducible apply XBr.dec) <;> (intro h; first | (exfalso; omega) | ((try simp only [List.length_map] at h); first | (exfalso; omega) | (conv => whnf)))) | ((refine XCall.lend hc0 (.cons (.low rfl) (.cons (Froz.ptr rfl (one1 rfl) (.cons (.low (dskL b)) .nil)) .nil)) rfl ?_); conv => whnf) | fail
      exact ⟨.low rfl⟩
    | false =>
      have hmore := hmore h0
      rw [h0] at hc0
      cases h1 : clB b (evrL b) with
      | false =>
        rw [h1] at hc1
        refine Comp.body (T := tab) (res := [.tmp 2, .tmp 3]) tab_ok [] Try.func61 rfl (by kernel_rfl) Try.ntmps61 rfl (by simp only [List.length_cons, List.length_nil]; decide) (by simp only [lowL, bedL]; rfl) ?_; conv => whnf
        skip
        refine Walk.scope tab_ok [] ?_
        conv => whnf
        repeat' first | ((with_reducible apply XBr.bne) <;> (intro h; first | (exfalso; omega) | (conv => whnf))) | ((with_reducible refine XHold.mk ?_ ?_); (first | omega | rfl | decide | exact ⟨rfl, by decide, rfl⟩ | exact wideI _ | exact widePr _ | exact wideSk _ | (unfold Room; constructor <;> ((try simp) <;> omega)) | exact ⟨rfl, by simp only [List.length_map], by unfold Room; constructor <;> ((try simp) <;> omega)⟩ | exact ⟨by omega, by omega, by unfold Room; constructor <;> ((try simp) <;> omega)⟩); conv => whnf) | ((first | (refine XCall.ret ho ?_) | (refine XHold.mk (by rw [List.length_replicate]) ?_)); conv => whnf) | fail
        refine Walk.loopK tab_ok [] [(1, _), (2, _), (3, _), (6, _), (7, .gr 2 b.surveys.length), (26, .int .i64 b.surveys.length)] ⟨rfl, rfl, rfl, rfl, by rw [show b.surveys.length = (((b.surveys.map suA).length : Int)).toNat by omega]; rfl, by rw [show (b.surveys.length : Int) = ((((b.surveys.map suA).length : Int)).toNat : Nat) by omega]; rfl, trivial⟩ (fun i : Nat => i ≤ b.surveys.length) (fun i => [(27, natA i)]) (fun i => [.cells [dskA b], .cells [.fn 136 [.ptr 0 0]], .grow 3 false (ivs b.surveys.length fun q => if q < i then (q : Int) else 0)]) (fun i => b.surveys.length - i) 0 (Nat.zero_le _) (by rw [← hev0]) ⟨rfl, trivial⟩ ?_
        intro i hi
        have hvl := ivs_len b.surveys.length fun q => if q < i then (q : Int) else 0
        conv => whnf
        by_cases hlt : i < b.surveys.length
        · skip
          repeat' first | ((with_reducible apply XBr.dec) <;> (intro h; first | (exfalso; omega) | ((try simp only [List.length_map] at h); first | (exfalso; omega) | (conv => whnf)))) | ((first | (with_reducible refine XInt.i64 (by omega) (by omega) ?_) | (refine XHold.mk ⟨hvl, rfl, by omega, by omega⟩ ?_) | (refine XPut.ivs i (by omega) rfl (by omega) ?_)); conv => whnf) | fail
          refine XAgain.go (i + 1) (by omega) (by omega) ?_ ⟨rfl, rfl, rfl, rfl, rfl, rfl, rfl, trivial⟩
          show [_, _, Blk.grow _ false (ivs _ _)] = [_, _, Blk.grow _ false (ivs _ _)]
          refine congrArg (fun z => [_, _, Blk.grow _ false z]) (ivs_congr fun q _ => ?_)
          unfold updV
          by_cases hq : q = i
          · rw [if_pos hq, if_pos (by omega), hq]
          · rw [if_neg hq]
            show (if q < i + 1 then (q : Int) else 0) = if q < i then (q : Int) else 0
            by_cases hq2 : q < i
            · rw [if_pos hq2, if_pos (by omega)]
            · rw [if_neg hq2, if_neg (by omega)]
        obtain rfl : i = b.surveys.length := by omega
        rw [show (ivs b.surveys.length fun q => if q < b.surveys.length then (q : Int) else 0) = ints (evrL b) from ivs_congr fun q hq => if_pos hq]
        repeat' first | ((with_reducible apply XBr.ff); conv => whnf) | (with_reducible apply XBr.not) | ((with_reducible apply XBr.dec) <;> (intro h; first | (exfalso; omega) | ((try simp only [List.length_map] at h); first | (exfalso; omega) | (conv => whnf)))) | ((first | (refine XCall.lend hc0 (.cons (.low rfl) (.cons (Froz.ptr rfl (one1 rfl) (.cons (.low (dskL b)) .nil)) .nil)) rfl ?_) | (refine XCall.lend hc1 (.cons (Froz.grow rfl hevl (lowI _)) (.cons (Froz.ptr rfl (one1 rfl) (.cons (.low (dskL b)) .nil)) .nil)) rfl ?_)); conv => whnf) | fail
        exact ⟨.low rfl⟩
      | true =>
        rw [h1] at hc1
        have hcx : clsF (clB b) b.surveys.length ≠ none := clsF_ex (by rw [← h1]; unfold evrL; rw [vecF_eq])
        refine Comp.body (T := tab) (res := [.tmp 2, .tmp 3]) tab_ok [] Try.func61 rfl (by kernel_rfl) Try.ntmps61 rfl (by simp only [List.length_cons, List.length_nil]; decide) (by simp only [lowL, bedL]; rfl) ?_; conv => whnf
        skip
        refine Walk.scope tab_ok [] ?_
        conv => whnf
        repeat' first | ((with_reducible apply XBr.bne) <;> (intro h; first | (exfalso; omega) | (conv => whnf))) | ((with_reducible refine XHold.mk ?_ ?_); (first | omega | rfl | decide | exact ⟨rfl, by decide, rfl⟩ | exact wideI _ | exact widePr _ | exact wideSk _ | (unfold Room; constructor <;> ((try simp) <;> omega)) | exact ⟨rfl, by simp only [List.length_map], by unfold Room; constructor <;> ((try simp) <;> omega)⟩ | exact ⟨by omega, by omega, by unfold Room; constructor <;> ((try simp) <;> omega)⟩); conv => whnf) | ((first | (refine XCall.ret ho ?_) | (refine XHold.mk (by rw [List.length_replicate]) ?_)); conv => whnf) | fail
        refine Walk.loopK tab_ok [] [(1, _), (2, _), (3, _), (6, _), (7, .gr 2 b.surveys.length), (26, .int .i64 b.surveys.length)] ⟨rfl, rfl, rfl, rfl, by rw [show b.surveys.length = (((b.surveys.map suA).length : Int)).toNat by omega]; rfl, by rw [show (b.surveys.length : Int) = ((((b.surveys.map suA).length : Int)).toNat : Nat) by omega]; rfl, trivial⟩ (fun i : Nat => i ≤ b.surveys.length) (fun i => [(27, natA i)]) (fun i => [.cells [dskA b], .cells [.fn 136 [.ptr 0 0]], .grow 3 false (ivs b.surveys.length fun q => if q < i then (q : Int) else 0)]) (fun i => b.surveys.length - i) 0 (Nat.zero_le _) (by rw [← hev0]) ⟨rfl, trivial⟩ ?_
        intro i hi
        have hvl := ivs_len b.surveys.length fun q => if q < i then (q : Int) else 0
        conv => whnf
        by_cases hlt : i < b.surveys.length
        · skip
          repeat' first | ((with_reducible apply XBr.dec) <;> (intro h; first | (exfalso; omega) | ((try simp only [List.length_map] at h); first | (exfalso; omega) | (conv => whnf)))) | ((first | (with_reducible refine XInt.i64 (by omega) (by omega) ?_) | (refine XHold.mk ⟨hvl, rfl, by omega, by omega⟩ ?_) | (refine XPut.ivs i (by omega) rfl (by omega) ?_)); conv => whnf) | fail
          refine XAgain.go (i + 1) (by omega) (by omega) ?_ ⟨rfl, rfl, rfl, rfl, rfl, rfl, rfl, trivial⟩
          show [_, _, Blk.grow _ false (ivs _ _)] = [_, _, Blk.grow _ false (ivs _ _)]
          refine congrArg (fun z => [_, _, Blk.grow _ false z]) (ivs_congr fun q _ => ?_)
          unfold updV
          by_cases hq : q = i
          · rw [if_pos hq, if_pos (by omega), hq]
          · rw [if_neg hq]
            show (if q < i + 1 then (q : Int) else 0) = if q < i then (q : Int) else 0
            by_cases hq2 : q < i
            · rw [if_pos hq2, if_pos (by omega)]
            · rw [if_neg hq2, if_neg (by omega)]
        obtain rfl : i = b.surveys.length := by omega
        rw [show (ivs b.surveys.length fun q => if q < b.surveys.length then (q : Int) else 0) = ints (evrL b) from ivs_congr fun q hq => if_pos hq]
        repeat' first | ((first | (with_reducible apply XBr.tt) | (with_reducible apply XBr.ff)); conv => whnf) | (with_reducible apply XBr.not) | ((with_reducible apply XBr.dec) <;> (intro h; first | (exfalso; omega) | ((try simp only [List.length_map] at h); first | (exfalso; omega) | (conv => whnf)))) | ((first | (refine XCall.lend hc0 (.cons (.low rfl) (.cons (Froz.ptr rfl (one1 rfl) (.cons (.low (dskL b)) .nil)) .nil)) rfl ?_) | (refine XCall.lend hc1 (.cons (Froz.grow rfl hevl (lowI _)) (.cons (Froz.ptr rfl (one1 rfl) (.cons (.low (dskL b)) .nil)) .nil)) rfl ?_)); conv => whnf) | fail
        refine Walk.label ?_
        conv => whnf
        repeat' first | ((with_reducible refine XInt.i64 (by omega) (by omega) ?_); conv => whnf) | fail
        refine Walk.loopGK tab_ok [] [(1, _), (2, _), (3, _), (6, _), (9, _), (46, _)] ⟨rfl, rfl, rfl, rfl, rfl, rfl, trivial⟩ (fun j : Nat => j ≤ b.surveys.length + 1 ∧ ∀ k, k < j → moreF (clB b) b.surveys.length k [] 0 = none) (fun j => [(47, natA j)]) (fun _ => [.cells [dskA b], .cells [.fn 136 [.ptr 0 0]], .grow 3 false (ints (evrL b)), .cells [slA []]]) (fun j => b.surveys.length + 1 - j) 0 ⟨Nat.zero_le _, fun k hk => by omega⟩ rfl ⟨rfl, trivial⟩ ?_ (fun _ _ => (show (4 : Nat) ≤ 4 from Nat.le_refl 4)) ?_
        · intro q _
          refine ⟨fun z hz => ?_, fun z hz => ?_⟩
          · simp only [List.mem_cons, List.not_mem_nil, or_false] at hz
            rcases hz with rfl | rfl | rfl | rfl
            · simp only [Blk.low, lowL, dskL]; rfl
            · rfl
            · exact lowI _
            · rfl
          · simp only [List.cons_append, List.nil_append, List.mem_cons, List.not_mem_nil, or_false] at hz
            rcases hz with rfl | rfl | rfl | rfl | rfl | rfl | rfl <;> first | rfl | exact lowBd b
        rintro j ⟨hj, hno⟩
        conv => whnf
        by_cases hlt : j < b.surveys.length + 1
        · have hm := hmore j (by omega)
          cases hR : moreF (clB b) b.surveys.length j [] 0 with
          | none =>
            repeat' first | ((with_reducible apply XBr.ff); conv => whnf) | ((with_reducible apply XBr.dec) <;> (intro h; first | (exfalso; omega) | ((try simp only [List.length_map] at h); first | (exfalso; omega) | (conv => whnf)))) | ((first | (with_reducible refine XInt.i64 (by omega) (by omega) ?_) | ((refine XCall.more hm rfl 0 1 3 4 (by omega) rfl rfl rfl rfl ?_); rw [hR, show (none : Option (List Int)).isSome = false from rfl])); conv => whnf) | fail
            refine XAgainG.go (j + 1) [.cells [.fn 139 [.ptr 3 0, .ptr 1 0, .pim (bedC b), .ptr 4 0]]] ⟨by omega, fun k hk => ?_⟩ (by omega) rfl ⟨rfl, rfl, rfl, rfl, rfl, rfl, rfl, trivial⟩
            by_cases hk2 : k = j
            · rw [hk2]; exact hR
            · exact hno k (by omega)
          | some L =>
            have hcl : clsF (clB b) b.surveys.length = some L := findSome_range (by omega) hno hR
            repeat' first | ((with_reducible apply XBr.tt); conv => whnf) | ((with_reducible apply XBr.dec) <;> (intro h; first | (exfalso; omega) | ((try simp only [List.length_map] at h); first | (exfalso; omega) | (conv => whnf)))) | (((refine XCall.more hm rfl 0 1 3 4 (by omega) rfl rfl rfl rfl ?_); rw [hR, show (some L).isSome = true from rfl]); conv => whnf) | fail
            rw [hcl]
            exact ⟨.low (show lowL 0 [slA L, _] = true by simp only [lowL, slA_low, AV.low]; rfl)⟩
        · exfalso
          refine hcx ?_
          unfold clsF
          rw [List.findSome?_eq_none_iff]
          exact fun k hk => hno k (by have := List.mem_range.1 hk; omega)
  · have ho := bOpenedE_c b hm hs hE
    rw [if_pos hE]
    generalize bedE b = e at ho hE
    refine Comp.body (T := tab) (res := [.tmp 2, .tmp 3]) tab_ok [] Try.func61 rfl (by kernel_rfl) Try.ntmps61 rfl (by simp only [List.length_cons, List.length_nil]; decide) (by simp only [lowL, bedL]; rfl) ?_; conv => whnf
    skip
    refine Walk.scope tab_ok [] ?_
    conv => whnf
    repeat' first | ((with_reducible apply XBr.bne) <;> (intro h; first | (exfalso; omega) | (conv => whnf))) | ((refine XCall.ret ho ?_); conv => whnf) | fail
    exact ⟨.low rfl⟩
end GA
end

section
namespace GA
open Go Go.RowKit
set_option linter.unusedVariables false
section
variable {P : Program} {N : Nat} {ρ : Option Nat} {H : List Blk} {σ : St} {D : List Nat} {Q : Post} {E : Env} {h : Nat → Option Obj} {β : Nat → Value} {a : Act} {w : World}

structure XKeepE (P : Program) (σ : St) (H : List Blk) (k : St → List Blk → Prop) : Prop where
  o : ∃ (H1 l : List Blk) (L : List (Nat × AV)), H1 ++ l = H ∧ (∀ x ∈ H1, x.low H1.length = true) ∧ SubF P H1.length H L σ ∧ k (stX L) (H1 ++ l.map fun _ => .dead)
theorem XKeepE.go {k : St → List Blk → Prop} (H1 l : List Blk) (L : List (Nat × AV)) (hH : H1 ++ l = H) (hlow : ∀ x ∈ H1, x.low H1.length = true) (hs : SubF P H1.length H L σ) (x : k (stX L) (H1 ++ l.map fun _ => .dead)) : XKeepE P σ H k := ⟨H1, l, L, hH, hlow, hs, x⟩
theorem hallN_zero {h : Nat → Option Obj} {β : Nat → Value} {H : List Blk} {w : World} : hallN 0 h β H w = hall h β H w := by
  funext b
  by_cases hx : ∃ i, blkOf β H i = some b
  · obtain ⟨i, hi⟩ := hx
    rw [hallN_own (Nat.zero_le i) hi]
    unfold hall; rw [if_pos ⟨i, hi⟩]
  · unfold hallN hall
    rw [if_neg hx, if_neg (fun ⟨i, _, h⟩ => hx ⟨i, h⟩)]
theorem Froz.n0 {r r' : AV} (f : Froz P H r r') : FrozN P 0 H r r' := fun E h β w s v hr H1 => by
  rw [hallN_zero]
  exact (f E h β w s v hr).none
theorem XKeep.all {r r' : AV} (f : Froz P H r r') : XKeep P 0 H r r' := .inl f.n0
end
end GA
end

section
namespace GA
open Go Go.RowKit Go.Proofs
set_option maxRecDepth 8000
set_option linter.unusedVariables false
set_option linter.unusedSimpArgs false

theorem none_mono {b b' : Bd} (ok : BedOk b) (ok' : BedOk b') (e : SameB b b') {p p' : Nat → Bool} (h : ∀ m n, agB b p m n = true → agB b' p' m n = true) (hn : noneB b p = false) : noneB b' p' = false := by
  obtain ⟨c, hc⟩ := (none_iff ok).1 hn
  exact (none_iff ok').2 ⟨c, hc.other e fun m _ h1 => h m _ h1⟩
theorem SameB.symm {b c : Bd} (h : SameB b c) : SameB c b := ⟨h.r.symm, h.f.symm, h.u.symm, h.m.symm⟩
theorem none_eq {b b' : Bd} (ok : BedOk b) (ok' : BedOk b') (e : SameB b b') {p p' : Nat → Bool} (h : ∀ m n, agB b p m n = true ↔ agB b' p' m n = true) : noneB b p = noneB b' p' := by
  cases h1 : noneB b p with
  | false => exact (none_mono ok ok' e (fun m n => (h m n).1) h1).symm
  | true =>
    cases h2 : noneB b' p' with
    | true => rfl
    | false =>
      rw [none_mono ok' ok e.symm (fun m n => (h m n).2) h2] at h1; cases h1
theorem cls_all {b : Bd} (ok : BedOk b) : clB b (evrL b) = noneB b alwP := by
  refine none_eq ok ok ⟨rfl, rfl, rfl, rfl⟩ fun m n => ?_
  rw [agB_iff, agB_iff]
  constructor
  · intro h i hi h1 _
    refine h i hi h1 ?_
    unfold conP evrL
    rw [List.contains_iff_mem]
    exact vecF_mem.2 ⟨i, hi, rfl⟩
  · intro h i hi h1 _
    exact h i hi h1 rfl
structure ClsL (u : Bd) (L : List Int) : Prop where
  b : ∀ x ∈ L, 0 ≤ x ∧ x < u.surveys.length
  le : L.length ≤ u.surveys.length
  lt : L.Pairwise (· < ·)
  all : clB u L = !L.isEmpty
  less : ∀ x ∈ L, clB u (L.filter fun i => i != x) = false
end GA
end

section
namespace GA
open Go Go.RowKit Go.Proofs
set_option maxRecDepth 8000
set_option linter.unusedVariables false
set_option linter.unusedSimpArgs false

def befB (a c : List Int) : Bool := if a.length ≠ c.length then decide (a.length < c.length) else decide (cmpL a c < 0)
theorem cmpL_self : ∀ a : List Int, cmpL a a = 0
  | [] => rfl
  | x :: a => by rw [cmpL, if_neg (by omega), if_neg (by omega), cmpL_self a]
theorem cmpL_anti : ∀ a c : List Int, cmpL a c < 0 → ¬ cmpL c a < 0
  | [], [], h => by simp [cmpL] at h
  | [], y :: c, _ => by simp [cmpL]
  | x :: a, [], h => by simp [cmpL] at h
  | x :: a, y :: c, h => by
    rw [cmpL] at h ⊢
    by_cases h1 : x < y
    · rw [if_neg (by omega), if_pos h1]; omega
    · rw [if_neg h1] at h
      by_cases h2 : y < x
      · rw [if_pos h2] at h; omega
      · rw [if_neg h2] at h
        rw [if_neg h2, if_neg h1]; exact cmpL_anti a c h
theorem befB_self (a : List Int) : befB a a = false := by
  unfold befB; rw [if_neg (by simp), cmpL_self]; rfl
theorem befB_anti {a c : List Int} (h : befB a c = true) : befB c a = false := by
  unfold befB at h ⊢
  by_cases hl : a.length ≠ c.length
  · rw [if_pos hl, decide_eq_true_iff] at h
    rw [if_pos (Ne.symm hl)]; exact decide_eq_false (by omega)
  · rw [if_neg hl, decide_eq_true_iff] at h
    rw [if_neg (fun h => hl (Ne.symm h))]; exact decide_eq_false (cmpL_anti _ _ h)
theorem moreF_lex {q : List Int → Bool} {S : Nat} : ∀ (k : Nat) (l : List Int) (f : Nat) (L : List Int), moreF q S k l f = some L → ∀ t : List Int, t.length = k → Pck S f t → q (l ++ t) = true → ∃ u, L = l ++ u ∧ (u = t ∨ cmpL u t < 0)
  | 0, l, f, L, h, t, hl, hp, hq => by
    obtain ⟨u, e, hu, -, -⟩ := moreF_some 0 l f L h
    exact ⟨u, e, .inl (by rw [List.length_eq_zero_iff.1 hu, List.length_eq_zero_iff.1 hl])⟩
  | k + 1, l, f, L, h, t, hl, hp, hq => by
    have go : ∀ d f, S - f = d → moreF q S (k + 1) l f = some L → Pck S f t → ∃ u, L = l ++ u ∧ (u = t ∨ cmpL u t < 0) := by
      intro d
      induction d with
      | zero => intro f hd h _; rw [moreF_end (by omega)] at h; cases h
      | succ d ih =>
        intro f hd h hp
        cases t with
        | nil => simp at hl
        | cons x t =>
          have hx := hp.b x List.mem_cons_self
          have hlt := List.pairwise_cons.1 hp.lt
          have hp2 : Pck S (f + 1) t ∨ (f : Int) < x := by
            by_cases hxf : (f : Int) < x
            · exact .inr hxf
            · exact .inl ⟨hlt.2, fun y hy => by have := hlt.1 y hy; have := hp.b y (List.mem_cons_of_mem _ hy); omega⟩
          cases h1 : moreF q S k (l ++ [(f : Int)]) (f + 1) with
          | some L' =>
            have h2 := moreF_hit (by omega) h1
            rw [h2] at h; cases h
            by_cases hxf : (f : Int) < x
            · obtain ⟨u, e, -, -, -⟩ := moreF_some _ _ _ _ h1
              refine ⟨(f : Int) :: u, by rw [e, List.append_assoc]; rfl, .inr ?_⟩
              rw [cmpL, if_pos hxf]; decide
            · obtain rfl : x = f := by omega
              obtain ⟨u, e, hu⟩ := moreF_lex k _ _ _ h1 t (by simpa using hl) (hp2.resolve_right (by omega)) (by rw [List.append_assoc]; exact hq)
              refine ⟨(f : Int) :: u, by rw [e, List.append_assoc]; rfl, ?_⟩
              rcases hu with rfl | hu
              · exact .inl rfl
              · refine .inr ?_
                rw [cmpL, if_neg (by omega), if_neg (by omega)]; exact hu
          | none =>
            rw [moreF_miss (by omega) h1] at h
            by_cases hxf : (f : Int) < x
            · exact ih (f + 1) (by omega) h ⟨hp.lt, fun y hy => by
                rcases List.mem_cons.1 hy with rfl | hy2
                · exact ⟨by omega, hx.2⟩
                · have := hlt.1 y hy2; have := hp.b y hy; omega⟩
            · obtain rfl : x = f := by omega
              have := moreF_none _ _ _ h1 t (by simpa using hl) (hp2.resolve_right (by omega))
              rw [List.append_assoc] at this
              rw [show l ++ (f : Int) :: t = l ++ ([(f : Int)] ++ t) from rfl, this] at hq; cases hq
    exact go _ f rfl h hp
theorem clsF_least {q : List Int → Bool} {S : Nat} {L : List Int} (h : clsF q S = some L) {t : List Int} (hp : Pck S 0 t) (hq : q t = true) : t = L ∨ befB L t = true := by
  obtain ⟨h1, h2, h3, h4⟩ := clsF_some h
  unfold befB
  by_cases hl : L.length ≠ t.length
  · rw [if_pos hl]
    by_cases h5 : t.length < L.length
    · rw [h4 t h5 hp] at hq; cases hq
    · exact .inr (decide_eq_true (by omega))
  · rw [if_neg hl]
    unfold clsF at h
    rw [List.findSome?_eq_some_iff] at h
    obtain ⟨a, k, c, -, h5, -⟩ := h
    obtain ⟨u0, e0, hu0, -, -⟩ := moreF_some _ _ _ _ h5
    have hk : L.length = k := by rw [e0, List.nil_append]; exact hu0
    obtain ⟨u, e, hu⟩ := moreF_lex k [] 0 L h5 t (by omega) hp hq
    rw [List.nil_append] at e
    subst e
    rcases hu with rfl | hu
    · exact .inl rfl
    · exact .inr (decide_eq_true hu)
def lsS (S s : Nat) : List Int := lstF (fun i => s.testBit i) S
theorem lsS_mem {S s : Nat} {x : Int} : x ∈ lsS S s ↔ ∃ i : Nat, i < S ∧ s.testBit i = true ∧ x = i := lstF_mem
theorem lsS_pck (S s : Nat) : Pck S 0 (lsS S s) := by
  refine ⟨?_, fun x hx => ?_⟩
  · unfold lsS lstF
    rw [List.pairwise_map]
    exact (List.pairwise_lt_range.sublist List.filter_sublist).imp fun h => by omega
  · obtain ⟨i, hi, -, rfl⟩ := lsS_mem.1 hx
    omega
theorem srt_ext : ∀ {a c : List Int}, a.Pairwise (· < ·) → c.Pairwise (· < ·) → (∀ x, x ∈ a ↔ x ∈ c) → a = c
  | [], [], _, _, _ => rfl
  | [], y :: c, _, _, h => by have := (h y).2 List.mem_cons_self; cases this
  | x :: a, [], _, _, h => by have := (h x).1 List.mem_cons_self; cases this
  | x :: a, y :: c, ha, hc, h => by
    have a1 := List.pairwise_cons.1 ha
    have c1 := List.pairwise_cons.1 hc
    have e : x = y := by
      rcases List.mem_cons.1 ((h x).1 List.mem_cons_self) with h1 | h1
      · exact h1
      · rcases List.mem_cons.1 ((h y).2 List.mem_cons_self) with h2 | h2
        · exact h2.symm
        · have := a1.1 y h2; have := c1.1 x h1; omega
    subst e
    rw [srt_ext a1.2 c1.2 fun z => ?_]
    constructor
    · intro hz
      rcases List.mem_cons.1 ((h z).1 (List.mem_cons_of_mem _ hz)) with h1 | h1
      · have := a1.1 z hz; omega
      · exact h1
    · intro hz
      rcases List.mem_cons.1 ((h z).2 (List.mem_cons_of_mem _ hz)) with h1 | h1
      · have := c1.1 z hz; omega
      · exact h1
theorem lsS_ex {S : Nat} {L : List Int} (h : Pck S 0 L) : ∃ s, s < 2 ^ S ∧ lsS S s = L := by
  have hb : ∀ k, (setN ((List.range S).map fun i : Nat => L.contains (i : Int))).testBit k = (decide (k < S) && L.contains (k : Int)) := fun k => by
    rw [setN_bit, List.getD_eq_getElem?_getD, List.getElem?_map]
    by_cases hk : k < S
    · rw [List.getElem?_range hk, decide_eq_true hk]; rfl
    · rw [List.getElem?_eq_none (by rw [List.length_range]; omega), decide_eq_false hk]; rfl
  refine ⟨setN ((List.range S).map fun i : Nat => L.contains (i : Int)), Nat.lt_pow_two_of_testBit _ fun i hi => by rw [hb, decide_eq_false (by omega)]; rfl, srt_ext (lsS_pck _ _).lt h.lt fun x => ?_⟩
  rw [lsS_mem]
  constructor
  · rintro ⟨i, hi, h1, rfl⟩
    rw [hb, decide_eq_true hi, Bool.true_and, List.contains_iff_mem] at h1
    exact h1
  · intro hx
    have h1 := h.b x hx
    refine ⟨x.toNat, by omega, ?_, by omega⟩
    rw [hb, decide_eq_true (by omega), Bool.true_and, List.contains_iff_mem, Int.toNat_of_nonneg (by omega)]
    exact hx
def bstS (q : List Int → Bool) (S : Nat) : Nat → Option (List Int)
  | 0 => none
  | s + 1 => match bstS q S s with
    | none => if q (lsS S s) = true then some (lsS S s) else none
    | some l => if befB (lsS S s) l = true ∧ q (lsS S s) = true then some (lsS S s) else some l
theorem bstS_q {q : List Int → Bool} {S : Nat} : ∀ (s : Nat) (l : List Int), bstS q S s = some l → q l = true
  | s + 1, l, h => by
    rw [bstS] at h
    cases h1 : bstS q S s with
    | none =>
      rw [h1] at h; dsimp only at h
      split at h
      · rename_i h2; cases h; exact h2
      · cases h
    | some l' =>
      rw [h1] at h; dsimp only at h
      split at h
      · rename_i h2; cases h; exact h2.2
      · cases h; exact bstS_q s _ h1
theorem bstS_cls {q : List Int → Bool} {S : Nat} {L : List Int} (h : clsF q S = some L) : bstS q S (2 ^ S) = some L := by
  obtain ⟨h1, h2, -, -⟩ := clsF_some h
  obtain ⟨s0, hs0, e0⟩ := lsS_ex h1
  have hlow : ∀ s, s ≤ s0 → ∀ l, bstS q S s = some l → l = L ∨ befB L l = true := by
    intro s
    induction s with
    | zero => intro _ l hl; cases hl
    | succ s ih =>
      intro hs l hl
      rw [bstS] at hl
      cases h3 : bstS q S s with
      | none =>
        rw [h3] at hl; dsimp only at hl
        split at hl
        · rename_i h4; cases hl; exact clsF_least h (lsS_pck S s) h4
        · cases hl
      | some l' =>
        rw [h3] at hl; dsimp only at hl
        split at hl
        · rename_i h4; cases hl; exact clsF_least h (lsS_pck S s) h4.2
        · cases hl; exact ih (by omega) _ h3
  have hat : ∀ d, bstS q S (s0 + 1 + d) = some L := by
    intro d
    induction d with
    | zero =>
      rw [Nat.add_zero, bstS]
      cases h3 : bstS q S s0 with
      | none => dsimp only; rw [e0, if_pos h2]
      | some l' =>
        dsimp only
        rw [e0]
        rcases hlow s0 (Nat.le_refl _) l' h3 with rfl | h4
        · rw [befB_self, if_neg (by simp)]
        · rw [if_pos ⟨h4, h2⟩]
    | succ d ih =>
      rw [show s0 + 1 + (d + 1) = (s0 + 1 + d) + 1 by omega, bstS, ih]
      dsimp only
      rw [if_neg]
      rintro ⟨h3, h4⟩
      rcases clsF_least h (lsS_pck S (s0 + 1 + d)) h4 with h5 | h5
      · rw [h5, befB_self] at h3; cases h3
      · rw [befB_anti h5] at h3; cases h3
  have := hat (2 ^ S - (s0 + 1))
  rwa [show s0 + 1 + (2 ^ S - (s0 + 1)) = 2 ^ S by omega] at this
theorem cls_set {b : Bd} (ok : BedOk b) (s : Nat) : noneB b (fun i => s.testBit i) = clB b (lsS b.surveys.length s) := by
  refine none_eq ok ok ⟨rfl, rfl, rfl, rfl⟩ fun m n => ?_
  rw [agB_iff, agB_iff]
  have hc : ∀ i, i < b.surveys.length → conP (lsS b.surveys.length s) i = s.testBit i := fun i hi => by
    unfold conP
    rw [Bool.eq_iff_iff, List.contains_iff_mem, lsS_mem]
    exact ⟨fun ⟨j, _, h2, h3⟩ => by rw [show i = j by omega]; exact h2, fun h => ⟨i, hi, h, rfl⟩⟩
  exact ⟨fun h i hi h1 h2 => h i hi h1 (by rw [← hc i hi]; exact h2), fun h i hi h1 h2 => h i hi h1 (by rw [hc i hi]; exact h2)⟩
theorem cls_none {b : Bd} (ok : BedOk b) : noneB b (fun _ => false) = clB b [] := by
  refine none_eq ok ok ⟨rfl, rfl, rfl, rfl⟩ fun m n => ?_
  rw [agB_iff, agB_iff]
  exact ⟨fun h i hi h1 h2 => by unfold conP at h2; simp at h2, fun h i hi h1 h2 => by cases h2⟩
end GA
end

section
namespace GA
open Go Go.RowKit Go.Proofs
set_option pp.deepTerms true
set_option maxRecDepth 8000
set_option linter.unusedVariables false
set_option linter.unusedSimpArgs false

theorem before04_c (n1 n2 : Bool) (a c : List Int) (ha : a.length ≤ 100000) (hc : c.length ≤ 100000) : Comp Try.prog 142 [.sl n1 (ints a), .sl n2 (ints c)] (.bool (befB a c)) := by
  have e1 : ((ints a).length : Int) = a.length := by rw [ints_len]
  have e2 : ((ints c).length : Int) = c.length := by rw [ints_len]
  by_cases hl : a.length = c.length
  · have hb : befB a c = decide (cmpL a c < 0) := by unfold befB; rw [if_neg (fun h => h hl)]
    rw [hb]
    refine Comp.body (T := tab) (res := [.tmp 4]) tab_ok [] Try.func142 rfl (by kernel_rfl) Try.ntmps142 rfl (by simp only [List.length_cons, List.length_nil]; decide) (by simp only [lowL, AV.low, lowI]; rfl) ?_; conv => whnf
    repeat' first | ((with_reducible apply XBr.bne) <;> (intro h; first | (exfalso; omega) | (conv => whnf))) | fail
    refine Walk.loopK tab_ok [] [(0, _), (1, _)] ⟨rfl, rfl, trivial⟩ (fun i : Nat => i ≤ a.length ∧ cmpL a c = cmpL (a.drop i) (c.drop i)) (fun i => [(4, .bool false), (5, natA i)]) (fun _ => []) (fun i => a.length - i) 0 ⟨Nat.zero_le _, rfl⟩ rfl ⟨rfl, rfl, trivial⟩ ?_
    rintro i ⟨hi, hq⟩
    conv => whnf
    by_cases hlt : i < a.length
    · have hn := cmpL_next (xs := a) (ys := c) (k := i) hlt (by omega)
      rw [← hq] at hn
      repeat' first | ((with_reducible apply XBr.dec) <;> (intro h; first | (exfalso; omega) | ((try simp only [List.length_map] at h); first | (exfalso; omega) | (conv => whnf)))) | ((with_reducible apply XBr.bne) <;> (intro h; first | (exfalso; omega) | (conv => whnf))) | ((first | (with_reducible refine XInt.i64 (by omega) (by omega) ?_) | ((with_reducible refine XIx.nat ?_ ?_ ?_); omega; (intro _; rfl))); conv => whnf) | (with_reducible apply XAnd.mk) | ((first | (with_reducible apply Chk.go) | (with_reducible apply ChkA.go) | (with_reducible apply ChkF.go) | (with_reducible apply ChkB.go)); conv => whnf) | (exact XSame.mk rfl rfl) | (with_reducible exact trivial) | (apply Walk.drawN (id := 6) tab_ok mixed_ok [] [] (hsU _) [_, _, _, _, _, _, _, _, _] (by kernel_rfl) rfl) | (apply Walk.drawN (id := 7) tab_ok mixed_ok [] [] (hsU _) [_, _, _, _, _, _, _, _, _, _] (by kernel_rfl) rfl) | ((with_reducible apply XNext.mk); conv => whnf) | fail
      · refine XOut.bool ?_
        rw [decide_eq_decide, hn]
        split
        · omega
        · split <;> omega
      · rw [if_neg (by omega), if_neg (by omega)] at hn
        exact XAgain.go (i + 1) ⟨by omega, hn⟩ (by omega) rfl ⟨rfl, rfl, rfl, rfl, trivial⟩
    · obtain rfl : i = a.length := by omega
      have h0 := cmpL_both (xs := a) (ys := c) (k := a.length) (Nat.le_refl _) (by omega)
      rw [← hq] at h0
      rw [h0]
      repeat' first | ((with_reducible apply XBr.dec) <;> (intro h; first | (exfalso; omega) | ((try simp only [List.length_map] at h); first | (exfalso; omega) | (conv => whnf)))) | fail
      exact ⟨.low rfl⟩
  · have hb : befB a c = decide (a.length < c.length) := by unfold befB; rw [if_pos hl]
    rw [hb]
    refine Comp.body (T := tab) (res := [.tmp 4]) tab_ok [] Try.func142 rfl (by kernel_rfl) Try.ntmps142 rfl (by simp only [List.length_cons, List.length_nil]; decide) (by simp only [lowL, AV.low, lowI]; rfl) ?_; conv => whnf
    repeat' first | ((with_reducible apply XBr.bne) <;> (intro h; first | (exfalso; omega) | (conv => whnf))) | fail
    refine XOut.bool ?_
    rw [decide_eq_decide]; omega
theorem blsRen (f : Nat → Nat) (t : TypeId) (W : Nat) (F : Nat → Bool) : (Blk.grow t false (bls W F)).ren f = .grow t false (bls W F) := by simp only [Blk.ren, renL_low0 (bls_low W F)]
theorem counts_g (b : Bd) (hs : b.surveys.length ≤ 100000) : Gives Try.prog 134 [bedA b, .bool false] (.gr 0 b.surveys.length) [.grow 4 false (bls b.surveys.length fun _ => false)] := by
  have e1 : ((b.surveys.map suA).length : Int) = b.surveys.length := by rw [List.length_map]
  refine Gives.body (T := tab) (res := [.tmp 4]) tab_ok [] Try.func134 rfl (by kernel_rfl) Try.ntmps134 rfl (by simp only [List.length_cons, List.length_nil]; decide) (by simp only [lowL, bedL, AV.low]; rfl) rfl (fun x hx => by simp only [List.mem_cons, List.not_mem_nil, or_false] at hx; subst hx; exact bls_low _ _) ?_; conv => whnf
  have e3 : (((b.surveys.map suA).length : Int)).toNat = b.surveys.length := by rw [e1, Int.toNat_natCast]
  repeat' first | ((with_reducible refine XHold.mk ?_ ?_); (first | omega | rfl | decide | exact ⟨rfl, by decide, rfl⟩ | exact wideI _ | exact widePr _ | exact wideSk _ | (unfold Room; constructor <;> ((try simp) <;> omega)) | exact ⟨rfl, by simp only [List.length_map], by unfold Room; constructor <;> ((try simp) <;> omega)⟩ | exact ⟨by omega, by omega, by unfold Room; constructor <;> ((try simp) <;> omega)⟩); conv => whnf) | fail
  refine Walk.loopK tab_ok [] [(1, _), (4, _), (5, .gr 0 b.surveys.length)] ⟨rfl, rfl, by rw [← e3]; rfl, trivial⟩ (fun k : Nat => k ≤ b.surveys.length) (fun k => [(6, natA k)]) (fun k => [.grow 4 false (bls b.surveys.length fun _ => false)]) (fun k => b.surveys.length - k) 0 (Nat.zero_le _) ?_ ⟨rfl, trivial⟩ ?_
  · show [Blk.grow _ false (bls _ _)] = [Blk.grow _ false (List.replicate _ _)]
    rw [e3, bls0]
  intro k hk
  conv => whnf
  by_cases hlt : k < b.surveys.length
  · skip
    repeat' first | ((with_reducible apply XBr.dec) <;> (intro h; first | (exfalso; omega) | ((try simp only [List.length_map] at h); first | (exfalso; omega) | (conv => whnf)))) | ((first | (with_reducible refine XInt.i64 (by omega) (by omega) ?_) | (refine XHold.mk (bls_len _ _) ?_) | (refine XHold.mk ⟨bls_len _ _, rfl, by omega, by omega⟩ ?_) | (refine XPut.bls k (by omega) rfl (by omega) ?_)); conv => whnf) | fail
    refine XAgain.go (k + 1) (by omega) (by omega) (congrArg (fun z => [Blk.grow _ false z]) (bls_congr fun i hi => ?_)) ⟨rfl, rfl, rfl, rfl, trivial⟩
    unfold updV; split <;> rfl
  · obtain rfl : k = b.surveys.length := by omega
    repeat' first | ((with_reducible apply XBr.dec) <;> (intro h; first | (exfalso; omega) | ((try simp only [List.length_map] at h); first | (exfalso; omega) | (conv => whnf)))) | ((refine XHold.mk (bls_len _ _) ?_); conv => whnf) | fail
    exact XGive.mk' [0] rfl (by decide) ⟨congrArg some (blsRen _ _ _ _).symm, trivial⟩ rfl
theorem XCall.counts {b : Bd} {H : List Blk} {k : AV → List Blk → Prop} (hs : b.surveys.length ≤ 100000) (hk : k (.gr H.length b.surveys.length) (H ++ [.grow 4 false (bls b.surveys.length fun _ => false)])) : XCall Try.prog 134 [bedA b, .bool false] H k := by
  refine XCall.give (counts_g b hs) ?_
  rw [List.map_cons, blsRen, List.map_nil]; exact hk
def posL (b : Bd) (p : Nat → Bool) : List Int := lstF (cnB b p 0) 121
theorem posL_c (b : Bd) (ok : BedOk b) (p : Nat → Bool) : Comp Try.prog 103 [.sl false (bls (b.room + 1).toNat (psF b p 0))] (.sl (posL b p).isEmpty (ints (posL b p))) := by
  have h := refList_c false (psF b p 0) (b.room + 1).toNat (by have := ok.r2; omega)
  rw [ps_list ok (Nat.zero_le _)] at h
  exact h
theorem posL_len (b : Bd) (p : Nat → Bool) : ((ints (posL b p)).length : Int) = (posL b p).length ∧ (noneB b p = true → (posL b p).length = 0) ∧ (noneB b p = false → 0 < (posL b p).length) := by
  refine ⟨by rw [ints_len], fun h => ?_, fun h => ?_⟩
  · rw [none_list, decide_eq_true_iff] at h
    unfold posL; rw [h]; rfl
  · rw [none_list, decide_eq_false_iff_not] at h
    exact List.length_pos_iff.2 h
end GA
end

section
namespace GA
open Go Go.RowKit Go.Proofs
set_option pp.deepTerms true
set_option maxRecDepth 8000
set_option linter.unusedVariables false
set_option linter.unusedSimpArgs false

def bstA (o : Option (List Int)) : AV := match o with | none => .sl true [] | some l => .sl false (ints l)
theorem bstA_low {n : Nat} (o : Option (List Int)) : (bstA o).low n = true := by cases o with | none => rfl | some l => exact lowI l
theorem bstS_len {q : List Int → Bool} {S : Nat} : ∀ {s : Nat} {l : List Int}, bstS q S s = some l → l.length ≤ S
  | s + 1, l, h => by
    have hs : (lsS S s).length ≤ S := lstF_len _ _
    rw [bstS] at h
    cases h1 : bstS q S s with
    | none =>
      rw [h1] at h; dsimp only at h
      split at h
      · cases h; exact hs
      · cases h
    | some l' =>
      rw [h1] at h; dsimp only at h
      split at h
      · cases h; exact hs
      · cases h; exact bstS_len h1
theorem bit_next (s i : Nat) : s.testBit i = decide (s / 2 ^ i % 2 = 1) := Nat.testBit_eq_decide_div_mod_eq
theorem div_next (s i : Nat) : s / 2 ^ (i + 1) = s / 2 ^ i / 2 := by rw [Nat.div_div_eq_div_mul, Nat.pow_succ]
set_option maxHeartbeats 2000000 in
theorem refClash_c (b : Bd) (hm : b.months.length ≤ 100000) (hs : b.surveys.length ≤ 100000) : Comp Try.prog 62 [bedA b] (clashV b) := by
  have hck := refCheck04_c b hm hs
  have e1 : ((b.surveys.map suA).length : Int) = b.surveys.length := by rw [List.length_map]
  unfold clashV
  by_cases hE : bedE b = 0
  · have ok := (bedE_iff b).1 hE
    have s1 := ok.s1
    have m1 := ok.m1
    have hnx := next_c b ok.toBedOk
    have hc0 := counts_c b false hs
    have hc1 := counts_c b true hs
    have hp := fun p => possible04_c b ok.toBedOk hs false p
    have hl := fun p => posL_c b ok.toBedOk p
    have hp0 := hp fun _ => false
    have hp1 := hp fun _ => true
    have hl0 := hl fun _ => false
    have hl1 := hl alwP
    obtain ⟨k1, k2, k3⟩ := posL_len b fun _ => false
    obtain ⟨k4, k5, k6⟩ := posL_len b alwP
    rw [hE] at hck
    rw [if_neg (fun h => h hE), ← cls_none ok.toBedOk, cls_all ok.toBedOk]
    cases h0 : noneB b fun _ => false with
    | true =>
      have k2 := k2 h0
      refine Comp.body (T := tab) (res := [.tmp 2, .tmp 3]) tab_ok [] Try.func62 rfl (by kernel_rfl) Try.ntmps62 rfl (by simp only [List.length_cons, List.length_nil]; decide) (by simp only [lowL, bedL]; rfl) ?_; conv => whnf
      repeat' first | ((with_reducible apply XBr.tt); conv => whnf) | ((with_reducible apply XBr.beq) <;> (intro h; first | (exfalso; omega) | (conv => whnf))) | ((with_reducible apply XBr.bne) <;> (intro h; first | (exfalso; omega) | (conv => whnf))) | (with_reducible apply XAnd.mk) | ((first | (with_reducible apply Chk.go) | (with_reducible apply ChkA.go) | (with_reducible apply ChkF.go) | (with_reducible apply ChkB.go)); conv => whnf) | (exact XSame.mk rfl rfl) | (with_reducible exact trivial) | (apply Walk.drawN (id := 5) tab_ok mixed_ok [] [] (hsU _) [_, _, _, _, _, _, _, _, _, _, _, _, _, _, _, _, _, _, _, _, _, _] (by kernel_rfl) rfl) | ((first | (with_reducible apply XNext.mk) | (refine XCall.ret hck ?_) | (refine XCall.ret hnx ?_) | (refine XCall.ret hc0 ?_) | (refine XCall.ret hp0 ?_) | (refine XIx.vecV 0 rfl (by omega) rfl ?_) | (refine XCall.ret hl0 ?_)); conv => whnf) | fail
      exact ⟨.low rfl⟩
    | false =>
      have k3 := k3 h0
      cases h1 : noneB b alwP with
      | false =>
        have k6 := k6 h1
        refine Comp.body (T := tab) (res := [.tmp 2, .tmp 3]) tab_ok [] Try.func62 rfl (by kernel_rfl) Try.ntmps62 rfl (by simp only [List.length_cons, List.length_nil]; decide) (by simp only [lowL, bedL]; rfl) ?_; conv => whnf
        repeat' first | ((with_reducible apply XBr.dec) <;> (intro h; first | (exfalso; omega) | ((try simp only [List.length_map] at h); first | (exfalso; omega) | (conv => whnf)))) | ((with_reducible apply XBr.beq) <;> (intro h; first | (exfalso; omega) | (conv => whnf))) | ((with_reducible apply XBr.bne) <;> (intro h; first | (exfalso; omega) | (conv => whnf))) | (with_reducible apply XAnd.mk) | ((first | (with_reducible apply Chk.go) | (with_reducible apply ChkA.go) | (with_reducible apply ChkF.go) | (with_reducible apply ChkB.go)); conv => whnf) | (exact XSame.mk rfl rfl) | (with_reducible exact trivial) | (apply Walk.drawN (id := 5) tab_ok mixed_ok [] [] (hsU _) [_, _, _, _, _, _, _, _, _, _, _, _, _, _, _, _, _, _, _, _, _, _] (by kernel_rfl) rfl) | ((first | (with_reducible apply XNext.mk) | (refine XCall.ret hck ?_) | (refine XCall.ret hnx ?_) | (refine XCall.ret hc0 ?_) | (refine XCall.ret hc1 ?_) | (refine XCall.ret hp0 ?_) | (refine XCall.ret hp1 ?_) | (refine XIx.vecV 0 rfl (by omega) rfl ?_) | (refine XCall.ret hl0 ?_) | (refine XCall.ret hl1 ?_)); conv => whnf) | fail
        exact ⟨.low rfl⟩
      | true =>
        have k5 := k5 h1
        have q0 : clB b [] = false := by rw [← cls_none ok.toBedOk]; exact h0
        have hcx : clsF (clB b) b.surveys.length ≠ none := clsF_ex (by rw [← h1, ← cls_all ok.toBedOk]; unfold evrL; rw [vecF_eq])
        obtain ⟨L, hL⟩ : ∃ L, clsF (clB b) b.surveys.length = some L := by
          cases h : clsF (clB b) b.surveys.length with
          | none => exact absurd h hcx
          | some L => exact ⟨L, rfl⟩
        have hfin := bstS_cls hL
        have hne := bstS_q (q := clB b) (S := b.surveys.length)
        have hp2 : 2 ^ b.surveys.length ≤ 256 := by
          have := Nat.pow_le_pow_right (show 0 < 2 by omega) s1
          simpa using this
        have hsh := shl_nat (k := b.surveys.length) (by omega)
        rw [hL]
        refine Comp.body (T := tab) (res := [.tmp 2, .tmp 3]) tab_ok [] Try.func62 rfl (by kernel_rfl) Try.ntmps62 rfl (by simp only [List.length_cons, List.length_nil]; decide) (by simp only [lowL, bedL]; rfl) ?_; conv => whnf
        repeat' first | ((with_reducible apply XBr.dec) <;> (intro h; first | (exfalso; omega) | ((try simp only [List.length_map] at h); first | (exfalso; omega) | (conv => whnf)))) | ((with_reducible apply XBr.beq) <;> (intro h; first | (exfalso; omega) | (conv => whnf))) | ((with_reducible apply XBr.bne) <;> (intro h; first | (exfalso; omega) | (conv => whnf))) | (with_reducible apply XAnd.mk) | ((first | (with_reducible apply Chk.go) | (with_reducible apply ChkA.go) | (with_reducible apply ChkF.go) | (with_reducible apply ChkB.go)); conv => whnf) | (exact XSame.mk rfl rfl) | (with_reducible exact trivial) | (apply Walk.drawN (id := 5) tab_ok mixed_ok [] [] (hsU _) [_, _, _, _, _, _, _, _, _, _, _, _, _, _, _, _, _, _, _, _, _, _] (by kernel_rfl) rfl) | ((first | (with_reducible apply XNext.mk) | (refine XCall.ret hck ?_) | (refine XCall.ret hnx ?_) | (refine XCall.ret hc0 ?_) | (refine XCall.ret hc1 ?_) | (refine XCall.ret hp0 ?_) | (refine XCall.ret hp1 ?_) | (refine XIx.vecV 0 rfl (by omega) rfl ?_) | (refine XCall.ret hl0 ?_) | (refine XCall.ret hl1 ?_)); conv => whnf) | fail
        refine Walk.loopGK tab_ok [] [(1, _), (2, _), (3, _), (5, _)] ⟨rfl, rfl, rfl, rfl, trivial⟩ (fun s : Nat => s ≤ 2 ^ b.surveys.length) (fun s => [(6, bstA (bstS (clB b) b.surveys.length s)), (7, natA s)]) (fun _ => []) (fun s => 2 ^ b.surveys.length - s) 0 (Nat.zero_le _) rfl ⟨rfl, rfl, trivial⟩ ?_ (fun _ _ => Nat.le_refl _) ?_
        · intro q _
          refine ⟨fun z hz => (by cases hz), fun z hz => ?_⟩
          simp only [List.cons_append, List.nil_append, List.mem_cons, List.not_mem_nil, or_false] at hz
          rcases hz with rfl | rfl | rfl | rfl | rfl | rfl <;> first | rfl | exact lowBd b | exact nextA_low b | exact bstA_low _
        intro s hs2
        conv => whnf
        by_cases hlt : s < 2 ^ b.surveys.length
        · skip
          repeat' first | ((with_reducible apply XBr.dec) <;> (intro h; first | (exfalso; omega) | ((try simp only [List.length_map] at h); first | (exfalso; omega) | (conv => whnf)))) | ((with_reducible refine XHold.mk ?_ ?_); (first | omega | rfl | decide | exact ⟨rfl, by decide, rfl⟩ | exact wideI _ | exact widePr _ | exact wideSk _ | (unfold Room; constructor <;> ((try simp) <;> omega)) | exact ⟨rfl, by simp only [List.length_map], by unfold Room; constructor <;> ((try simp) <;> omega)⟩ | exact ⟨by omega, by omega, by unfold Room; constructor <;> ((try simp) <;> omega)⟩); conv => whnf) | ((first | (refine XInt.eq (y := ((2 ^ b.surveys.length : Nat) : Int)) (by rw [List.length_map]; exact hsh) (by omega) (by omega) ?_) | (refine XCall.counts hs ?_)); conv => whnf) | fail
          refine Walk.thenFreeze 8 0 b.surveys.length ?_
          refine Walk.loopK tab_ok [] [(1, _), (2, _), (3, _), (5, _), (6, _), (7, _), (8, _)] ⟨rfl, rfl, rfl, rfl, rfl, rfl, rfl, trivial⟩ (fun i : Nat => i ≤ b.surveys.length) (fun i => [(9, natA (s / 2 ^ i)), (10, natA i)]) (fun i => [.grow 4 false (bls b.surveys.length fun q => if q < i then s.testBit q else false)]) (fun i => b.surveys.length - i) 0 (Nat.zero_le _) (by rw [show (bls b.surveys.length fun q => if q < 0 then s.testBit q else false) = bls b.surveys.length fun _ => false from bls_congr fun q _ => if_neg (Nat.not_lt_zero q)] <;> rfl) ⟨congrArg (fun z => some (AV.int .i64 z)) (by rw [Nat.pow_zero, Nat.div_one]), rfl, trivial⟩ ?_
          intro i hi
          have hbl := fun F => bls_len b.surveys.length F
          have hbn := bit_next s i
          have hdn := div_next s i
          conv => whnf
          by_cases hlti : i < b.surveys.length
          · have hrs : s / 2 ^ i ≤ s := Nat.div_le_self _ _
            generalize s / 2 ^ i = r at hbn hdn hrs ⊢
            have hv : decide ((r : Int).tmod 2 = 1) = s.testBit i := by
              rw [hbn, decide_eq_decide, show (r : Int).tmod 2 = ((r % 2 : Nat) : Int) from (Int.ofNat_tmod r 2).symm]; omega
            have hd2 : (r : Int).tdiv 2 = ((r / 2 : Nat) : Int) := (Int.ofNat_tdiv r 2).symm
            repeat' first | ((with_reducible apply XBr.dec) <;> (intro h; first | (exfalso; omega) | ((try simp only [List.length_map] at h); first | (exfalso; omega) | (conv => whnf)))) | ((with_reducible refine XInt.i64 (by omega) (by omega) ?_); conv => whnf) | ((with_reducible refine XHold.mk ?_ ?_); (first | omega | rfl | decide | exact ⟨rfl, by decide, rfl⟩ | exact wideI _ | exact widePr _ | exact wideSk _ | (unfold Room; constructor <;> ((try simp) <;> omega)) | exact ⟨rfl, by simp only [List.length_map], by unfold Room; constructor <;> ((try simp) <;> omega)⟩ | exact ⟨by omega, by omega, by unfold Room; constructor <;> ((try simp) <;> omega)⟩); conv => whnf) | ((first | (refine XHold.mk (hbl _) ?_) | (refine XHold.mk ⟨hbl _, rfl, by omega, by omega⟩ ?_) | (refine XPut.bls i (by omega) rfl (by omega) ?_)); conv => whnf) | fail
            refine XAgain.go (i + 1) (by omega) (by omega) (congrArg (fun z => [Blk.grow _ false z]) (bls_congr fun q _ => ?_)) ⟨rfl, rfl, rfl, rfl, rfl, rfl, rfl, congrArg (fun z : Nat => some (AV.int .i64 z)) hdn.symm, rfl, trivial⟩
            unfold updV
            by_cases hq : q = i
            · rw [if_pos hq, if_pos (by omega), hq]; exact hv.symm
            · rw [if_neg hq]
              show (if q < i + 1 then s.testBit q else false) = if q < i then s.testBit q else false
              by_cases hq2 : q < i
              · rw [if_pos hq2, if_pos (by omega)]
              · rw [if_neg hq2, if_neg (by omega)]
          · obtain rfl : i = b.surveys.length := by omega
            rw [show (bls b.surveys.length fun q => if q < b.surveys.length then s.testBit q else false) = bls b.surveys.length fun q => s.testBit q from bls_congr fun q hq => if_pos hq]
            have hps := hp fun q => s.testBit q
            have hls := hl fun q => s.testBit q
            have hlc := refList_c false (fun q => s.testBit q) b.surveys.length (by omega)
            change Comp Try.prog _ _ (slA (lsS b.surveys.length s)) at hlc
            have hll : (lsS b.surveys.length s).length ≤ b.surveys.length := lstF_len _ _
            obtain ⟨j1, j2, j3⟩ := posL_len b fun q => s.testBit q
            rw [cls_set ok.toBedOk s] at j2 j3
            have hnx2 : bstS (clB b) b.surveys.length (s + 1) = match bstS (clB b) b.surveys.length s with | none => if clB b (lsS b.surveys.length s) = true then some (lsS b.surveys.length s) else none | some l => if befB (lsS b.surveys.length s) l = true ∧ clB b (lsS b.surveys.length s) = true then some (lsS b.surveys.length s) else some l := rfl
            have hsle : clB b (lsS b.surveys.length s) = true → slA (lsS b.surveys.length s) = bstA (some (lsS b.surveys.length s)) := fun h => by
              show AV.sl (lsS b.surveys.length s).isEmpty _ = _
              cases hz : lsS b.surveys.length s with
              | nil => rw [hz, q0] at h; cases h
              | cons x l => rfl
            obtain ⟨r, hr⟩ : ∃ r, clB b (lsS b.surveys.length s) = r := ⟨_, rfl⟩
            rw [hr] at hnx2 j2 j3 hsle
            cases hbs : bstS (clB b) b.surveys.length s with
            | none =>
              rw [hbs] at hnx2
              dsimp only at hnx2
              repeat' first | ((with_reducible apply XBr.dec) <;> (intro h; first | (exfalso; omega) | ((try simp only [List.length_map] at h); first | (exfalso; omega) | (conv => whnf)))) | ((first | (refine XHold.mk (hbl _) ?_) | (refine XFrz.go rfl rfl (hbl _) ?_) | (refine XCall.ret hlc ?_)); conv => whnf) | fail
              refine Walk.norm tab_ok [] [(1, _), (2, _), (3, _), (5, _), (6, _), (7, _), (8, _), (11, _)] ⟨rfl, rfl, rfl, rfl, rfl, rfl, rfl, rfl, trivial⟩ ?_
              conv => whnf
              cases r with
              | true =>
                have j2 := j2 rfl
                rw [if_pos rfl] at hnx2
                repeat' first | ((with_reducible apply XBr.tt); conv => whnf) | ((with_reducible apply XBr.beq) <;> (intro h; first | (exfalso; omega) | (conv => whnf))) | ((first | (with_reducible refine XInt.i64 (by omega) (by omega) ?_) | (refine XCall.ret hps ?_) | (refine XIx.vecV 0 rfl (by omega) rfl ?_) | (refine XCall.ret hls ?_)); conv => whnf) | fail
                exact XAgainG.go (s + 1) [.dead] (by omega) (by omega) rfl ⟨rfl, rfl, rfl, rfl, by rw [hnx2, ← hsle rfl] <;> rfl, rfl, trivial⟩
              | false =>
                have j3 := j3 rfl
                rw [if_neg (by simp)] at hnx2
                repeat' first | ((with_reducible apply XBr.tt); conv => whnf) | ((with_reducible apply XBr.beq) <;> (intro h; first | (exfalso; omega) | (conv => whnf))) | ((first | (with_reducible refine XInt.i64 (by omega) (by omega) ?_) | (refine XCall.ret hps ?_) | (refine XIx.vecV 0 rfl (by omega) rfl ?_) | (refine XCall.ret hls ?_)); conv => whnf) | fail
                exact XAgainG.go (s + 1) [.dead] (by omega) (by omega) rfl ⟨rfl, rfl, rfl, rfl, by rw [hnx2] <;> rfl, rfl, trivial⟩
            | some l0 =>
              rw [hbs] at hnx2
              dsimp only at hnx2
              have hl0l : l0.length ≤ 100000 := by have := bstS_len hbs; omega
              have hbf := before04_c (lsS b.surveys.length s).isEmpty false (lsS b.surveys.length s) l0 (by omega) hl0l
              generalize befB (lsS b.surveys.length s) l0 = bf at hbf hnx2
              repeat' first | ((with_reducible apply XBr.dec) <;> (intro h; first | (exfalso; omega) | ((try simp only [List.length_map] at h); first | (exfalso; omega) | (conv => whnf)))) | ((first | (refine XHold.mk (hbl _) ?_) | (refine XFrz.go rfl rfl (hbl _) ?_) | (refine XCall.ret hlc ?_)); conv => whnf) | fail
              refine Walk.norm tab_ok [] [(1, _), (2, _), (3, _), (5, _), (6, _), (7, _), (8, _), (11, _)] ⟨rfl, rfl, rfl, rfl, rfl, rfl, rfl, rfl, trivial⟩ ?_
              conv => whnf
              cases bf with
              | false =>
                rw [if_neg (by simp)] at hnx2
                repeat' first | ((first | (with_reducible apply XBr.ff) | (with_reducible refine XInt.i64 (by omega) (by omega) ?_) | (refine XCall.ret hbf ?_)); conv => whnf) | fail
                exact XAgainG.go (s + 1) [.dead] (by omega) (by omega) rfl ⟨rfl, rfl, rfl, rfl, by rw [hnx2] <;> rfl, rfl, trivial⟩
              | true =>
                cases r with
                | true =>
                  have j2 := j2 rfl
                  rw [if_pos ⟨rfl, rfl⟩] at hnx2
                  repeat' first | ((first | (with_reducible apply XBr.tt) | (with_reducible apply XBr.ff)); conv => whnf) | ((with_reducible apply XBr.beq) <;> (intro h; first | (exfalso; omega) | (conv => whnf))) | ((first | (with_reducible refine XInt.i64 (by omega) (by omega) ?_) | (refine XCall.ret hbf ?_) | (refine XCall.ret hps ?_) | (refine XIx.vecV 0 rfl (by omega) rfl ?_) | (refine XCall.ret hls ?_)); conv => whnf) | fail
                  exact XAgainG.go (s + 1) [.dead] (by omega) (by omega) rfl ⟨rfl, rfl, rfl, rfl, by rw [hnx2, ← hsle rfl] <;> rfl, rfl, trivial⟩
                | false =>
                  have j3 := j3 rfl
                  rw [if_neg (by simp)] at hnx2
                  repeat' first | ((first | (with_reducible apply XBr.tt) | (with_reducible apply XBr.ff)); conv => whnf) | ((with_reducible apply XBr.beq) <;> (intro h; first | (exfalso; omega) | (conv => whnf))) | ((first | (with_reducible refine XInt.i64 (by omega) (by omega) ?_) | (refine XCall.ret hbf ?_) | (refine XCall.ret hps ?_) | (refine XIx.vecV 0 rfl (by omega) rfl ?_) | (refine XCall.ret hls ?_)); conv => whnf) | fail
                  exact XAgainG.go (s + 1) [.dead] (by omega) (by omega) rfl ⟨rfl, rfl, rfl, rfl, by rw [hnx2] <;> rfl, rfl, trivial⟩
        · have hse : s = 2 ^ b.surveys.length := by omega
          have hLn : L ≠ [] := fun e => by have := (clsF_some hL).2.1; rw [e, q0] at this; cases this
          have hsl : slA (outL (some L)) = bstA (some L) := by
            show AV.sl L.isEmpty _ = _
            cases L with
            | nil => exact absurd rfl hLn
            | cons x l => rfl
          rw [hsl, show bstS (clB b) b.surveys.length s = some L by rw [hse]; exact hfin]
          repeat' first | ((with_reducible apply XBr.dec) <;> (intro h; first | (exfalso; omega) | ((try simp only [List.length_map] at h); first | (exfalso; omega) | (conv => whnf)))) | ((with_reducible refine XHold.mk ?_ ?_); (first | omega | rfl | decide | exact ⟨rfl, by decide, rfl⟩ | exact wideI _ | exact widePr _ | exact wideSk _ | (unfold Room; constructor <;> ((try simp) <;> omega)) | exact ⟨rfl, by simp only [List.length_map], by unfold Room; constructor <;> ((try simp) <;> omega)⟩ | exact ⟨by omega, by omega, by unfold Room; constructor <;> ((try simp) <;> omega)⟩); conv => whnf) | ((refine XInt.eq (y := ((2 ^ b.surveys.length : Nat) : Int)) (by rw [List.length_map]; exact hsh) (by omega) (by omega) ?_); conv => whnf) | fail
          exact ⟨.low (show lowL 0 [bstA (some L), _] = true by simp only [lowL, bstA_low, AV.low]; rfl)⟩
  · rw [if_pos hE]
    generalize bedE b = e at hck hE
    refine Comp.body (T := tab) (res := [.tmp 2, .tmp 3]) tab_ok [] Try.func62 rfl (by kernel_rfl) Try.ntmps62 rfl (by simp only [List.length_cons, List.length_nil]; decide) (by simp only [lowL, bedL]; rfl) ?_; conv => whnf
    repeat' first | ((with_reducible apply XBr.bne) <;> (intro h; first | (exfalso; omega) | (conv => whnf))) | ((refine XCall.ret hck ?_); conv => whnf) | fail
    exact ⟨.low rfl⟩
end GA
end

section
namespace GA
open Go Go.RowKit Go.Proofs
set_option pp.deepTerms true
set_option maxRecDepth 8000
set_option linter.unusedVariables false
set_option linter.unusedSimpArgs false

theorem XIx.lss {l : List (List Int)} {n : Int} {k : AV → Prop} (i : Nat) (hn : n = i) (h2 : i < l.length) (h : k (.pim [lsA (l.getD i default)])) : XIx (l.map lsA) n 1 k := by
  subst hn
  exact XIx.nat (f := lsA) h2 (fun _ => rfl) h
end GA
end

section
namespace GA
open Go Go.RowKit Go.Proofs
set_option pp.deepTerms true
set_option maxRecDepth 8000
set_option linter.unusedVariables false
set_option linter.unusedSimpArgs false

theorem clashV_same (b : Bd) : clashV (ownB b) = clashV (thB b) := by
  unfold clashV
  by_cases hE : bedE b = 0
  · have ok := (bedE_iff b).1 hE
    have ok1 : BedOk (ownB b) := ⟨ok.r1, ok.r2, ok.m1, ok.m2, ok.f1, ok.f2, ok.u1, ok.u2, ok.mo⟩
    have ok2 : BedOk (thB b) := ⟨ok.r1, ok.r2, ok.m1, ok.m2, ok.f1, ok.f2, ok.u1, ok.u2, ok.mo⟩
    have h : clB (ownB b) = clB (thB b) := by
      funext L
      exact none_eq ok1 ok2 ⟨rfl, rfl, rfl, rfl⟩ fun m n => Iff.rfl
    rw [h]; rfl
  · rw [if_pos (show bedE (ownB b) ≠ 0 from hE), if_pos (show bedE (thB b) ≠ 0 from hE)]; rfl
theorem clashV_form (b : Bd) (hs : b.surveys.length ≤ 100000) : ∃ l e, clashV b = .tup [slA l, .int .i64 e] ∧ l.length ≤ 100000 := by
  unfold clashV
  split
  · exact ⟨[], _, rfl, by simp⟩
  · split
    · exact ⟨[], _, rfl, by simp⟩
    · refine ⟨_, _, rfl, ?_⟩
      cases h : clsF (clB b) b.surveys.length with
      | none => simp [outL]
      | some L => have := (clsF_some h).2.2.1; show L.length ≤ 100000; omega
set_option maxHeartbeats 1000000 in
theorem bedClash_c (b : Bd) : Comp Try.prog 12 [bedA b] (.bool true) := by
  have hgr := great04_c b
  have hwi := wide04_c b 40 6 5
  cases hg : great04 b
  case true =>
    refine Comp.body (T := tab) (res := [.tmp 2]) tab_ok [] Try.func12 rfl (by kernel_rfl) Try.ntmps12 rfl (by simp only [List.length_cons, List.length_nil]; decide) (by simp only [lowL, bedL]; rfl) ?_; conv => whnf
    repeat' first | ((first | (with_reducible apply XBr.tt) | ((refine XCall.ret hgr ?_); rw [hg]) | (refine XCall.ret awake04_c ?_)); conv => whnf) | fail
    exact ⟨.low rfl⟩
  generalize decide (40 < b.room ∧ b.room ≤ 120 ∨ (6 : Int) < b.months.length ∧ (b.months.length : Int) ≤ 10 ∨ (5 : Int) < b.surveys.length ∧ (b.surveys.length : Int) ≤ 8) = w at hwi
  cases w with
  | true =>
    refine Comp.body (T := tab) (res := [.tmp 2]) tab_ok [] Try.func12 rfl (by kernel_rfl) Try.ntmps12 rfl (by simp only [List.length_cons, List.length_nil]; decide) (by simp only [lowL, bedL]; rfl) ?_; conv => whnf
    repeat' first | ((first | (with_reducible apply XBr.tt) | (with_reducible apply XBr.ff) | ((refine XCall.ret hgr ?_); rw [hg]) | (refine XCall.ret hwi ?_) | (refine XCall.ret awake04_c ?_)); conv => whnf) | fail
    exact ⟨.low rfl⟩
  | false =>
    obtain ⟨g1, g2⟩ := great_iff.1 hg
    have how := own04_c b (by omega) (by omega)
    have hth := theirs04_c b (by omega) (by omega)
    have hsa := same04_c b (by omega) (by omega)
    have hc := clash_c (ownB b) (show b.months.length ≤ 100000 by omega) (show b.surveys.length ≤ 100000 by omega)
    have hr := refClash_c (thB b) (show b.months.length ≤ 100000 by omega) (show b.surveys.length ≤ 100000 by omega)
    obtain ⟨l, e, hV, hl⟩ := clashV_form (thB b) (show b.surveys.length ≤ 100000 by omega)
    rw [clashV_same, hV] at hc
    rw [hV] at hr
    have heq := eq_int l.isEmpty l.isEmpty l l hl
    rw [beq_self_eq_true] at heq
    refine Comp.body (T := tab) (res := [.tmp 2]) tab_ok [] Try.func12 rfl (by kernel_rfl) Try.ntmps12 rfl (by simp only [List.length_cons, List.length_nil]; decide) (by simp only [lowL, bedL]; rfl) ?_; conv => whnf
    repeat' first | ((first | (with_reducible apply XBr.tt) | (with_reducible apply XBr.ff)); conv => whnf) | ((with_reducible apply XBr.beq) <;> (intro h; first | (exfalso; omega) | (conv => whnf))) | ((first | ((refine XCall.ret hgr ?_); rw [hg]) | (refine XCall.ret hwi ?_) | (refine XCall.ret how ?_) | (refine XCall.ret hth ?_) | (refine XCall.ret hc ?_) | (refine XCall.ret hr ?_) | (refine XCall.ret heq ?_) | (refine XCall.ret hsa ?_) | (refine XCall.ret awake04_c ?_)); conv => whnf) | fail
    all_goals exact ⟨.low rfl⟩
end GA
end
