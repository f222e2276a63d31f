/- Part 7 of a proof: S36, S37, S38, S30b, Abs32, S39, S41, S44, S45, S46, S47. -/
import Derived.Test.YtlbdomhfcghjdaaP6
section
namespace GA
open Go Go.RowKit Go.Proofs
set_option maxRecDepth 8000
set_option linter.unusedVariables false
set_option linter.unusedSimpArgs false

theorem bit_ext {a b : Nat} (h : ∀ i, a.testBit i = b.testBit i) : a = b := Nat.eq_of_testBit_eq h
theorem Sub.refl (a : Nat) : Sub a a := fun _ h => h
theorem Sub.trans {a b c : Nat} (h : Sub a b) (k : Sub b c) : Sub a c := fun i x => k i (h i x)
theorem sub_half {a m : Nat} (h : Sub a m) : Sub (a / 2) (m / 2) := fun i x => by
  have := h (i + 1) (by rw [Nat.testBit_succ]; exact x)
  rwa [Nat.testBit_succ] at this
theorem sub_odd {a m : Nat} (h : Sub a m) : a % 2 ≤ m % 2 := by
  have := h 0
  simp only [Nat.testBit_zero, decide_eq_true_eq] at this
  omega
theorem sub_diff (s c : Nat) : Sub (diff s c) s := fun i h => by rw [diff_bit, Bool.and_eq_true] at h; exact h.1
theorem sub_pow {i c : Nat} : Sub (2 ^ i) c ↔ c.testBit i = true := by
  constructor
  · intro h; exact h i (by rw [Nat.testBit_two_pow_self])
  · intro h j hj; rw [Nat.testBit_two_pow, decide_eq_true_eq] at hj; subst hj; exact h
/-- A set can be split into so many right carts, none of them empty. -/
inductive Pk (R : Nat → Bool) : Nat → Nat → Prop
  | nil : Pk R 0 0
  | cons {n set : Nat} (c : Nat) (hr : R c = true) (hs : Sub c set) (h0 : c ≠ 0) (t : Pk R n (diff set c)) : Pk R (n + 1) set
theorem diff_diff (s a b : Nat) : diff (diff s a) b = diff (diff s b) a := bit_ext fun i => by
  simp only [diff_bit]; cases s.testBit i <;> cases a.testBit i <;> cases b.testBit i <;> rfl
theorem ne_zero_bit {c i : Nat} (h : c.testBit i = true) : c ≠ 0 := fun e => by rw [e, Nat.zero_testBit] at h; cases h
theorem Pk.first {R : Nat → Bool} {n set i : Nat} (h : Pk R n set) (hi : set.testBit i = true) : ∃ c k, n = k + 1 ∧ R c = true ∧ Sub c set ∧ c.testBit i = true ∧ Pk R k (diff set c) := by
  induction h with
  | nil => rw [Nat.zero_testBit] at hi; cases hi
  | @cons n set c hr hs h0 t ih =>
    cases hc : c.testBit i
    · obtain ⟨c', k, h1, h2, h3, h4, h5⟩ := ih (by rw [diff_bit, hi, hc]; rfl)
      subst h1
      refine ⟨c', k + 1, rfl, h2, h3.trans (sub_diff _ _), h4, .cons c hr (fun j hj => ?_) h0 (by rw [diff_diff]; exact h5)⟩
      rw [diff_bit, hs j hj]
      cases hc' : c'.testBit j
      · rfl
      · have := h3 j hc'; rw [diff_bit, hj, Bool.not_true, Bool.and_false] at this; cases this
    · exact ⟨c, n, rfl, hr, hs, hc, t⟩
theorem Pk.zero {R : Nat → Bool} {n : Nat} (h : Pk R n 0) : n = 0 := by
  cases h with
  | nil => rfl
  | cons c hr hs h0 t => exact absurd (Nat.le_zero.1 hs.le) h0
theorem Pk.none {R : Nat → Bool} {set : Nat} (h : Pk R 0 set) : set = 0 := by cases h; rfl
theorem Pk.mono {R R' : Nat → Bool} {n set : Nat} (h : Pk R n set) (hR : ∀ c, Sub c set → R c = true → R' c = true) : Pk R' n set := by
  induction h with
  | nil => exact .nil
  | cons c hr hs h0 t ih => exact .cons c (hR c hs hr) hs h0 (ih fun c' hc' => hR c' (hc'.trans (sub_diff _ _)))
/-- The least number of carts; ten if there is none. -/
structure IsOpt (R : Nat → Bool) (set v : Nat) : Prop where
  le : v ≤ 10
  lo : ∀ n, Pk R n set → v ≤ n
  is : v < 10 → Pk R v set
theorem IsOpt.eq {R : Nat → Bool} {set v v' : Nat} (h : IsOpt R set v) (h' : IsOpt R set v') : v = v' := by
  rcases Nat.lt_trichotomy v v' with hl | hl | hl
  · have := h'.lo v (h.is (by have := h'.le; omega)); omega
  · exact hl
  · have := h.lo v' (h'.is (by have := h.le; omega)); omega
end GA
end

section
namespace GA
open Go Go.RowKit Go.Proofs
set_option maxRecDepth 8000
set_option linter.unusedVariables false
set_option linter.unusedSimpArgs false

theorem bitsF_iff : ∀ (f i s : Nat), s < 2 ^ f → ∀ x : Int, x ∈ bitsF f i s ↔ ∃ j : Nat, x = ((i + j : Nat) : Int) ∧ s.testBit j = true
  | 0, i, s, h, x => by
    have : s = 0 := by simpa using h
    subst this
    simp [bitsF]
  | f + 1, i, s, h, x => by
    have ih := bitsF_iff f (i + 1) (s / 2) (by rw [Nat.pow_succ] at h; omega) x
    have hz : (∃ j : Nat, x = ((i + j : Nat) : Int) ∧ s.testBit j = true) ↔ (x = (i : Int) ∧ s % 2 = 1) ∨ ∃ j : Nat, x = ((i + 1 + j : Nat) : Int) ∧ (s / 2).testBit j = true := by
      constructor
      · rintro ⟨j, h1, h2⟩
        rcases j with _ | j
        · left; rw [Nat.testBit_zero, decide_eq_true_eq] at h2; exact ⟨by simpa using h1, h2⟩
        · right; rw [Nat.testBit_succ] at h2; exact ⟨j, by rw [h1]; congr 1; omega, h2⟩
      · rintro (⟨h1, h2⟩ | ⟨j, h1, h2⟩)
        · exact ⟨0, by simpa using h1, by rw [Nat.testBit_zero, decide_eq_true_eq]; exact h2⟩
        · exact ⟨j + 1, by rw [h1]; congr 1; omega, by rw [Nat.testBit_succ]; exact h2⟩
    rw [hz, ← ih]
    have e : bitsF (f + 1) i s = if s = 0 then [] else if s % 2 = 1 then (i : Int) :: bitsF f (i + 1) (s / 2) else bitsF f (i + 1) (s / 2) := rfl
    rw [e]
    split
    · rename_i h0; subst h0; rw [Nat.zero_div, bitsF_zero]; simp
    · split
      · rename_i h1; rw [List.mem_cons]; simp [h1]
      · rename_i h1; simp [h1]
theorem bits_iff {s : Nat} (h : s < 512) (x : Int) : x ∈ bits s ↔ ∃ j : Nat, x = (j : Int) ∧ s.testBit j = true := by
  have := bitsF_iff 62 0 s (by omega) x
  unfold bits
  simpa using this
theorem inSet_bit (set : Nat) (p : Int) : inSet set p = set.testBit p.toNat := by
  unfold inSet; rw [Nat.testBit_eq_decide_div_mod_eq]
  rcases Nat.mod_two_eq_zero_or_one (set / 2 ^ p.toNat) with h | h <;> rw [h] <;> rfl
theorem diff_zero {a b : Nat} : diff a b = 0 ↔ Sub a b := by
  constructor
  · intro h i hi
    cases hb : b.testBit i
    · have := diff_bit a b i; rw [h, hi, hb, Nat.zero_testBit] at this; cases this
    · rfl
  · intro h
    apply bit_ext; intro i
    rw [diff_bit, Nat.zero_testBit]
    cases ha : a.testBit i
    · rfl
    · rw [h i ha]; rfl
def allP (b : List Nat) (p : Int × Int) : Nat := b.getD p.1.toNat 0 ||| b.getD p.2.toNat 0
theorem joinStep_get (b : List Nat) (p : Int × Int) {i : Nat} (hi : i < b.length) : (joinStep b p).getD i 0 = if (allP b p).testBit i = true then b.getD i 0 ||| allP b p else b.getD i 0 := by
  have e : (allP b p).testBit i = decide ((b.getD p.1.toNat 0 ||| b.getD p.2.toNat 0) / 2 ^ i % 2 = 1) := Nat.testBit_eq_decide_div_mod_eq
  rw [e]
  unfold joinStep allP
  simp only [List.getD_eq_getElem?_getD, List.getElem?_mapIdx, List.getElem?_eq_getElem hi, Option.map_some, Option.getD_some, decide_eq_true_eq]
theorem joinStep_none (b : List Nat) (p : Int × Int) {i : Nat} (hi : ¬ i < b.length) : (joinStep b p).getD i 0 = 0 := by
  rw [List.getD_eq_getElem?_getD, List.getElem?_eq_none (by rw [joinStep_len]; omega)]; rfl
theorem joinStep_sub (b : List Nat) (p : Int × Int) (i : Nat) : Sub (b.getD i 0) ((joinStep b p).getD i 0) := by
  by_cases hi : i < b.length
  · rw [joinStep_get b p hi]; split
    · intro j hj; rw [Nat.testBit_or, hj]; rfl
    · exact Sub.refl _
  · rw [List.getD_eq_getElem?_getD, List.getElem?_eq_none (by omega)]; exact Sub.zero _
theorem foldl_sub : ∀ (ps : List (Int × Int)) (b : List Nat) (i : Nat), Sub (b.getD i 0) ((ps.foldl joinStep b).getD i 0)
  | [], _, _ => Sub.refl _
  | p :: ps, b, i => by rw [List.foldl_cons]; exact (joinStep_sub b p i).trans (foldl_sub ps _ i)
theorem closeF_sub (l : Ld) : ∀ (n : Nat) (b : List Nat) (i : Nat), Sub (b.getD i 0) ((closeF l n b).getD i 0)
  | 0, _, _ => Sub.refl _
  | n + 1, b, i => by
    show Sub _ ((if joinR l b = b then b else closeF l n (joinR l b)).getD i 0)
    split
    · exact Sub.refl _
    · exact (foldl_sub _ b i).trans (closeF_sub l n _ i)
theorem closeF_fix (l : Ld) : ∀ (n : Nat) (b : List Nat), msr b < n → (∀ i, b.getD i 0 < 512) → joinR l (closeF l n b) = closeF l n b
  | 0, _, h, _ => absurd h (Nat.not_lt_zero _)
  | n + 1, b, h, hs => by
    show joinR l (if joinR l b = b then b else closeF l n (joinR l b)) = if joinR l b = b then b else closeF l n (joinR l b)
    split
    · assumption
    · rename_i hne
      have := msr_lt b (joinR l b) (joinR_len l b).symm (joinR_ge l b) (joinR_small l b hs) (Ne.symm hne)
      exact closeF_fix l n _ (by omega) (joinR_small l b hs)
theorem foldl_fix : ∀ (ps : List (Int × Int)) (b : List Nat), ps.foldl joinStep b = b → ∀ p ∈ ps, joinStep b p = b
  | [], _, _, _, h => by simp at h
  | q :: ps, b, h, p, hp => by
    rw [List.foldl_cons] at h
    have hq : joinStep b q = b := by
      refine eq_of_getD (d := 0) (joinStep_len b q) fun j _ => ?_
      have h1 := joinStep_ge b q j
      have h2 := foldl_ge ps (joinStep b q) j
      rw [h] at h2; omega
    rcases List.mem_cons.1 hp with rfl | hp
    · exact hq
    · rw [hq] at h; exact foldl_fix ps b h p hp
/-- Both sacks of each pair, or none. -/
def Cl (l : Ld) (c : Nat) : Prop := ∀ p ∈ l.wth, c.testBit p.1.toNat = c.testBit p.2.toNat
/-- Each bundle lies in a set, or beside it. -/
def Inv (c : Nat) (b : List Nat) : Prop := ∀ i, (c.testBit i = true → Sub (b.getD i 0) c) ∧ (c.testBit i = false → ∀ j, (b.getD i 0).testBit j = true → c.testBit j = false)
theorem Inv.step {c : Nat} {b : List Nat} {p : Int × Int} (h : Inv c b) (hp : c.testBit p.1.toNat = c.testBit p.2.toNat) : Inv c (joinStep b p) := by
  intro i
  by_cases hi : i < b.length
  · rw [joinStep_get b p hi]
    split
    · rename_i ha
      unfold allP at ha ⊢
      cases h1 : c.testBit p.1.toNat
      · have k1 := (h p.1.toNat).2 h1
        have k2 := (h p.2.toNat).2 (hp ▸ h1)
        have hci : c.testBit i = false := by
          rw [Nat.testBit_or, Bool.or_eq_true] at ha
          exact ha.elim (k1 i) (k2 i)
        refine ⟨fun e => (by rw [hci] at e; cases e), fun _ j hj => ?_⟩
        rw [Nat.testBit_or, Nat.testBit_or, Bool.or_eq_true, Bool.or_eq_true] at hj
        rcases hj with hj | hj | hj
        · exact (h i).2 hci j hj
        · exact k1 j hj
        · exact k2 j hj
      · have k1 := (h p.1.toNat).1 h1
        have k2 := (h p.2.toNat).1 (hp ▸ h1)
        have hci : c.testBit i = true := by
          rw [Nat.testBit_or, Bool.or_eq_true] at ha
          exact ha.elim (k1 i) (k2 i)
        refine ⟨fun _ j hj => ?_, fun e => (by rw [hci] at e; cases e)⟩
        rw [Nat.testBit_or, Nat.testBit_or, Bool.or_eq_true, Bool.or_eq_true] at hj
        rcases hj with hj | hj | hj
        · exact (h i).1 hci j hj
        · exact k1 j hj
        · exact k2 j hj
    · exact h i
  · rw [joinStep_none b p hi]
    exact ⟨fun _ => Sub.zero _, fun _ j hj => by rw [Nat.zero_testBit] at hj; cases hj⟩
theorem Inv.fold {c : Nat} : ∀ (ps : List (Int × Int)) (b : List Nat), (∀ p ∈ ps, c.testBit p.1.toNat = c.testBit p.2.toNat) → Inv c b → Inv c (ps.foldl joinStep b)
  | [], _, _, h => h
  | p :: ps, b, hp, h => by rw [List.foldl_cons]; exact Inv.fold ps _ (fun q hq => hp q (List.mem_cons_of_mem _ hq)) (h.step (hp p List.mem_cons_self))
theorem Inv.close {l : Ld} {c : Nat} (hc : Cl l c) : ∀ (n : Nat) (b : List Nat), Inv c b → Inv c (closeF l n b)
  | 0, _, h => h
  | n + 1, b, h => by
    show Inv c (if joinR l b = b then b else closeF l n (joinR l b))
    split
    · exact h
    · exact Inv.close hc n _ (Inv.fold _ _ hc h)
theorem ndI_get {n i : Nat} (hi : i < 9) : (ndI n).getD i 0 = if i < n then 2 ^ i else 0 := by
  unfold ndI; rw [List.getD_eq_getElem?_getD, List.getElem?_map, List.getElem?_range hi]; rfl
theorem Inv.zero (c n : Nat) : Inv c (ndI n) := by
  intro i
  by_cases hi : i < 9
  · rw [ndI_get hi]
    split
    · refine ⟨fun h => sub_pow.2 h, fun h j hj => ?_⟩
      rw [Nat.testBit_two_pow, decide_eq_true_eq] at hj; subst hj; exact h
    · exact ⟨fun _ => Sub.zero _, fun _ j hj => by rw [Nat.zero_testBit] at hj; cases hj⟩
  · rw [List.getD_eq_getElem?_getD, List.getElem?_eq_none (by rw [ndI_len]; omega)]
    exact ⟨fun _ => Sub.zero _, fun _ j hj => by rw [Option.getD_none, Nat.zero_testBit] at hj; cases hj⟩
/-- Bundles: each sack's own, closed, and the least that is. -/
theorem nd_self {l : Ld} (o : LdOk l) {i : Nat} (hi : i < l.sacks.length) : ((openD l).nd.getD i 0).testBit i = true := by
  refine closeF_sub l 5000 (ndI l.sacks.length) i i ?_
  rw [ndI_get (by have := o.n; omega), if_pos hi, Nat.testBit_two_pow_self]
theorem nd_least {l : Ld} {c : Nat} (hc : Cl l c) {i : Nat} (hi : c.testBit i = true) : Sub ((openD l).nd.getD i 0) c :=
  (Inv.close hc 5000 _ (Inv.zero c _) i).1 hi
theorem nd_fix {l : Ld} (o : LdOk l) : ∀ p ∈ l.wth, joinStep (openD l).nd p = (openD l).nd :=
  foldl_fix _ _ (closeF_fix l 5000 _ (by have := msr_le (ndI l.sacks.length) (ndI_len _); omega) (ndI_small _))
theorem nd_len {l : Ld} : (openD l).nd.length = 9 := by show (closeF l 5000 _).length = 9; rw [closeF_len, ndI_len]
/-- A cart that is right, without bundles. -/
structure RightP (l : Ld) (c : Nat) : Prop where
  w : (sumW (wts l) c : Int) ≤ l.bears
  wp : Cl l c
  ap : ∀ p ∈ l.apart, ¬ (c.testBit p.1.toNat = true ∧ c.testBit p.2.toNat = true)
theorem hv_get {l : Ld} (o : LdOk l) {c : Nat} (hc : c < 2 ^ l.sacks.length) : (openD l).hv.getD c 0 = sumW (wts l) c := by
  have := pow9 o.n
  show (hvF (wts l) (2 ^ l.sacks.length)).getD c 0 = _
  rw [hvF_get (by omega), if_pos hc]
theorem bit_lt {c n i : Nat} (hc : c < 2 ^ n) (hi : c.testBit i = true) : i < n := by
  rcases Nat.lt_or_ge i n with h | h
  · exact h
  · rw [Nat.testBit_lt_two_pow (Nat.lt_of_lt_of_le hc (Nat.pow_le_pow_right (by omega) h))] at hi; cases hi
theorem whole_iff {l : Ld} (o : LdOk l) {c : Nat} (hc : c < 2 ^ l.sacks.length) : wholeB (openD l) c = true ↔ Cl l c ∧ ∀ p ∈ l.apart, ¬ (c.testBit p.1.toNat = true ∧ c.testBit p.2.toNat = true) := by
  have h9 := pow9 o.n
  have hn := o.n
  have hw : ((bits c).all fun i => diff ((openD l).nd.getD i.toNat 0) c == 0) = true ↔ ∀ i : Nat, c.testBit i = true → Sub ((openD l).nd.getD i 0) c := by
    rw [List.all_eq_true]
    constructor
    · intro h i hi
      have := h (i : Int) ((bits_iff (by omega) _).2 ⟨i, rfl, hi⟩)
      rw [beq_iff_eq] at this; exact diff_zero.1 this
    · intro h x hx
      obtain ⟨j, rfl, hj⟩ := (bits_iff (by omega) _).1 hx
      rw [beq_iff_eq]; exact diff_zero.2 (h j hj)
  have ha : (l.apart.all fun p => !inSet c p.1 || !inSet c p.2) = true ↔ ∀ p ∈ l.apart, ¬ (c.testBit p.1.toNat = true ∧ c.testBit p.2.toNat = true) := by
    rw [List.all_eq_true]
    constructor
    · intro h p hp
      have := h p hp
      simp only [inSet_bit] at this
      rintro ⟨h1, h2⟩
      rw [h1, h2] at this; cases this
    · intro h p hp
      have := h p hp
      simp only [inSet_bit]
      cases h1 : c.testBit p.1.toNat
      · rfl
      · cases h2 : c.testBit p.2.toNat
        · rfl
        · exact absurd ⟨h1, h2⟩ this
  unfold wholeB
  rw [Bool.and_eq_true, hw]
  show _ ∧ (l.apart.all fun p => !inSet c p.1 || !inSet c p.2) = true ↔ _
  rw [ha]
  refine and_congr_left fun _ => ?_
  constructor
  · intro h p hp
    have b := o.wp p hp
    have e := nd_fix o p hp
    have k1 := nd_self o (i := p.1.toNat) (by omega)
    have k2 := nd_self o (i := p.2.toNat) (by omega)
    have g1 : (allP (openD l).nd p).testBit p.1.toNat = true := by unfold allP; rw [Nat.testBit_or, k1]; rfl
    have g2 : (allP (openD l).nd p).testBit p.2.toNat = true := by unfold allP; rw [Nat.testBit_or, k2, Bool.or_true]
    have e1 := joinStep_get (openD l).nd p (i := p.1.toNat) (by rw [nd_len]; omega)
    have e2 := joinStep_get (openD l).nd p (i := p.2.toNat) (by rw [nd_len]; omega)
    rw [e, if_pos g1] at e1
    rw [e, if_pos g2] at e2
    have s1 : c.testBit p.1.toNat = true → c.testBit p.2.toNat = true := fun hb => h _ hb _ (by rw [e1, Nat.testBit_or, g2, Bool.or_true])
    have s2 : c.testBit p.2.toNat = true → c.testBit p.1.toNat = true := fun hb => h _ hb _ (by rw [e2, Nat.testBit_or, g1, Bool.or_true])
    cases hb1 : c.testBit p.1.toNat
    · cases hb2 : c.testBit p.2.toNat
      · rfl
      · rw [s2 hb2] at hb1; cases hb1
    · rw [s1 hb1]
  · intro h i hi; exact nd_least h hi
theorem right_iff {l : Ld} (o : LdOk l) {c : Nat} (hc : c < 2 ^ l.sacks.length) : rightB (openD l) c = true ↔ RightP l c := by
  unfold rightB
  rw [Bool.and_eq_true, decide_eq_true_eq, hv_get o hc, whole_iff o hc]
  exact ⟨fun ⟨h1, h2, h3⟩ => ⟨h1, h2, h3⟩, fun h => ⟨h.w, h.wp, h.ap⟩⟩
end GA
end

section
namespace GA
open Go Go.RowKit Go.Proofs
set_option maxRecDepth 8000
set_option linter.unusedVariables false
set_option linter.unusedSimpArgs false

theorem diff_half (a b : Nat) : diff a b / 2 = diff (a / 2) (b / 2) := bit_ext fun i => by
  rw [← Nat.testBit_succ, diff_bit, diff_bit, Nat.testBit_succ, Nat.testBit_succ]
theorem diff_odd {a b : Nat} (h : Sub b a) : diff a b % 2 + b % 2 = a % 2 := by
  have e := diff_bit a b 0
  have hs := sub_odd h
  simp only [Nat.testBit_zero] at e
  rcases Nat.mod_two_eq_zero_or_one a with ha | ha <;> rcases Nat.mod_two_eq_zero_or_one b with hb | hb <;> rcases Nat.mod_two_eq_zero_or_one (diff a b) with hc | hc <;> simp [ha, hb, hc] at e hs ⊢
theorem sumW_split : ∀ (ws : List Nat) (s c : Nat), Sub c s → sumW ws (diff s c) + sumW ws c = sumW ws s
  | [], _, _, _ => rfl
  | w :: ws, s, c, h => by
    have ih := sumW_split ws (s / 2) (c / 2) (sub_half h)
    have ho := diff_odd h
    unfold sumW
    rw [diff_half]
    rcases Nat.mod_two_eq_zero_or_one s with ha | ha <;> rcases Nat.mod_two_eq_zero_or_one c with hb | hb <;> rcases Nat.mod_two_eq_zero_or_one (diff s c) with hc | hc <;> simp only [ha, hb, hc] at ho ⊢ <;> simp <;> omega
theorem Pk.sum {R : Nat → Bool} {n set : Nat} (h : Pk R n set) (ws : List Nat) (k : Nat) (hR : ∀ c, Sub c set → R c = true → sumW ws c ≤ k) : sumW ws set ≤ n * k := by
  induction h with
  | nil => rw [sumW_zero]; exact Nat.zero_le _
  | @cons n set c hr hs h0 t ih =>
    have h1 := ih fun c' hc' => hR c' (hc'.trans (sub_diff _ _))
    have h2 := hR c hs hr
    have h3 := sumW_split ws set c hs
    rw [Nat.succ_mul]; omega
theorem ones_pos : ∀ (k c : Nat), c ≠ 0 → c < 2 ^ k → 1 ≤ sumW (List.replicate k 1) c
  | 0, c, h0, h => absurd (by simpa using h) h0
  | k + 1, c, h0, h => by
    show 1 ≤ sumW (1 :: List.replicate k 1) c
    unfold sumW
    rcases Nat.mod_two_eq_zero_or_one c with hc | hc
    · have := ones_pos k (c / 2) (by omega) (by rw [Nat.pow_succ] at h; omega)
      omega
    · rw [if_pos hc]; omega
theorem Pk.count {R : Nat → Bool} {n set k : Nat} (h : Pk R n set) (hs : set < 2 ^ k) : n ≤ sumW (List.replicate k 1) set := by
  induction h with
  | nil => exact Nat.zero_le _
  | @cons n set c hr hsb h0 t ih =>
    have h1 := ih (Nat.lt_of_le_of_lt (diff_le _ _) hs)
    have h2 := ones_pos k c h0 (Nat.lt_of_le_of_lt hsb.le hs)
    have h3 := sumW_split (List.replicate k 1) set c hsb
    omega
theorem ones_le (k set : Nat) : sumW (List.replicate k 1) set ≤ k := by
  induction k generalizing set with
  | zero => exact Nat.zero_le _
  | succ k ih =>
    show sumW (1 :: List.replicate k 1) set ≤ _
    have := ih (set / 2)
    unfold sumW; split <;> omega
theorem Pk.len {R : Nat → Bool} {n k : Nat} (h : Pk R n (2 ^ k - 1)) : n ≤ k := by
  have hp := Nat.two_pow_pos k
  have := h.count (k := k) (by omega)
  have := ones_le k (2 ^ k - 1)
  omega
/-- A set without its first sack. -/
theorem Pk.tail {R R' : Nat → Bool} (hR : ∀ c, R c = true → R' (c / 2) = true) {n set : Nat} (h : Pk R n set) : ∃ k, k ≤ n ∧ Pk R' k (set / 2) := by
  induction h with
  | nil => exact ⟨0, Nat.le_refl _, .nil⟩
  | @cons n set c hr hs h0 t ih =>
    obtain ⟨k, hk, hp⟩ := ih
    rw [diff_half] at hp
    by_cases hc : c / 2 = 0
    · refine ⟨k, by omega, ?_⟩
      have e : diff (set / 2) (c / 2) = set / 2 := by
        rw [hc]; exact bit_ext fun i => by rw [diff_bit, Nat.zero_testBit]; cases (set / 2).testBit i <;> rfl
      rwa [e] at hp
    · exact ⟨k + 1, by omega, .cons (c / 2) (hR c hr) (sub_half hs) hc hp⟩
theorem RightP.free {l : Ld} (ha : l.apart = []) (hw : l.wth = []) {c : Nat} : RightP l c ↔ (sumW (wts l) c : Int) ≤ l.bears :=
  ⟨fun h => h.w, fun h => ⟨h, fun p hp => by rw [hw] at hp; simp at hp, fun p hp => by rw [ha] at hp; simp at hp⟩⟩
end GA
end

section
namespace GA
open Go Go.RowKit Go.Proofs
set_option maxRecDepth 8000
set_option linter.unusedVariables false
set_option linter.unusedSimpArgs false

theorem XPut.ints {els : List AV} {n e : Nat} {k : List AV → Prop} (xs : List Int) (x : Int) (hE : els = GA.ints xs) (h1 : n = xs.length) (h2 : e < n) (h : k (GA.ints (xs.set e x))) : XPut els n e (.int .i64 x) k := by
  subst hE; exact XPut.map (f := .int .i64) x rfl h1 h2 h
end GA
end

section
namespace GA
open Go Go.RowKit
set_option linter.unusedVariables false

section
variable {P : Program} {T : Tab} {N : Nat} {ρ : Option Nat} {H : List Blk} {σ : St} {D : List Nat}
/-- A place for a block to come. -/
theorem Walk.place {c : Code} {Q : Post} (x : Walk P N ρ c Q D σ (H ++ [.free])) : Walk P N ρ c Q D σ H := by
  constructor
  intro E h β a w s
  obtain ⟨s', X⟩ := s.sr.push (w' := w) s.sr.env (fun _ _ => rfl) (.pointer none) .free (by intro b hb; simp [anchor] at hb) (fun _ => trivial)
  exact wpIn_mono (x.o E h _ a w ⟨s', fun u r e => let ⟨v, h1, h2⟩ := s.fits u r e; ⟨v, h1, X.rep h2⟩, s.size, s.df.ext X⟩) fun _ _ _ => Conc.ext X
theorem XFree.at {H : List Blk} {b : Blk} {k : Nat → List Blk → Prop} (i : Nat) (h1 : lget H i = some .free) (h2 : hset H i b fun H' => k i H') : XFree H b k := ⟨i, h1, h2⟩
end
end GA
end

section
namespace GA
open Go Go.RowKit Go.Proofs
set_option pp.deepTerms true
set_option maxRecDepth 8000
set_option linter.unusedVariables false
set_option linter.unusedSimpArgs false

theorem dup_sk (nl : Bool) (xs : List Sk) (hx : xs.length ≤ 100000) : Comp Try.prog 83 [.sl nl (xs.map skA)] (.sl false (xs.map skA)) := by
  refine Comp.body (T := tab) (res := [.tmp 2]) tab_ok [] Try.func83 rfl (by kernel_rfl) Try.ntmps83 rfl (by simp only [List.length_cons, List.length_nil]; decide) (by simp only [lowL, AV.low, lowSk]; rfl) ?_; conv => whnf
  refine XHold.mk ⟨by omega, by simp, by unfold Room; simp; omega⟩ ?_
  conv => whnf
  refine XHold.mk (wideSk xs) ?_
  conv => whnf
  refine XHold.mk ⟨rfl, rfl, by unfold Room; simp; omega⟩ ?_
  conv => whnf
  exact ⟨Froz.grow rfl (by simp) (lowSk xs)⟩
theorem dup_pr (nl : Bool) (xs : List (Int × Int)) (hx : xs.length ≤ 100000) : Comp Try.prog 84 [.sl nl (xs.map prA)] (.sl false (xs.map prA)) := by
  refine Comp.body (T := tab) (res := [.tmp 2]) tab_ok [] Try.func84 rfl (by kernel_rfl) Try.ntmps84 rfl (by simp only [List.length_cons, List.length_nil]; decide) (by simp only [lowL, AV.low, lowPr]; rfl) ?_; conv => whnf
  refine XHold.mk ⟨by omega, by simp, by unfold Room; simp; omega⟩ ?_
  conv => whnf
  refine XHold.mk (widePr xs) ?_
  conv => whnf
  refine XHold.mk ⟨rfl, rfl, by unfold Room; simp; omega⟩ ?_
  conv => whnf
  exact ⟨Froz.grow rfl (by simp) (lowPr xs)⟩
def ownL (l : Ld) : Ld := ⟨l.bears, l.shrink, false, l.sacks, false, l.apart, false, l.wth⟩
theorem own_c (l : Ld) (o : LdW l) : Comp Try.prog 20 [ldA l] (ldA (ownL l)) := by
  have h1 := o.h1
  have h2 := o.h2
  have h3 := o.h3
  refine Comp.body (T := tab) (res := [.cell 2 26]) tab_ok [1] Try.func20 rfl (by kernel_rfl) Try.ntmps20 rfl (by simp only [List.length_cons, List.length_nil]; decide) (by simp only [lowL, AV.low, ldL]; rfl) ?_; conv => whnf
  repeat' first | ((with_reducible apply XBr.tt); conv => whnf) | ((with_reducible apply XBr.ff); conv => whnf) | (with_reducible apply XBr.not) | ((with_reducible apply XBr.dec) <;> (intro h; first | (exfalso; omega) | ((try simp only [List.length_map] at h); first | (exfalso; omega) | (conv => whnf)))) | ((with_reducible apply XBr.beq) <;> (intro h; first | (exfalso; omega) | (conv => whnf))) | ((with_reducible apply XBr.bne) <;> (intro h; first | (exfalso; omega) | (conv => whnf))) | ((with_reducible refine XInt.i64 (by omega) (by omega) ?_); conv => whnf) | ((with_reducible refine XHold.mk ?_ ?_); (first | omega | rfl | decide | exact ⟨rfl, by decide, rfl⟩ | exact wideI _ | exact widePr _ | exact wideSk _ | (unfold Room; constructor <;> ((try simp) <;> omega)) | exact ⟨rfl, by simp only [List.length_map], by unfold Room; constructor <;> ((try simp) <;> omega)⟩ | exact ⟨by omega, by omega, by unfold Room; constructor <;> ((try simp) <;> omega)⟩); conv => whnf) | ((with_reducible refine XIx.nat ?_ ?_ ?_); omega; (intro _; rfl); conv => whnf) | ((with_reducible refine XIx.map ?_ ?_ ?_ ?_); omega; omega; (intro _; rfl); conv => whnf) | (with_reducible apply XAnd.mk) | ((with_reducible apply Chk.go); conv => whnf) | ((with_reducible apply ChkA.go); conv => whnf) | ((with_reducible apply ChkF.go); conv => whnf) | ((with_reducible apply ChkB.go); conv => whnf) | (exact XSame.mk rfl rfl) | (exact XSame.mk (by first | rfl | (simp only [List.map_append, List.length_append, List.length_map]; done) | (simp only [List.map_append, List.length_append, List.length_map]; rfl)) (by first | rfl | (simp only [List.map_append]; done) | (simp only [List.map_append]; rfl))) | (with_reducible exact trivial) | ((with_reducible refine xdrop_app (by rw [List.length_map]; omega) ?_); conv => whnf) | ((with_reducible refine XDrop.desk (by assumption) ?_); conv => whnf) | ((with_reducible refine XArr.ints (by omega) (by omega) (by omega) ?_); conv => whnf) | ((with_reducible refine XArr.intsA (by omega) (by omega) (by omega) ?_); conv => whnf) | ((with_reducible refine XArr.nats ?_ ?_ ?_); omega; omega; conv => whnf) | ((with_reducible refine XArr.natsA ?_ ?_ ?_); omega; omega; conv => whnf) | ((with_reducible apply XArr.pim0); conv => whnf) | ((with_reducible apply XArr.pim1); conv => whnf) | ((with_reducible refine XArr.ptr ?_ ?_ ?_); omega; omega; conv => whnf) | ((with_reducible apply XBr.mk') <;> (intro h; conv => whnf))
  apply Walk.drawX tab_ok mixed_ok [] [10, 12, 14] (hsC [[.cells (ldC l), .cells [.int .i64 0, .int .i64 0, .sl true [], .sl true [], .sl true []]],
    [.cells (ldC { l with nls := false }), .cells [.int .i64 0, .int .i64 0, .sl true [], .sl true [], .sl true []]],
    [.cells (ldC { l with nls := false, nla := false }), .cells [.int .i64 0, .int .i64 0, .sl true [], .sl true [], .sl true []]],
    [.cells (ldC { l with nls := false, nla := false, nlw := false }), .cells [.int .i64 0, .int .i64 0, .sl true [], .sl true [], .sl true []]]]) [_, _, _, _, _, _, _, _, _, _, _, _, _, _, _] (by kernel_rfl) rfl
  · skip
    repeat' first | ((with_reducible apply XBr.tt); conv => whnf) | ((with_reducible apply XBr.ff); conv => whnf) | (with_reducible apply XBr.not) | ((with_reducible apply XBr.dec) <;> (intro h; first | (exfalso; omega) | ((try simp only [List.length_map] at h); first | (exfalso; omega) | (conv => whnf)))) | ((with_reducible apply XBr.beq) <;> (intro h; first | (exfalso; omega) | (conv => whnf))) | ((with_reducible apply XBr.bne) <;> (intro h; first | (exfalso; omega) | (conv => whnf))) | ((with_reducible refine XInt.i64 (by omega) (by omega) ?_); conv => whnf) | ((with_reducible refine XHold.mk ?_ ?_); (first | omega | rfl | decide | exact ⟨rfl, by decide, rfl⟩ | exact wideI _ | exact widePr _ | exact wideSk _ | (unfold Room; constructor <;> ((try simp) <;> omega)) | exact ⟨rfl, by simp only [List.length_map], by unfold Room; constructor <;> ((try simp) <;> omega)⟩ | exact ⟨by omega, by omega, by unfold Room; constructor <;> ((try simp) <;> omega)⟩); conv => whnf) | ((with_reducible refine XIx.nat ?_ ?_ ?_); omega; (intro _; rfl); conv => whnf) | ((with_reducible refine XIx.map ?_ ?_ ?_ ?_); omega; omega; (intro _; rfl); conv => whnf) | (with_reducible apply XAnd.mk) | ((with_reducible apply Chk.go); conv => whnf) | ((with_reducible apply ChkA.go); conv => whnf) | ((with_reducible apply ChkF.go); conv => whnf) | ((with_reducible apply ChkB.go); conv => whnf) | (exact XSame.mk rfl rfl) | (exact XSame.mk (by first | rfl | (simp only [List.map_append, List.length_append, List.length_map]; done) | (simp only [List.map_append, List.length_append, List.length_map]; rfl)) (by first | rfl | (simp only [List.map_append]; done) | (simp only [List.map_append]; rfl))) | (with_reducible exact trivial) | ((with_reducible refine xdrop_app (by rw [List.length_map]; omega) ?_); conv => whnf) | ((with_reducible refine XDrop.desk (by assumption) ?_); conv => whnf) | ((with_reducible refine XArr.ints (by omega) (by omega) (by omega) ?_); conv => whnf) | ((with_reducible refine XArr.intsA (by omega) (by omega) (by omega) ?_); conv => whnf) | ((with_reducible refine XArr.nats ?_ ?_ ?_); omega; omega; conv => whnf) | ((with_reducible refine XArr.natsA ?_ ?_ ?_); omega; omega; conv => whnf) | ((with_reducible apply XArr.pim0); conv => whnf) | ((with_reducible apply XArr.pim1); conv => whnf) | ((with_reducible refine XArr.ptr ?_ ?_ ?_); omega; omega; conv => whnf) | ((refine XCall.ret (dup_sk _ l.sacks h1) ?_); conv => whnf) | ((refine XCall.ret (dup_pr _ l.apart (by omega)) ?_); conv => whnf) | ((refine XCall.ret (dup_pr _ l.wth (by omega)) ?_); conv => whnf) | ((with_reducible apply XBr.mk') <;> (intro h; conv => whnf))
  · skip
    repeat' first | ((with_reducible apply XBr.tt); conv => whnf) | ((with_reducible apply XBr.ff); conv => whnf) | (with_reducible apply XBr.not) | ((with_reducible apply XBr.dec) <;> (intro h; first | (exfalso; omega) | ((try simp only [List.length_map] at h); first | (exfalso; omega) | (conv => whnf)))) | ((with_reducible apply XBr.beq) <;> (intro h; first | (exfalso; omega) | (conv => whnf))) | ((with_reducible apply XBr.bne) <;> (intro h; first | (exfalso; omega) | (conv => whnf))) | ((with_reducible refine XInt.i64 (by omega) (by omega) ?_); conv => whnf) | ((with_reducible refine XHold.mk ?_ ?_); (first | omega | rfl | decide | exact ⟨rfl, by decide, rfl⟩ | exact wideI _ | exact widePr _ | exact wideSk _ | (unfold Room; constructor <;> ((try simp) <;> omega)) | exact ⟨rfl, by simp only [List.length_map], by unfold Room; constructor <;> ((try simp) <;> omega)⟩ | exact ⟨by omega, by omega, by unfold Room; constructor <;> ((try simp) <;> omega)⟩); conv => whnf) | ((with_reducible refine XIx.nat ?_ ?_ ?_); omega; (intro _; rfl); conv => whnf) | ((with_reducible refine XIx.map ?_ ?_ ?_ ?_); omega; omega; (intro _; rfl); conv => whnf) | (with_reducible apply XAnd.mk) | ((with_reducible apply Chk.go); conv => whnf) | ((with_reducible apply ChkA.go); conv => whnf) | ((with_reducible apply ChkF.go); conv => whnf) | ((with_reducible apply ChkB.go); conv => whnf) | (exact XSame.mk rfl rfl) | (exact XSame.mk (by first | rfl | (simp only [List.map_append, List.length_append, List.length_map]; done) | (simp only [List.map_append, List.length_append, List.length_map]; rfl)) (by first | rfl | (simp only [List.map_append]; done) | (simp only [List.map_append]; rfl))) | (with_reducible exact trivial) | ((with_reducible refine xdrop_app (by rw [List.length_map]; omega) ?_); conv => whnf) | ((with_reducible refine XDrop.desk (by assumption) ?_); conv => whnf) | ((with_reducible refine XArr.ints (by omega) (by omega) (by omega) ?_); conv => whnf) | ((with_reducible refine XArr.intsA (by omega) (by omega) (by omega) ?_); conv => whnf) | ((with_reducible refine XArr.nats ?_ ?_ ?_); omega; omega; conv => whnf) | ((with_reducible refine XArr.natsA ?_ ?_ ?_); omega; omega; conv => whnf) | ((with_reducible apply XArr.pim0); conv => whnf) | ((with_reducible apply XArr.pim1); conv => whnf) | ((with_reducible refine XArr.ptr ?_ ?_ ?_); omega; omega; conv => whnf) | ((refine XCall.ret (dup_sk _ l.sacks h1) ?_); conv => whnf) | ((refine XCall.ret (dup_pr _ l.apart (by omega)) ?_); conv => whnf) | ((refine XCall.ret (dup_pr _ l.wth (by omega)) ?_); conv => whnf) | ((with_reducible apply XBr.mk') <;> (intro h; conv => whnf))
  · conv => whnf
    repeat' first | ((with_reducible apply XBr.tt); conv => whnf) | ((with_reducible apply XBr.ff); conv => whnf) | (with_reducible apply XBr.not) | ((with_reducible apply XBr.dec) <;> (intro h; first | (exfalso; omega) | ((try simp only [List.length_map] at h); first | (exfalso; omega) | (conv => whnf)))) | ((with_reducible apply XBr.beq) <;> (intro h; first | (exfalso; omega) | (conv => whnf))) | ((with_reducible apply XBr.bne) <;> (intro h; first | (exfalso; omega) | (conv => whnf))) | ((with_reducible refine XInt.i64 (by omega) (by omega) ?_); conv => whnf) | ((with_reducible refine XHold.mk ?_ ?_); (first | omega | rfl | decide | exact ⟨rfl, by decide, rfl⟩ | exact wideI _ | exact widePr _ | exact wideSk _ | (unfold Room; constructor <;> ((try simp) <;> omega)) | exact ⟨rfl, by simp only [List.length_map], by unfold Room; constructor <;> ((try simp) <;> omega)⟩ | exact ⟨by omega, by omega, by unfold Room; constructor <;> ((try simp) <;> omega)⟩); conv => whnf) | ((with_reducible refine XIx.nat ?_ ?_ ?_); omega; (intro _; rfl); conv => whnf) | ((with_reducible refine XIx.map ?_ ?_ ?_ ?_); omega; omega; (intro _; rfl); conv => whnf) | (with_reducible apply XAnd.mk) | ((with_reducible apply Chk.go); conv => whnf) | ((with_reducible apply ChkA.go); conv => whnf) | ((with_reducible apply ChkF.go); conv => whnf) | ((with_reducible apply ChkB.go); conv => whnf) | (exact XSame.mk rfl rfl) | (exact XSame.mk (by first | rfl | (simp only [List.map_append, List.length_append, List.length_map]; done) | (simp only [List.map_append, List.length_append, List.length_map]; rfl)) (by first | rfl | (simp only [List.map_append]; done) | (simp only [List.map_append]; rfl))) | (with_reducible exact trivial) | ((with_reducible refine xdrop_app (by rw [List.length_map]; omega) ?_); conv => whnf) | ((with_reducible refine XDrop.desk (by assumption) ?_); conv => whnf) | ((with_reducible refine XArr.ints (by omega) (by omega) (by omega) ?_); conv => whnf) | ((with_reducible refine XArr.intsA (by omega) (by omega) (by omega) ?_); conv => whnf) | ((with_reducible refine XArr.nats ?_ ?_ ?_); omega; omega; conv => whnf) | ((with_reducible refine XArr.natsA ?_ ?_ ?_); omega; omega; conv => whnf) | ((with_reducible apply XArr.pim0); conv => whnf) | ((with_reducible apply XArr.pim1); conv => whnf) | ((with_reducible refine XArr.ptr ?_ ?_ ?_); omega; omega; conv => whnf) | ((with_reducible apply XBr.mk') <;> (intro h; conv => whnf))
    exact ⟨Froz.low (ldL (ownL l))⟩
end GA
end

section
namespace GA
open Go Go.RowKit Go.Proofs
set_option pp.deepTerms true
set_option maxRecDepth 8000
set_option linter.unusedVariables false
set_option linter.unusedSimpArgs false

def wsK (l : Ld) (k : Nat) : List Int := (l.sacks.take k).map (weightR l)
theorem wsK_next (l : Ld) {k : Nat} (h : k < l.sacks.length) : wsK l (k + 1) = wsK l k ++ [weightR l (l.sacks.getD k default)] := by
  unfold wsK; rw [take_next h, List.map_append]; rfl
theorem wsK_len (l : Ld) {k : Nat} (h : k ≤ l.sacks.length) : (wsK l k).length = k := by
  unfold wsK; rw [List.length_map, List.length_take]; omega
theorem wsK_all (l : Ld) {k : Nat} (h : k = l.sacks.length) : wsK l k = l.sacks.map (weightR l) := by
  subst h; unfold wsK; rw [List.take_length]
def weightsA (l : Ld) : AV := if checkR l = 0 then .tup [slA (l.sacks.map (weightR l)), .int .i64 0] else .tup [.sl true [], .int .i64 (checkR l)]
theorem weights_c (l : Ld) (o : LdW l) : Comp Try.prog 21 [ldA l] (weightsA l) := by
  refine Comp.body (T := tab) (res := [.tmp 2, .tmp 3]) tab_ok [] Try.func21 rfl (by kernel_rfl) Try.ntmps21 rfl (by simp only [List.length_cons, List.length_nil]; decide) (by simp only [lowL, AV.low, ldL]; rfl) ?_; conv => whnf
  refine XCall.ret (check_c l o.w o.h1 o.h2 o.h3) ?_
  conv => whnf
  unfold weightsA
  repeat' first | ((with_reducible apply XBr.tt); conv => whnf) | ((with_reducible apply XBr.ff); conv => whnf) | (with_reducible apply XBr.not) | ((with_reducible apply XBr.dec) <;> (intro h; first | (exfalso; omega) | ((try simp only [List.length_map] at h); first | (exfalso; omega) | (conv => whnf)))) | ((with_reducible apply XBr.beq) <;> (intro h; first | (exfalso; omega) | (conv => whnf))) | ((with_reducible apply XBr.bne) <;> (intro h; first | (exfalso; omega) | (conv => whnf))) | ((with_reducible refine XInt.i64 (by omega) (by omega) ?_); conv => whnf) | ((with_reducible refine XHold.mk ?_ ?_); (first | omega | rfl | decide | exact ⟨rfl, by decide, rfl⟩ | exact wideI _ | exact widePr _ | exact wideSk _ | (unfold Room; constructor <;> ((try simp) <;> omega)) | exact ⟨rfl, by simp only [List.length_map], by unfold Room; constructor <;> ((try simp) <;> omega)⟩ | exact ⟨by omega, by omega, by unfold Room; constructor <;> ((try simp) <;> omega)⟩); conv => whnf) | ((with_reducible refine XIx.nat ?_ ?_ ?_); omega; (intro _; rfl); conv => whnf) | ((with_reducible refine XIx.map ?_ ?_ ?_ ?_); omega; omega; (intro _; rfl); conv => whnf) | (with_reducible apply XAnd.mk) | ((with_reducible apply Chk.go); conv => whnf) | ((with_reducible apply ChkA.go); conv => whnf) | ((with_reducible apply ChkF.go); conv => whnf) | ((with_reducible apply ChkB.go); conv => whnf) | (exact XSame.mk rfl rfl) | (exact XSame.mk (by first | rfl | (simp only [List.map_append, List.length_append, List.length_map]; done) | (simp only [List.map_append, List.length_append, List.length_map]; rfl)) (by first | rfl | (simp only [List.map_append]; done) | (simp only [List.map_append]; rfl))) | (with_reducible exact trivial) | ((with_reducible refine xdrop_app (by rw [List.length_map]; omega) ?_); conv => whnf) | ((with_reducible refine XDrop.desk (by assumption) ?_); conv => whnf) | ((with_reducible refine XArr.ints (by omega) (by omega) (by omega) ?_); conv => whnf) | ((with_reducible refine XArr.intsA (by omega) (by omega) (by omega) ?_); conv => whnf) | ((with_reducible refine XArr.nats ?_ ?_ ?_); omega; omega; conv => whnf) | ((with_reducible refine XArr.natsA ?_ ?_ ?_); omega; omega; conv => whnf) | ((with_reducible apply XArr.pim0); conv => whnf) | ((with_reducible apply XArr.pim1); conv => whnf) | ((with_reducible refine XArr.ptr ?_ ?_ ?_); omega; omega; conv => whnf) | ((with_reducible apply XBr.mk') <;> (intro h; conv => whnf))
  · rw [if_neg (by assumption)]; exact ⟨Froz.low rfl⟩
  · have h1 : checkR l = 0 := by omega
    have ok := (checkR_ok l).1 h1
    have hn := ok.n
    rw [if_pos h1]
    refine Walk.nilgr 5 3 rfl ?_
    refine Walk.loopG tab_ok [] (fun k : Nat => k ≤ l.sacks.length) (fun k => [(1, .pim (ldC l)), (2, .sl true []), (3, .int .i64 0), (14, .sl l.nls (l.sacks.map skA)), (15, natA l.sacks.length), (5, .gr 0 (wsK l k).length), (16, natA k)])
      (fun k => [.grow 3 (wsK l k).isEmpty (ints (wsK l k))]) (fun k => l.sacks.length - k) 0 (Nat.zero_le _) rfl ⟨rfl, rfl, rfl, rfl, congrArg (fun n : Nat => some (AV.int .i64 n)) (by rw [List.length_map]), rfl, rfl, trivial⟩ ?_ ?_ ?_
    · intro k _
      constructor
      · intro x hx; simp only [List.mem_cons, List.not_mem_nil, or_false] at hx; subst hx; exact lowI _
      · intro p hp; simp only [List.mem_cons, List.not_mem_nil, or_false] at hp; rcases hp with rfl | rfl | rfl | rfl | rfl | rfl | rfl <;> first | exact lowLd _ | exact lowSk _ | rfl
    · intro k _; exact Nat.le_refl _
    intro k hk
    have hl := wsK_len l hk
    have hnx := fun h => wsK_next l (k := k) h
    have hall := fun h => wsK_all l (k := k) h
    generalize wsK l k = ws at hl hnx hall
    have hsk : k < l.sacks.length → l.sacks.getD k default ∈ l.sacks := fun h => getD_mem h
    conv => whnf
    repeat' first | ((with_reducible apply XBr.tt); conv => whnf) | ((with_reducible apply XBr.ff); conv => whnf) | (with_reducible apply XBr.not) | ((with_reducible apply XBr.dec) <;> (intro h; first | (exfalso; omega) | ((try simp only [List.length_map] at h); first | (exfalso; omega) | (conv => whnf)))) | ((with_reducible apply XBr.beq) <;> (intro h; first | (exfalso; omega) | (conv => whnf))) | ((with_reducible apply XBr.bne) <;> (intro h; first | (exfalso; omega) | (conv => whnf))) | ((with_reducible refine XInt.i64 (by omega) (by omega) ?_); conv => whnf) | ((with_reducible refine XHold.mk ?_ ?_); (first | omega | rfl | decide | exact ⟨rfl, by decide, rfl⟩ | exact wideI _ | exact widePr _ | exact wideSk _ | (unfold Room; constructor <;> ((try simp) <;> omega)) | exact ⟨rfl, by simp only [List.length_map], by unfold Room; constructor <;> ((try simp) <;> omega)⟩ | exact ⟨by omega, by omega, by unfold Room; constructor <;> ((try simp) <;> omega)⟩); conv => whnf) | ((with_reducible refine XIx.nat ?_ ?_ ?_); omega; (intro _; rfl); conv => whnf) | ((with_reducible refine XIx.map ?_ ?_ ?_ ?_); omega; omega; (intro _; rfl); conv => whnf) | (with_reducible apply XAnd.mk) | ((with_reducible apply Chk.go); conv => whnf) | ((with_reducible apply ChkA.go); conv => whnf) | ((with_reducible apply ChkF.go); conv => whnf) | ((with_reducible apply ChkB.go); conv => whnf) | (exact XSame.mk rfl rfl) | (exact XSame.mk (by first | rfl | (simp only [List.map_append, List.length_append, List.length_map]; done) | (simp only [List.map_append, List.length_append, List.length_map]; rfl)) (by first | rfl | (simp only [List.map_append]; done) | (simp only [List.map_append]; rfl))) | (with_reducible exact trivial) | ((with_reducible refine xdrop_app (by rw [List.length_map]; omega) ?_); conv => whnf) | ((with_reducible refine XDrop.desk (by assumption) ?_); conv => whnf) | ((with_reducible refine XArr.ints (by omega) (by omega) (by omega) ?_); conv => whnf) | ((with_reducible refine XArr.intsA (by omega) (by omega) (by omega) ?_); conv => whnf) | ((with_reducible refine XArr.nats ?_ ?_ ?_); omega; omega; conv => whnf) | ((with_reducible refine XArr.natsA ?_ ?_ ?_); omega; omega; conv => whnf) | ((with_reducible apply XArr.pim0); conv => whnf) | ((with_reducible apply XArr.pim1); conv => whnf) | ((with_reducible refine XArr.ptr ?_ ?_ ?_); omega; omega; conv => whnf) | ((with_reducible apply XBr.mk') <;> (intro h; conv => whnf))
    · have hs := ok.sk _ (hsk (by omega))
      have s1 := ok.s1
      have s2 := ok.s2
      have hwt := wt_le ok (hsk (by omega))
      repeat' first | ((with_reducible apply XBr.tt); conv => whnf) | ((with_reducible apply XBr.ff); conv => whnf) | (with_reducible apply XBr.not) | ((with_reducible apply XBr.dec) <;> (intro h; first | (exfalso; omega) | ((try simp only [List.length_map] at h); first | (exfalso; omega) | (conv => whnf)))) | ((with_reducible apply XBr.beq) <;> (intro h; first | (exfalso; omega) | (conv => whnf))) | ((with_reducible apply XBr.bne) <;> (intro h; first | (exfalso; omega) | (conv => whnf))) | ((with_reducible refine XInt.i64 (by omega) (by omega) ?_); conv => whnf) | ((with_reducible refine XHold.mk ?_ ?_); (first | omega | rfl | decide | exact ⟨rfl, by decide, rfl⟩ | exact wideI _ | exact widePr _ | exact wideSk _ | (unfold Room; constructor <;> ((try simp) <;> omega)) | exact ⟨rfl, by simp only [List.length_map], by unfold Room; constructor <;> ((try simp) <;> omega)⟩ | exact ⟨by omega, by omega, by unfold Room; constructor <;> ((try simp) <;> omega)⟩); conv => whnf) | ((with_reducible refine XIx.nat ?_ ?_ ?_); omega; (intro _; rfl); conv => whnf) | ((with_reducible refine XIx.map ?_ ?_ ?_ ?_); omega; omega; (intro _; rfl); conv => whnf) | (with_reducible apply XAnd.mk) | ((with_reducible apply Chk.go); conv => whnf) | ((with_reducible apply ChkA.go); conv => whnf) | ((with_reducible apply ChkF.go); conv => whnf) | ((with_reducible apply ChkB.go); conv => whnf) | (exact XSame.mk rfl rfl) | (exact XSame.mk (by first | rfl | (simp only [List.map_append, List.length_append, List.length_map]; done) | (simp only [List.map_append, List.length_append, List.length_map]; rfl)) (by first | rfl | (simp only [List.map_append]; done) | (simp only [List.map_append]; rfl))) | (with_reducible exact trivial) | ((with_reducible refine xdrop_app (by rw [List.length_map]; omega) ?_); conv => whnf) | ((with_reducible refine XDrop.desk (by assumption) ?_); conv => whnf) | ((with_reducible refine XArr.ints (by omega) (by omega) (by omega) ?_); conv => whnf) | ((with_reducible refine XArr.intsA (by omega) (by omega) (by omega) ?_); conv => whnf) | ((with_reducible refine XArr.nats ?_ ?_ ?_); omega; omega; conv => whnf) | ((with_reducible refine XArr.natsA ?_ ?_ ?_); omega; omega; conv => whnf) | ((with_reducible apply XArr.pim0); conv => whnf) | ((with_reducible apply XArr.pim1); conv => whnf) | ((with_reducible refine XArr.ptr ?_ ?_ ?_); omega; omega; conv => whnf) | ((refine XCall.ret (weight_c l (l.sacks.getD k default) (by omega) (by omega) s1 (by omega)) ?_); conv => whnf) | ((with_reducible apply XBr.mk') <;> (intro h; conv => whnf))
      refine XAgainG.go (k + 1) [.cells [.int .i64 (l.sacks.getD k default).m, .int .i64 (l.sacks.getD k default).o]] (by omega) (by omega) ?_ ⟨rfl, rfl, rfl, rfl, rfl, ?_, rfl, trivial⟩
      · rw [hnx (by omega)]; simp only [List.map_append, isEmpty_app]; rfl
      · rw [hnx (by omega)]; simp only [List.length_append]; rfl
    · rw [hall (by omega)]
      exact ⟨Froz.tup (.cons (by unfold slA; exact Froz.grow rfl (by rw [List.length_map]) (lowI _)) (.cons (Froz.low rfl) .nil))⟩
end GA
end

section
namespace GA
open Go Go.RowKit Go.Proofs
set_option pp.deepTerms true
set_option maxRecDepth 8000
set_option linter.unusedVariables false
set_option linter.unusedSimpArgs false

/-- A load as the reference has it. -/
def thL (l : Ld) : Ld := ⟨l.bears, l.shrink, l.sacks.isEmpty, l.sacks, l.nla, l.apart, l.nlw, l.wth⟩
theorem theirs_c (l : Ld) (o : LdW l) : Comp Try.prog 39 [ldA l] (ldA (thL l)) := by
  have h1 := o.h1
  refine Comp.body (T := tab) (res := [.cell 2 69]) tab_ok [2, 3] Try.func39 rfl (by kernel_rfl) Try.ntmps39 rfl (by simp only [List.length_cons, List.length_nil]; decide) (by simp only [lowL, AV.low, ldL]; rfl) ?_; conv => whnf
  repeat' first | ((with_reducible apply XBr.tt); conv => whnf) | ((with_reducible apply XBr.ff); conv => whnf) | (with_reducible apply XBr.not) | ((with_reducible apply XBr.dec) <;> (intro h; first | (exfalso; omega) | ((try simp only [List.length_map] at h); first | (exfalso; omega) | (conv => whnf)))) | ((with_reducible apply XBr.beq) <;> (intro h; first | (exfalso; omega) | (conv => whnf))) | ((with_reducible apply XBr.bne) <;> (intro h; first | (exfalso; omega) | (conv => whnf))) | ((with_reducible refine XInt.i64 (by omega) (by omega) ?_); conv => whnf) | ((with_reducible refine XHold.mk ?_ ?_); (first | omega | rfl | decide | exact ⟨rfl, by decide, rfl⟩ | exact wideI _ | exact widePr _ | exact wideSk _ | (unfold Room; constructor <;> ((try simp) <;> omega)) | exact ⟨rfl, by simp only [List.length_map], by unfold Room; constructor <;> ((try simp) <;> omega)⟩ | exact ⟨by omega, by omega, by unfold Room; constructor <;> ((try simp) <;> omega)⟩); conv => whnf) | ((with_reducible refine XIx.nat ?_ ?_ ?_); omega; (intro _; rfl); conv => whnf) | ((with_reducible refine XIx.map ?_ ?_ ?_ ?_); omega; omega; (intro _; rfl); conv => whnf) | (with_reducible apply XAnd.mk) | ((with_reducible apply Chk.go); conv => whnf) | ((with_reducible apply ChkA.go); conv => whnf) | ((with_reducible apply ChkF.go); conv => whnf) | ((with_reducible apply ChkB.go); conv => whnf) | (exact XSame.mk rfl rfl) | (exact XSame.mk (by first | rfl | (simp only [List.map_append, List.length_append, List.length_map]; done) | (simp only [List.map_append, List.length_append, List.length_map]; rfl)) (by first | rfl | (simp only [List.map_append]; done) | (simp only [List.map_append]; rfl))) | (with_reducible exact trivial) | ((with_reducible refine xdrop_app (by rw [List.length_map]; omega) ?_); conv => whnf) | ((with_reducible refine XDrop.desk (by assumption) ?_); conv => whnf) | ((with_reducible refine XArr.ints (by omega) (by omega) (by omega) ?_); conv => whnf) | ((with_reducible refine XArr.intsA (by omega) (by omega) (by omega) ?_); conv => whnf) | ((with_reducible refine XArr.nats ?_ ?_ ?_); omega; omega; conv => whnf) | ((with_reducible refine XArr.natsA ?_ ?_ ?_); omega; omega; conv => whnf) | ((with_reducible apply XArr.pim0); conv => whnf) | ((with_reducible apply XArr.pim1); conv => whnf) | ((with_reducible refine XArr.ptr ?_ ?_ ?_); omega; omega; conv => whnf) | ((with_reducible apply XBr.mk') <;> (intro h; conv => whnf))
  refine Walk.nilcell 1 2 152 rfl rfl ?_
  refine Walk.loopG tab_ok [] (fun k : Nat => k ≤ l.sacks.length) (fun k => [(2, .ptr 0 0), (3, .ptr 1 0), (16, .sl l.nls (l.sacks.map skA)), (17, natA l.sacks.length), (18, natA k)])
    (fun k => [.cells [.int .i64 0, .int .i64 0, .sl true [], .sl true [], .sl true []], .cells [.int .i64 l.bears, .int .i64 l.shrink, .gr 2 k, .sl l.nla (l.apart.map prA), .sl l.nlw (l.wth.map prA)], .grow 152 (l.sacks.take k).isEmpty ((l.sacks.take k).map skA)])
    (fun k => l.sacks.length - k) 0 (Nat.zero_le _) rfl ⟨rfl, rfl, rfl, congrArg (fun n : Nat => some (AV.int .i64 n)) (by rw [List.length_map]), rfl, trivial⟩ ?_ ?_ ?_
  · intro k _
    constructor
    · intro x hx; simp only [List.mem_cons, List.not_mem_nil, or_false] at hx
      rcases hx with rfl | rfl | rfl <;> first | exact lowSk _ | (simp only [Blk.low, lowL, AV.low, lowPr]; rfl)
    · intro p hp; simp only [List.mem_cons, List.not_mem_nil, or_false] at hp; rcases hp with rfl | rfl | rfl | rfl | rfl <;> first | exact lowSk _ | rfl
  · intro k _; exact Nat.le_refl _
  intro k hk
  have hl : (l.sacks.take k).length = k := by rw [List.length_take]; omega
  have hnx := fun h => take_next (xs := l.sacks) (i := k) h
  have hall : k = l.sacks.length → l.sacks.take k = l.sacks := fun h => by rw [h, List.take_length]
  generalize l.sacks.take k = ss at hl hnx hall
  conv => whnf
  repeat' first | ((with_reducible apply XBr.tt); conv => whnf) | ((with_reducible apply XBr.ff); conv => whnf) | (with_reducible apply XBr.not) | ((with_reducible apply XBr.dec) <;> (intro h; first | (exfalso; omega) | ((try simp only [List.length_map] at h); first | (exfalso; omega) | (conv => whnf)))) | ((with_reducible apply XBr.beq) <;> (intro h; first | (exfalso; omega) | (conv => whnf))) | ((with_reducible apply XBr.bne) <;> (intro h; first | (exfalso; omega) | (conv => whnf))) | ((with_reducible refine XInt.i64 (by omega) (by omega) ?_); conv => whnf) | ((with_reducible refine XHold.mk ?_ ?_); (first | omega | rfl | decide | exact ⟨rfl, by decide, rfl⟩ | exact wideI _ | exact widePr _ | exact wideSk _ | (unfold Room; constructor <;> ((try simp) <;> omega)) | exact ⟨rfl, by simp only [List.length_map], by unfold Room; constructor <;> ((try simp) <;> omega)⟩ | exact ⟨by omega, by omega, by unfold Room; constructor <;> ((try simp) <;> omega)⟩); conv => whnf) | ((with_reducible refine XIx.nat ?_ ?_ ?_); omega; (intro _; rfl); conv => whnf) | ((with_reducible refine XIx.map ?_ ?_ ?_ ?_); omega; omega; (intro _; rfl); conv => whnf) | (with_reducible apply XAnd.mk) | ((with_reducible apply Chk.go); conv => whnf) | ((with_reducible apply ChkA.go); conv => whnf) | ((with_reducible apply ChkF.go); conv => whnf) | ((with_reducible apply ChkB.go); conv => whnf) | (exact XSame.mk rfl rfl) | (exact XSame.mk (by first | rfl | (simp only [List.map_append, List.length_append, List.length_map]; done) | (simp only [List.map_append, List.length_append, List.length_map]; rfl)) (by first | rfl | (simp only [List.map_append]; done) | (simp only [List.map_append]; rfl))) | (with_reducible exact trivial) | ((with_reducible refine xdrop_app (by rw [List.length_map]; omega) ?_); conv => whnf) | ((with_reducible refine XDrop.desk (by assumption) ?_); conv => whnf) | ((with_reducible refine XArr.ints (by omega) (by omega) (by omega) ?_); conv => whnf) | ((with_reducible refine XArr.intsA (by omega) (by omega) (by omega) ?_); conv => whnf) | ((with_reducible refine XArr.nats ?_ ?_ ?_); omega; omega; conv => whnf) | ((with_reducible refine XArr.natsA ?_ ?_ ?_); omega; omega; conv => whnf) | ((with_reducible apply XArr.pim0); conv => whnf) | ((with_reducible apply XArr.pim1); conv => whnf) | ((with_reducible refine XArr.ptr ?_ ?_ ?_); omega; omega; conv => whnf) | ((refine XHold.mk ⟨rfl, by rw [List.length_map]; omega, by unfold Room; constructor <;> ((try simp) <;> omega)⟩ ?_); conv => whnf) | ((with_reducible apply XBr.mk') <;> (intro h; conv => whnf))
  · refine XAgainG.go (k + 1) [.cells [.int .i64 (l.sacks.getD k default).m, .int .i64 (l.sacks.getD k default).o]] (by omega) (by omega) ?_ ⟨rfl, rfl, rfl, rfl, rfl, trivial⟩
    rw [hnx (by omega)]; simp only [List.map_append, isEmpty_app]; rfl
  · have e := hall (by omega)
    subst e
    obtain rfl : k = l.sacks.length := by omega
    exact ⟨Froz.agg (rs' := ldC (thL l)) (by intro x hx; simp only [ldC, List.mem_cons, List.not_mem_nil, or_false] at hx; rcases hx with rfl | rfl | rfl | rfl | rfl <;> rfl) (.cons (Froz.low rfl) (.cons (Froz.low rfl) (.cons (Froz.grow (i := 2) (n := l.sacks.length) (els := l.sacks.map skA) rfl (by rw [List.length_map]) (lowSk _)) (.cons (Froz.low (lowPr _)) (.cons (Froz.low (lowPr _)) .nil)))))⟩

theorem equal_sk (n1 n2 : Bool) (xs : List (Sk)) (hx : xs.length ≤ 100000) : Comp Try.prog 140 [.sl n1 (xs.map skA), .sl n2 (xs.map skA)] (.bool true) := by
  refine Comp.body (T := tab) (res := [.tmp 4]) tab_ok [] Try.func140 rfl (by kernel_rfl) Try.ntmps140 rfl (by simp only [List.length_cons, List.length_nil]; decide) (by simp only [lowL, AV.low, lowSk]; rfl) ?_; conv => whnf
  repeat' first | ((with_reducible apply XBr.tt); conv => whnf) | ((with_reducible apply XBr.ff); conv => whnf) | (with_reducible apply XBr.not) | ((with_reducible apply XBr.dec) <;> (intro h; first | (exfalso; omega) | ((try simp only [List.length_map] at h); first | (exfalso; omega) | (conv => whnf)))) | ((with_reducible apply XBr.beq) <;> (intro h; first | (exfalso; omega) | (conv => whnf))) | ((with_reducible apply XBr.bne) <;> (intro h; first | (exfalso; omega) | (conv => whnf))) | ((with_reducible refine XInt.i64 (by omega) (by omega) ?_); conv => whnf) | ((with_reducible refine XHold.mk ?_ ?_); (first | omega | rfl | decide | exact ⟨rfl, by decide, rfl⟩ | exact wideI _ | exact widePr _ | exact wideSk _ | (unfold Room; constructor <;> ((try simp) <;> omega)) | exact ⟨rfl, by simp only [List.length_map], by unfold Room; constructor <;> ((try simp) <;> omega)⟩ | exact ⟨by omega, by omega, by unfold Room; constructor <;> ((try simp) <;> omega)⟩); conv => whnf) | ((with_reducible refine XIx.nat ?_ ?_ ?_); omega; (intro _; rfl); conv => whnf) | ((with_reducible refine XIx.map ?_ ?_ ?_ ?_); omega; omega; (intro _; rfl); conv => whnf) | (with_reducible apply XAnd.mk) | ((with_reducible apply Chk.go); conv => whnf) | ((with_reducible apply ChkA.go); conv => whnf) | ((with_reducible apply ChkF.go); conv => whnf) | ((with_reducible apply ChkB.go); conv => whnf) | (exact XSame.mk rfl rfl) | (exact XSame.mk (by first | rfl | (simp only [List.map_append, List.length_append, List.length_map]; done) | (simp only [List.map_append, List.length_append, List.length_map]; rfl)) (by first | rfl | (simp only [List.map_append]; done) | (simp only [List.map_append]; rfl))) | (with_reducible exact trivial) | ((with_reducible refine xdrop_app (by rw [List.length_map]; omega) ?_); conv => whnf) | ((with_reducible refine XDrop.desk (by assumption) ?_); conv => whnf) | ((with_reducible refine XArr.ints (by omega) (by omega) (by omega) ?_); conv => whnf) | ((with_reducible refine XArr.intsA (by omega) (by omega) (by omega) ?_); conv => whnf) | ((with_reducible refine XArr.nats ?_ ?_ ?_); omega; omega; conv => whnf) | ((with_reducible refine XArr.natsA ?_ ?_ ?_); omega; omega; conv => whnf) | ((with_reducible apply XArr.pim0); conv => whnf) | ((with_reducible apply XArr.pim1); conv => whnf) | ((with_reducible refine XArr.ptr ?_ ?_ ?_); omega; omega; conv => whnf) | ((with_reducible apply XBr.mk') <;> (intro h; conv => whnf))
  refine Walk.loop tab_ok [] (fun i : Nat => i ≤ xs.length) (fun i => [(0, .sl n1 (xs.map skA)), (1, .sl n2 (xs.map skA)), (12, .int .i64 xs.length), (13, .int .i64 i)]) (fun _ => []) (fun i => xs.length - i) 0 (Nat.zero_le _) rfl ⟨rfl, rfl, by simp only [List.length_map]; rfl, rfl, trivial⟩ ?_
  intro i hi
  conv => whnf
  repeat' first | ((with_reducible apply XBr.tt); conv => whnf) | ((with_reducible apply XBr.ff); conv => whnf) | (with_reducible apply XBr.not) | ((with_reducible apply XBr.dec) <;> (intro h; first | (exfalso; omega) | ((try simp only [List.length_map] at h); first | (exfalso; omega) | (conv => whnf)))) | ((with_reducible apply XBr.beq) <;> (intro h; first | (exfalso; omega) | (conv => whnf))) | ((with_reducible apply XBr.bne) <;> (intro h; first | (exfalso; omega) | (conv => whnf))) | ((with_reducible refine XInt.i64 (by omega) (by omega) ?_); conv => whnf) | ((with_reducible refine XHold.mk ?_ ?_); (first | omega | rfl | decide | exact ⟨rfl, by decide, rfl⟩ | exact wideI _ | exact widePr _ | exact wideSk _ | (unfold Room; constructor <;> ((try simp) <;> omega)) | exact ⟨rfl, by simp only [List.length_map], by unfold Room; constructor <;> ((try simp) <;> omega)⟩ | exact ⟨by omega, by omega, by unfold Room; constructor <;> ((try simp) <;> omega)⟩); conv => whnf) | ((with_reducible refine XIx.nat ?_ ?_ ?_); omega; (intro _; rfl); conv => whnf) | ((with_reducible refine XIx.map ?_ ?_ ?_ ?_); omega; omega; (intro _; rfl); conv => whnf) | (with_reducible apply XAnd.mk) | ((with_reducible apply Chk.go); conv => whnf) | ((with_reducible apply ChkA.go); conv => whnf) | ((with_reducible apply ChkF.go); conv => whnf) | ((with_reducible apply ChkB.go); conv => whnf) | (exact XSame.mk rfl rfl) | (exact XSame.mk (by first | rfl | (simp only [List.map_append, List.length_append, List.length_map]; done) | (simp only [List.map_append, List.length_append, List.length_map]; rfl)) (by first | rfl | (simp only [List.map_append]; done) | (simp only [List.map_append]; rfl))) | (with_reducible exact trivial) | ((with_reducible refine xdrop_app (by rw [List.length_map]; omega) ?_); conv => whnf) | ((with_reducible refine XDrop.desk (by assumption) ?_); conv => whnf) | ((with_reducible refine XArr.ints (by omega) (by omega) (by omega) ?_); conv => whnf) | ((with_reducible refine XArr.intsA (by omega) (by omega) (by omega) ?_); conv => whnf) | ((with_reducible refine XArr.nats ?_ ?_ ?_); omega; omega; conv => whnf) | ((with_reducible refine XArr.natsA ?_ ?_ ?_); omega; omega; conv => whnf) | ((with_reducible apply XArr.pim0); conv => whnf) | ((with_reducible apply XArr.pim1); conv => whnf) | ((with_reducible refine XArr.ptr ?_ ?_ ?_); omega; omega; conv => whnf) | ((with_reducible apply XBr.mk') <;> (intro h; conv => whnf))
  · apply Walk.drawX tab_ok mixed_ok [] [] (hsK _) [_, _, _, _, _, _, _, _, .bool false] (by kernel_rfl) rfl
    · skip
      repeat' first | ((with_reducible apply XBr.tt); conv => whnf) | ((with_reducible apply XBr.ff); conv => whnf) | (with_reducible apply XBr.not) | ((with_reducible apply XBr.dec) <;> (intro h; first | (exfalso; omega) | ((try simp only [List.length_map] at h); first | (exfalso; omega) | (conv => whnf)))) | ((with_reducible apply XBr.beq) <;> (intro h; first | (exfalso; omega) | (conv => whnf))) | ((with_reducible apply XBr.bne) <;> (intro h; first | (exfalso; omega) | (conv => whnf))) | ((with_reducible refine XInt.i64 (by omega) (by omega) ?_); conv => whnf) | ((with_reducible refine XHold.mk ?_ ?_); (first | omega | rfl | decide | exact ⟨rfl, by decide, rfl⟩ | exact wideI _ | exact widePr _ | exact wideSk _ | (unfold Room; constructor <;> ((try simp) <;> omega)) | exact ⟨rfl, by simp only [List.length_map], by unfold Room; constructor <;> ((try simp) <;> omega)⟩ | exact ⟨by omega, by omega, by unfold Room; constructor <;> ((try simp) <;> omega)⟩); conv => whnf) | ((with_reducible refine XIx.nat ?_ ?_ ?_); omega; (intro _; rfl); conv => whnf) | ((with_reducible refine XIx.map ?_ ?_ ?_ ?_); omega; omega; (intro _; rfl); conv => whnf) | (with_reducible apply XAnd.mk) | ((with_reducible apply Chk.go); conv => whnf) | ((with_reducible apply ChkA.go); conv => whnf) | ((with_reducible apply ChkF.go); conv => whnf) | ((with_reducible apply ChkB.go); conv => whnf) | (exact XSame.mk rfl rfl) | (exact XSame.mk (by first | rfl | (simp only [List.map_append, List.length_append, List.length_map]; done) | (simp only [List.map_append, List.length_append, List.length_map]; rfl)) (by first | rfl | (simp only [List.map_append]; done) | (simp only [List.map_append]; rfl))) | (with_reducible exact trivial) | ((with_reducible refine xdrop_app (by rw [List.length_map]; omega) ?_); conv => whnf) | ((with_reducible refine XDrop.desk (by assumption) ?_); conv => whnf) | ((with_reducible refine XArr.ints (by omega) (by omega) (by omega) ?_); conv => whnf) | ((with_reducible refine XArr.intsA (by omega) (by omega) (by omega) ?_); conv => whnf) | ((with_reducible refine XArr.nats ?_ ?_ ?_); omega; omega; conv => whnf) | ((with_reducible refine XArr.natsA ?_ ?_ ?_); omega; omega; conv => whnf) | ((with_reducible apply XArr.pim0); conv => whnf) | ((with_reducible apply XArr.pim1); conv => whnf) | ((with_reducible refine XArr.ptr ?_ ?_ ?_); omega; omega; conv => whnf) | ((refine XEqA.mk ⟨[_, _], [_, _], rfl, rfl, rfl, rfl, ?_⟩); exact XSame.mk (congrArg AV.bool (by simp)) rfl) | ((with_reducible apply XBr.mk') <;> (intro h; conv => whnf))
    · skip
      repeat' first | ((with_reducible apply XBr.tt); conv => whnf) | ((with_reducible apply XBr.ff); conv => whnf) | (with_reducible apply XBr.not) | ((with_reducible apply XBr.dec) <;> (intro h; first | (exfalso; omega) | ((try simp only [List.length_map] at h); first | (exfalso; omega) | (conv => whnf)))) | ((with_reducible apply XBr.beq) <;> (intro h; first | (exfalso; omega) | (conv => whnf))) | ((with_reducible apply XBr.bne) <;> (intro h; first | (exfalso; omega) | (conv => whnf))) | ((with_reducible refine XInt.i64 (by omega) (by omega) ?_); conv => whnf) | ((with_reducible refine XHold.mk ?_ ?_); (first | omega | rfl | decide | exact ⟨rfl, by decide, rfl⟩ | exact wideI _ | exact widePr _ | exact wideSk _ | (unfold Room; constructor <;> ((try simp) <;> omega)) | exact ⟨rfl, by simp only [List.length_map], by unfold Room; constructor <;> ((try simp) <;> omega)⟩ | exact ⟨by omega, by omega, by unfold Room; constructor <;> ((try simp) <;> omega)⟩); conv => whnf) | ((with_reducible refine XIx.nat ?_ ?_ ?_); omega; (intro _; rfl); conv => whnf) | ((with_reducible refine XIx.map ?_ ?_ ?_ ?_); omega; omega; (intro _; rfl); conv => whnf) | (with_reducible apply XAnd.mk) | ((with_reducible apply Chk.go); conv => whnf) | ((with_reducible apply ChkA.go); conv => whnf) | ((with_reducible apply ChkF.go); conv => whnf) | ((with_reducible apply ChkB.go); conv => whnf) | (exact XSame.mk rfl rfl) | (exact XSame.mk (by first | rfl | (simp only [List.map_append, List.length_append, List.length_map]; done) | (simp only [List.map_append, List.length_append, List.length_map]; rfl)) (by first | rfl | (simp only [List.map_append]; done) | (simp only [List.map_append]; rfl))) | (with_reducible exact trivial) | ((with_reducible refine xdrop_app (by rw [List.length_map]; omega) ?_); conv => whnf) | ((with_reducible refine XDrop.desk (by assumption) ?_); conv => whnf) | ((with_reducible refine XArr.ints (by omega) (by omega) (by omega) ?_); conv => whnf) | ((with_reducible refine XArr.intsA (by omega) (by omega) (by omega) ?_); conv => whnf) | ((with_reducible refine XArr.nats ?_ ?_ ?_); omega; omega; conv => whnf) | ((with_reducible refine XArr.natsA ?_ ?_ ?_); omega; omega; conv => whnf) | ((with_reducible apply XArr.pim0); conv => whnf) | ((with_reducible apply XArr.pim1); conv => whnf) | ((with_reducible refine XArr.ptr ?_ ?_ ?_); omega; omega; conv => whnf) | ((refine XEqA.mk ⟨[_, _], [_, _], rfl, rfl, rfl, rfl, ?_⟩); exact XSame.mk (congrArg AV.bool (by simp)) rfl) | ((with_reducible apply XBr.mk') <;> (intro h; conv => whnf))
    · conv => whnf
      repeat' first | ((with_reducible apply XBr.tt); conv => whnf) | ((with_reducible apply XBr.ff); conv => whnf) | (with_reducible apply XBr.not) | ((with_reducible apply XBr.dec) <;> (intro h; first | (exfalso; omega) | ((try simp only [List.length_map] at h); first | (exfalso; omega) | (conv => whnf)))) | ((with_reducible apply XBr.beq) <;> (intro h; first | (exfalso; omega) | (conv => whnf))) | ((with_reducible apply XBr.bne) <;> (intro h; first | (exfalso; omega) | (conv => whnf))) | ((with_reducible refine XInt.i64 (by omega) (by omega) ?_); conv => whnf) | ((with_reducible refine XHold.mk ?_ ?_); (first | omega | rfl | decide | exact ⟨rfl, by decide, rfl⟩ | exact wideI _ | exact widePr _ | exact wideSk _ | (unfold Room; constructor <;> ((try simp) <;> omega)) | exact ⟨rfl, by simp only [List.length_map], by unfold Room; constructor <;> ((try simp) <;> omega)⟩ | exact ⟨by omega, by omega, by unfold Room; constructor <;> ((try simp) <;> omega)⟩); conv => whnf) | ((with_reducible refine XIx.nat ?_ ?_ ?_); omega; (intro _; rfl); conv => whnf) | ((with_reducible refine XIx.map ?_ ?_ ?_ ?_); omega; omega; (intro _; rfl); conv => whnf) | (with_reducible apply XAnd.mk) | ((with_reducible apply Chk.go); conv => whnf) | ((with_reducible apply ChkA.go); conv => whnf) | ((with_reducible apply ChkF.go); conv => whnf) | ((with_reducible apply ChkB.go); conv => whnf) | (exact XSame.mk rfl rfl) | (exact XSame.mk (by first | rfl | (simp only [List.map_append, List.length_append, List.length_map]; done) | (simp only [List.map_append, List.length_append, List.length_map]; rfl)) (by first | rfl | (simp only [List.map_append]; done) | (simp only [List.map_append]; rfl))) | (with_reducible exact trivial) | ((with_reducible refine xdrop_app (by rw [List.length_map]; omega) ?_); conv => whnf) | ((with_reducible refine XDrop.desk (by assumption) ?_); conv => whnf) | ((with_reducible refine XArr.ints (by omega) (by omega) (by omega) ?_); conv => whnf) | ((with_reducible refine XArr.intsA (by omega) (by omega) (by omega) ?_); conv => whnf) | ((with_reducible refine XArr.nats ?_ ?_ ?_); omega; omega; conv => whnf) | ((with_reducible refine XArr.natsA ?_ ?_ ?_); omega; omega; conv => whnf) | ((with_reducible apply XArr.pim0); conv => whnf) | ((with_reducible apply XArr.pim1); conv => whnf) | ((with_reducible refine XArr.ptr ?_ ?_ ?_); omega; omega; conv => whnf) | ((with_reducible apply XBr.mk') <;> (intro h; conv => whnf))
      exact XAgain.go (i + 1) (by omega) (by omega) rfl ⟨rfl, rfl, rfl, rfl, trivial⟩
  · exact XOut.bool rfl
theorem eq_sk (n1 n2 : Bool) (xs : List (Sk)) (hx : xs.length ≤ 100000) : Comp Try.prog 102 [.sl n1 (xs.map skA), .sl n2 (xs.map skA)] (.bool true) := by
  refine Comp.body (T := tab) (res := [.tmp 4]) tab_ok [] Try.func102 rfl (by kernel_rfl) Try.ntmps102 rfl (by simp only [List.length_cons, List.length_nil]; decide) (by simp only [lowL, AV.low, lowSk]; rfl) ?_; conv => whnf
  repeat' first | ((with_reducible apply XBr.tt); conv => whnf) | ((with_reducible apply XBr.ff); conv => whnf) | (with_reducible apply XBr.not) | ((with_reducible apply XBr.dec) <;> (intro h; first | (exfalso; omega) | ((try simp only [List.length_map] at h); first | (exfalso; omega) | (conv => whnf)))) | ((with_reducible apply XBr.beq) <;> (intro h; first | (exfalso; omega) | (conv => whnf))) | ((with_reducible apply XBr.bne) <;> (intro h; first | (exfalso; omega) | (conv => whnf))) | ((with_reducible refine XInt.i64 (by omega) (by omega) ?_); conv => whnf) | ((with_reducible refine XHold.mk ?_ ?_); (first | omega | rfl | decide | exact ⟨rfl, by decide, rfl⟩ | exact wideI _ | exact widePr _ | exact wideSk _ | (unfold Room; constructor <;> ((try simp) <;> omega)) | exact ⟨rfl, by simp only [List.length_map], by unfold Room; constructor <;> ((try simp) <;> omega)⟩ | exact ⟨by omega, by omega, by unfold Room; constructor <;> ((try simp) <;> omega)⟩); conv => whnf) | ((with_reducible refine XIx.nat ?_ ?_ ?_); omega; (intro _; rfl); conv => whnf) | ((with_reducible refine XIx.map ?_ ?_ ?_ ?_); omega; omega; (intro _; rfl); conv => whnf) | (with_reducible apply XAnd.mk) | ((with_reducible apply Chk.go); conv => whnf) | ((with_reducible apply ChkA.go); conv => whnf) | ((with_reducible apply ChkF.go); conv => whnf) | ((with_reducible apply ChkB.go); conv => whnf) | (exact XSame.mk rfl rfl) | (exact XSame.mk (by first | rfl | (simp only [List.map_append, List.length_append, List.length_map]; done) | (simp only [List.map_append, List.length_append, List.length_map]; rfl)) (by first | rfl | (simp only [List.map_append]; done) | (simp only [List.map_append]; rfl))) | (with_reducible exact trivial) | ((with_reducible refine xdrop_app (by rw [List.length_map]; omega) ?_); conv => whnf) | ((with_reducible refine XDrop.desk (by assumption) ?_); conv => whnf) | ((with_reducible refine XArr.ints (by omega) (by omega) (by omega) ?_); conv => whnf) | ((with_reducible refine XArr.intsA (by omega) (by omega) (by omega) ?_); conv => whnf) | ((with_reducible refine XArr.nats ?_ ?_ ?_); omega; omega; conv => whnf) | ((with_reducible refine XArr.natsA ?_ ?_ ?_); omega; omega; conv => whnf) | ((with_reducible apply XArr.pim0); conv => whnf) | ((with_reducible apply XArr.pim1); conv => whnf) | ((with_reducible refine XArr.ptr ?_ ?_ ?_); omega; omega; conv => whnf) | ((refine XCall.ret (equal_sk n1 n2 xs hx) ?_); conv => whnf) | ((with_reducible apply XBr.mk') <;> (intro h; conv => whnf))
  exact XOut.bool rfl

theorem equal_pr (n1 n2 : Bool) (xs : List (Int × Int)) (hx : xs.length ≤ 100000) : Comp Try.prog 141 [.sl n1 (xs.map prA), .sl n2 (xs.map prA)] (.bool true) := by
  refine Comp.body (T := tab) (res := [.tmp 4]) tab_ok [] Try.func141 rfl (by kernel_rfl) Try.ntmps141 rfl (by simp only [List.length_cons, List.length_nil]; decide) (by simp only [lowL, AV.low, lowPr]; rfl) ?_; conv => whnf
  repeat' first | ((with_reducible apply XBr.tt); conv => whnf) | ((with_reducible apply XBr.ff); conv => whnf) | (with_reducible apply XBr.not) | ((with_reducible apply XBr.dec) <;> (intro h; first | (exfalso; omega) | ((try simp only [List.length_map] at h); first | (exfalso; omega) | (conv => whnf)))) | ((with_reducible apply XBr.beq) <;> (intro h; first | (exfalso; omega) | (conv => whnf))) | ((with_reducible apply XBr.bne) <;> (intro h; first | (exfalso; omega) | (conv => whnf))) | ((with_reducible refine XInt.i64 (by omega) (by omega) ?_); conv => whnf) | ((with_reducible refine XHold.mk ?_ ?_); (first | omega | rfl | decide | exact ⟨rfl, by decide, rfl⟩ | exact wideI _ | exact widePr _ | exact wideSk _ | (unfold Room; constructor <;> ((try simp) <;> omega)) | exact ⟨rfl, by simp only [List.length_map], by unfold Room; constructor <;> ((try simp) <;> omega)⟩ | exact ⟨by omega, by omega, by unfold Room; constructor <;> ((try simp) <;> omega)⟩); conv => whnf) | ((with_reducible refine XIx.nat ?_ ?_ ?_); omega; (intro _; rfl); conv => whnf) | ((with_reducible refine XIx.map ?_ ?_ ?_ ?_); omega; omega; (intro _; rfl); conv => whnf) | (with_reducible apply XAnd.mk) | ((with_reducible apply Chk.go); conv => whnf) | ((with_reducible apply ChkA.go); conv => whnf) | ((with_reducible apply ChkF.go); conv => whnf) | ((with_reducible apply ChkB.go); conv => whnf) | (exact XSame.mk rfl rfl) | (exact XSame.mk (by first | rfl | (simp only [List.map_append, List.length_append, List.length_map]; done) | (simp only [List.map_append, List.length_append, List.length_map]; rfl)) (by first | rfl | (simp only [List.map_append]; done) | (simp only [List.map_append]; rfl))) | (with_reducible exact trivial) | ((with_reducible refine xdrop_app (by rw [List.length_map]; omega) ?_); conv => whnf) | ((with_reducible refine XDrop.desk (by assumption) ?_); conv => whnf) | ((with_reducible refine XArr.ints (by omega) (by omega) (by omega) ?_); conv => whnf) | ((with_reducible refine XArr.intsA (by omega) (by omega) (by omega) ?_); conv => whnf) | ((with_reducible refine XArr.nats ?_ ?_ ?_); omega; omega; conv => whnf) | ((with_reducible refine XArr.natsA ?_ ?_ ?_); omega; omega; conv => whnf) | ((with_reducible apply XArr.pim0); conv => whnf) | ((with_reducible apply XArr.pim1); conv => whnf) | ((with_reducible refine XArr.ptr ?_ ?_ ?_); omega; omega; conv => whnf) | ((with_reducible apply XBr.mk') <;> (intro h; conv => whnf))
  refine Walk.loop tab_ok [] (fun i : Nat => i ≤ xs.length) (fun i => [(0, .sl n1 (xs.map prA)), (1, .sl n2 (xs.map prA)), (12, .int .i64 xs.length), (13, .int .i64 i)]) (fun _ => []) (fun i => xs.length - i) 0 (Nat.zero_le _) rfl ⟨rfl, rfl, by simp only [List.length_map]; rfl, rfl, trivial⟩ ?_
  intro i hi
  conv => whnf
  repeat' first | ((with_reducible apply XBr.tt); conv => whnf) | ((with_reducible apply XBr.ff); conv => whnf) | (with_reducible apply XBr.not) | ((with_reducible apply XBr.dec) <;> (intro h; first | (exfalso; omega) | ((try simp only [List.length_map] at h); first | (exfalso; omega) | (conv => whnf)))) | ((with_reducible apply XBr.beq) <;> (intro h; first | (exfalso; omega) | (conv => whnf))) | ((with_reducible apply XBr.bne) <;> (intro h; first | (exfalso; omega) | (conv => whnf))) | ((with_reducible refine XInt.i64 (by omega) (by omega) ?_); conv => whnf) | ((with_reducible refine XHold.mk ?_ ?_); (first | omega | rfl | decide | exact ⟨rfl, by decide, rfl⟩ | exact wideI _ | exact widePr _ | exact wideSk _ | (unfold Room; constructor <;> ((try simp) <;> omega)) | exact ⟨rfl, by simp only [List.length_map], by unfold Room; constructor <;> ((try simp) <;> omega)⟩ | exact ⟨by omega, by omega, by unfold Room; constructor <;> ((try simp) <;> omega)⟩); conv => whnf) | ((with_reducible refine XIx.nat ?_ ?_ ?_); omega; (intro _; rfl); conv => whnf) | ((with_reducible refine XIx.map ?_ ?_ ?_ ?_); omega; omega; (intro _; rfl); conv => whnf) | (with_reducible apply XAnd.mk) | ((with_reducible apply Chk.go); conv => whnf) | ((with_reducible apply ChkA.go); conv => whnf) | ((with_reducible apply ChkF.go); conv => whnf) | ((with_reducible apply ChkB.go); conv => whnf) | (exact XSame.mk rfl rfl) | (exact XSame.mk (by first | rfl | (simp only [List.map_append, List.length_append, List.length_map]; done) | (simp only [List.map_append, List.length_append, List.length_map]; rfl)) (by first | rfl | (simp only [List.map_append]; done) | (simp only [List.map_append]; rfl))) | (with_reducible exact trivial) | ((with_reducible refine xdrop_app (by rw [List.length_map]; omega) ?_); conv => whnf) | ((with_reducible refine XDrop.desk (by assumption) ?_); conv => whnf) | ((with_reducible refine XArr.ints (by omega) (by omega) (by omega) ?_); conv => whnf) | ((with_reducible refine XArr.intsA (by omega) (by omega) (by omega) ?_); conv => whnf) | ((with_reducible refine XArr.nats ?_ ?_ ?_); omega; omega; conv => whnf) | ((with_reducible refine XArr.natsA ?_ ?_ ?_); omega; omega; conv => whnf) | ((with_reducible apply XArr.pim0); conv => whnf) | ((with_reducible apply XArr.pim1); conv => whnf) | ((with_reducible refine XArr.ptr ?_ ?_ ?_); omega; omega; conv => whnf) | ((with_reducible apply XBr.mk') <;> (intro h; conv => whnf))
  · apply Walk.drawX tab_ok mixed_ok [] [] (hsK _) [_, _, _, _, _, _, _, _, .bool false] (by kernel_rfl) rfl
    · skip
      repeat' first | ((with_reducible apply XBr.tt); conv => whnf) | ((with_reducible apply XBr.ff); conv => whnf) | (with_reducible apply XBr.not) | ((with_reducible apply XBr.dec) <;> (intro h; first | (exfalso; omega) | ((try simp only [List.length_map] at h); first | (exfalso; omega) | (conv => whnf)))) | ((with_reducible apply XBr.beq) <;> (intro h; first | (exfalso; omega) | (conv => whnf))) | ((with_reducible apply XBr.bne) <;> (intro h; first | (exfalso; omega) | (conv => whnf))) | ((with_reducible refine XInt.i64 (by omega) (by omega) ?_); conv => whnf) | ((with_reducible refine XHold.mk ?_ ?_); (first | omega | rfl | decide | exact ⟨rfl, by decide, rfl⟩ | exact wideI _ | exact widePr _ | exact wideSk _ | (unfold Room; constructor <;> ((try simp) <;> omega)) | exact ⟨rfl, by simp only [List.length_map], by unfold Room; constructor <;> ((try simp) <;> omega)⟩ | exact ⟨by omega, by omega, by unfold Room; constructor <;> ((try simp) <;> omega)⟩); conv => whnf) | ((with_reducible refine XIx.nat ?_ ?_ ?_); omega; (intro _; rfl); conv => whnf) | ((with_reducible refine XIx.map ?_ ?_ ?_ ?_); omega; omega; (intro _; rfl); conv => whnf) | (with_reducible apply XAnd.mk) | ((with_reducible apply Chk.go); conv => whnf) | ((with_reducible apply ChkA.go); conv => whnf) | ((with_reducible apply ChkF.go); conv => whnf) | ((with_reducible apply ChkB.go); conv => whnf) | (exact XSame.mk rfl rfl) | (exact XSame.mk (by first | rfl | (simp only [List.map_append, List.length_append, List.length_map]; done) | (simp only [List.map_append, List.length_append, List.length_map]; rfl)) (by first | rfl | (simp only [List.map_append]; done) | (simp only [List.map_append]; rfl))) | (with_reducible exact trivial) | ((with_reducible refine xdrop_app (by rw [List.length_map]; omega) ?_); conv => whnf) | ((with_reducible refine XDrop.desk (by assumption) ?_); conv => whnf) | ((with_reducible refine XArr.ints (by omega) (by omega) (by omega) ?_); conv => whnf) | ((with_reducible refine XArr.intsA (by omega) (by omega) (by omega) ?_); conv => whnf) | ((with_reducible refine XArr.nats ?_ ?_ ?_); omega; omega; conv => whnf) | ((with_reducible refine XArr.natsA ?_ ?_ ?_); omega; omega; conv => whnf) | ((with_reducible apply XArr.pim0); conv => whnf) | ((with_reducible apply XArr.pim1); conv => whnf) | ((with_reducible refine XArr.ptr ?_ ?_ ?_); omega; omega; conv => whnf) | ((refine XEqA.mk ⟨[_, _], [_, _], rfl, rfl, rfl, rfl, ?_⟩); exact XSame.mk (congrArg AV.bool (by simp)) rfl) | ((with_reducible apply XBr.mk') <;> (intro h; conv => whnf))
    · skip
      repeat' first | ((with_reducible apply XBr.tt); conv => whnf) | ((with_reducible apply XBr.ff); conv => whnf) | (with_reducible apply XBr.not) | ((with_reducible apply XBr.dec) <;> (intro h; first | (exfalso; omega) | ((try simp only [List.length_map] at h); first | (exfalso; omega) | (conv => whnf)))) | ((with_reducible apply XBr.beq) <;> (intro h; first | (exfalso; omega) | (conv => whnf))) | ((with_reducible apply XBr.bne) <;> (intro h; first | (exfalso; omega) | (conv => whnf))) | ((with_reducible refine XInt.i64 (by omega) (by omega) ?_); conv => whnf) | ((with_reducible refine XHold.mk ?_ ?_); (first | omega | rfl | decide | exact ⟨rfl, by decide, rfl⟩ | exact wideI _ | exact widePr _ | exact wideSk _ | (unfold Room; constructor <;> ((try simp) <;> omega)) | exact ⟨rfl, by simp only [List.length_map], by unfold Room; constructor <;> ((try simp) <;> omega)⟩ | exact ⟨by omega, by omega, by unfold Room; constructor <;> ((try simp) <;> omega)⟩); conv => whnf) | ((with_reducible refine XIx.nat ?_ ?_ ?_); omega; (intro _; rfl); conv => whnf) | ((with_reducible refine XIx.map ?_ ?_ ?_ ?_); omega; omega; (intro _; rfl); conv => whnf) | (with_reducible apply XAnd.mk) | ((with_reducible apply Chk.go); conv => whnf) | ((with_reducible apply ChkA.go); conv => whnf) | ((with_reducible apply ChkF.go); conv => whnf) | ((with_reducible apply ChkB.go); conv => whnf) | (exact XSame.mk rfl rfl) | (exact XSame.mk (by first | rfl | (simp only [List.map_append, List.length_append, List.length_map]; done) | (simp only [List.map_append, List.length_append, List.length_map]; rfl)) (by first | rfl | (simp only [List.map_append]; done) | (simp only [List.map_append]; rfl))) | (with_reducible exact trivial) | ((with_reducible refine xdrop_app (by rw [List.length_map]; omega) ?_); conv => whnf) | ((with_reducible refine XDrop.desk (by assumption) ?_); conv => whnf) | ((with_reducible refine XArr.ints (by omega) (by omega) (by omega) ?_); conv => whnf) | ((with_reducible refine XArr.intsA (by omega) (by omega) (by omega) ?_); conv => whnf) | ((with_reducible refine XArr.nats ?_ ?_ ?_); omega; omega; conv => whnf) | ((with_reducible refine XArr.natsA ?_ ?_ ?_); omega; omega; conv => whnf) | ((with_reducible apply XArr.pim0); conv => whnf) | ((with_reducible apply XArr.pim1); conv => whnf) | ((with_reducible refine XArr.ptr ?_ ?_ ?_); omega; omega; conv => whnf) | ((refine XEqA.mk ⟨[_, _], [_, _], rfl, rfl, rfl, rfl, ?_⟩); exact XSame.mk (congrArg AV.bool (by simp)) rfl) | ((with_reducible apply XBr.mk') <;> (intro h; conv => whnf))
    · conv => whnf
      repeat' first | ((with_reducible apply XBr.tt); conv => whnf) | ((with_reducible apply XBr.ff); conv => whnf) | (with_reducible apply XBr.not) | ((with_reducible apply XBr.dec) <;> (intro h; first | (exfalso; omega) | ((try simp only [List.length_map] at h); first | (exfalso; omega) | (conv => whnf)))) | ((with_reducible apply XBr.beq) <;> (intro h; first | (exfalso; omega) | (conv => whnf))) | ((with_reducible apply XBr.bne) <;> (intro h; first | (exfalso; omega) | (conv => whnf))) | ((with_reducible refine XInt.i64 (by omega) (by omega) ?_); conv => whnf) | ((with_reducible refine XHold.mk ?_ ?_); (first | omega | rfl | decide | exact ⟨rfl, by decide, rfl⟩ | exact wideI _ | exact widePr _ | exact wideSk _ | (unfold Room; constructor <;> ((try simp) <;> omega)) | exact ⟨rfl, by simp only [List.length_map], by unfold Room; constructor <;> ((try simp) <;> omega)⟩ | exact ⟨by omega, by omega, by unfold Room; constructor <;> ((try simp) <;> omega)⟩); conv => whnf) | ((with_reducible refine XIx.nat ?_ ?_ ?_); omega; (intro _; rfl); conv => whnf) | ((with_reducible refine XIx.map ?_ ?_ ?_ ?_); omega; omega; (intro _; rfl); conv => whnf) | (with_reducible apply XAnd.mk) | ((with_reducible apply Chk.go); conv => whnf) | ((with_reducible apply ChkA.go); conv => whnf) | ((with_reducible apply ChkF.go); conv => whnf) | ((with_reducible apply ChkB.go); conv => whnf) | (exact XSame.mk rfl rfl) | (exact XSame.mk (by first | rfl | (simp only [List.map_append, List.length_append, List.length_map]; done) | (simp only [List.map_append, List.length_append, List.length_map]; rfl)) (by first | rfl | (simp only [List.map_append]; done) | (simp only [List.map_append]; rfl))) | (with_reducible exact trivial) | ((with_reducible refine xdrop_app (by rw [List.length_map]; omega) ?_); conv => whnf) | ((with_reducible refine XDrop.desk (by assumption) ?_); conv => whnf) | ((with_reducible refine XArr.ints (by omega) (by omega) (by omega) ?_); conv => whnf) | ((with_reducible refine XArr.intsA (by omega) (by omega) (by omega) ?_); conv => whnf) | ((with_reducible refine XArr.nats ?_ ?_ ?_); omega; omega; conv => whnf) | ((with_reducible refine XArr.natsA ?_ ?_ ?_); omega; omega; conv => whnf) | ((with_reducible apply XArr.pim0); conv => whnf) | ((with_reducible apply XArr.pim1); conv => whnf) | ((with_reducible refine XArr.ptr ?_ ?_ ?_); omega; omega; conv => whnf) | ((with_reducible apply XBr.mk') <;> (intro h; conv => whnf))
      exact XAgain.go (i + 1) (by omega) (by omega) rfl ⟨rfl, rfl, rfl, rfl, trivial⟩
  · exact XOut.bool rfl
theorem eq_pr (n1 n2 : Bool) (xs : List (Int × Int)) (hx : xs.length ≤ 100000) : Comp Try.prog 103 [.sl n1 (xs.map prA), .sl n2 (xs.map prA)] (.bool true) := by
  refine Comp.body (T := tab) (res := [.tmp 4]) tab_ok [] Try.func103 rfl (by kernel_rfl) Try.ntmps103 rfl (by simp only [List.length_cons, List.length_nil]; decide) (by simp only [lowL, AV.low, lowPr]; rfl) ?_; conv => whnf
  repeat' first | ((with_reducible apply XBr.tt); conv => whnf) | ((with_reducible apply XBr.ff); conv => whnf) | (with_reducible apply XBr.not) | ((with_reducible apply XBr.dec) <;> (intro h; first | (exfalso; omega) | ((try simp only [List.length_map] at h); first | (exfalso; omega) | (conv => whnf)))) | ((with_reducible apply XBr.beq) <;> (intro h; first | (exfalso; omega) | (conv => whnf))) | ((with_reducible apply XBr.bne) <;> (intro h; first | (exfalso; omega) | (conv => whnf))) | ((with_reducible refine XInt.i64 (by omega) (by omega) ?_); conv => whnf) | ((with_reducible refine XHold.mk ?_ ?_); (first | omega | rfl | decide | exact ⟨rfl, by decide, rfl⟩ | exact wideI _ | exact widePr _ | exact wideSk _ | (unfold Room; constructor <;> ((try simp) <;> omega)) | exact ⟨rfl, by simp only [List.length_map], by unfold Room; constructor <;> ((try simp) <;> omega)⟩ | exact ⟨by omega, by omega, by unfold Room; constructor <;> ((try simp) <;> omega)⟩); conv => whnf) | ((with_reducible refine XIx.nat ?_ ?_ ?_); omega; (intro _; rfl); conv => whnf) | ((with_reducible refine XIx.map ?_ ?_ ?_ ?_); omega; omega; (intro _; rfl); conv => whnf) | (with_reducible apply XAnd.mk) | ((with_reducible apply Chk.go); conv => whnf) | ((with_reducible apply ChkA.go); conv => whnf) | ((with_reducible apply ChkF.go); conv => whnf) | ((with_reducible apply ChkB.go); conv => whnf) | (exact XSame.mk rfl rfl) | (exact XSame.mk (by first | rfl | (simp only [List.map_append, List.length_append, List.length_map]; done) | (simp only [List.map_append, List.length_append, List.length_map]; rfl)) (by first | rfl | (simp only [List.map_append]; done) | (simp only [List.map_append]; rfl))) | (with_reducible exact trivial) | ((with_reducible refine xdrop_app (by rw [List.length_map]; omega) ?_); conv => whnf) | ((with_reducible refine XDrop.desk (by assumption) ?_); conv => whnf) | ((with_reducible refine XArr.ints (by omega) (by omega) (by omega) ?_); conv => whnf) | ((with_reducible refine XArr.intsA (by omega) (by omega) (by omega) ?_); conv => whnf) | ((with_reducible refine XArr.nats ?_ ?_ ?_); omega; omega; conv => whnf) | ((with_reducible refine XArr.natsA ?_ ?_ ?_); omega; omega; conv => whnf) | ((with_reducible apply XArr.pim0); conv => whnf) | ((with_reducible apply XArr.pim1); conv => whnf) | ((with_reducible refine XArr.ptr ?_ ?_ ?_); omega; omega; conv => whnf) | ((refine XCall.ret (equal_pr n1 n2 xs hx) ?_); conv => whnf) | ((with_reducible apply XBr.mk') <;> (intro h; conv => whnf))
  exact XOut.bool rfl

theorem same_c (l : Ld) (o : LdW l) : Comp Try.prog 45 [ldA (ownL l), ldA l] (.bool true) := by
  have h1 := o.h1
  have h2 := o.h2
  have h3 := o.h3
  refine Comp.body (T := tab) (res := [.tmp 4]) tab_ok [] Try.func45 rfl (by kernel_rfl) Try.ntmps45 rfl (by simp only [List.length_cons, List.length_nil]; decide) (by simp only [lowL, AV.low, ldL]; rfl) ?_; conv => whnf
  repeat' first | ((with_reducible apply XBr.tt); conv => whnf) | ((with_reducible apply XBr.ff); conv => whnf) | (with_reducible apply XBr.not) | ((with_reducible apply XBr.dec) <;> (intro h; first | (exfalso; omega) | ((try simp only [List.length_map] at h); first | (exfalso; omega) | (conv => whnf)))) | ((with_reducible apply XBr.beq) <;> (intro h; first | (exfalso; omega) | (conv => whnf))) | ((with_reducible apply XBr.bne) <;> (intro h; first | (exfalso; omega) | (conv => whnf))) | ((with_reducible refine XInt.i64 (by omega) (by omega) ?_); conv => whnf) | ((with_reducible refine XHold.mk ?_ ?_); (first | omega | rfl | decide | exact ⟨rfl, by decide, rfl⟩ | exact wideI _ | exact widePr _ | exact wideSk _ | (unfold Room; constructor <;> ((try simp) <;> omega)) | exact ⟨rfl, by simp only [List.length_map], by unfold Room; constructor <;> ((try simp) <;> omega)⟩ | exact ⟨by omega, by omega, by unfold Room; constructor <;> ((try simp) <;> omega)⟩); conv => whnf) | ((with_reducible refine XIx.nat ?_ ?_ ?_); omega; (intro _; rfl); conv => whnf) | ((with_reducible refine XIx.map ?_ ?_ ?_ ?_); omega; omega; (intro _; rfl); conv => whnf) | (with_reducible apply XAnd.mk) | ((with_reducible apply Chk.go); conv => whnf) | ((with_reducible apply ChkA.go); conv => whnf) | ((with_reducible apply ChkF.go); conv => whnf) | ((with_reducible apply ChkB.go); conv => whnf) | (exact XSame.mk rfl rfl) | (exact XSame.mk (by first | rfl | (simp only [List.map_append, List.length_append, List.length_map]; done) | (simp only [List.map_append, List.length_append, List.length_map]; rfl)) (by first | rfl | (simp only [List.map_append]; done) | (simp only [List.map_append]; rfl))) | (with_reducible exact trivial) | ((with_reducible refine xdrop_app (by rw [List.length_map]; omega) ?_); conv => whnf) | ((with_reducible refine XDrop.desk (by assumption) ?_); conv => whnf) | ((with_reducible refine XArr.ints (by omega) (by omega) (by omega) ?_); conv => whnf) | ((with_reducible refine XArr.intsA (by omega) (by omega) (by omega) ?_); conv => whnf) | ((with_reducible refine XArr.nats ?_ ?_ ?_); omega; omega; conv => whnf) | ((with_reducible refine XArr.natsA ?_ ?_ ?_); omega; omega; conv => whnf) | ((with_reducible apply XArr.pim0); conv => whnf) | ((with_reducible apply XArr.pim1); conv => whnf) | ((with_reducible refine XArr.ptr ?_ ?_ ?_); omega; omega; conv => whnf) | ((refine XCall.ret (eq_sk _ _ l.sacks (by omega)) ?_); conv => whnf) | ((refine XCall.ret (eq_pr _ _ l.apart (by omega)) ?_); conv => whnf) | ((refine XCall.ret (eq_pr _ _ l.wth (by omega)) ?_); conv => whnf) | ((with_reducible apply XBr.mk') <;> (intro h; conv => whnf))
  refine Walk.norm tab_ok [] [(2, .pim (ldC (ownL l))), (3, .pim (ldC l))] ⟨rfl, rfl, trivial⟩ ?_
  conv => whnf
  repeat' first | ((with_reducible apply XBr.tt); conv => whnf) | ((with_reducible apply XBr.ff); conv => whnf) | (with_reducible apply XBr.not) | ((with_reducible apply XBr.dec) <;> (intro h; first | (exfalso; omega) | ((try simp only [List.length_map] at h); first | (exfalso; omega) | (conv => whnf)))) | ((with_reducible apply XBr.beq) <;> (intro h; first | (exfalso; omega) | (conv => whnf))) | ((with_reducible apply XBr.bne) <;> (intro h; first | (exfalso; omega) | (conv => whnf))) | ((with_reducible refine XInt.i64 (by omega) (by omega) ?_); conv => whnf) | ((with_reducible refine XHold.mk ?_ ?_); (first | omega | rfl | decide | exact ⟨rfl, by decide, rfl⟩ | exact wideI _ | exact widePr _ | exact wideSk _ | (unfold Room; constructor <;> ((try simp) <;> omega)) | exact ⟨rfl, by simp only [List.length_map], by unfold Room; constructor <;> ((try simp) <;> omega)⟩ | exact ⟨by omega, by omega, by unfold Room; constructor <;> ((try simp) <;> omega)⟩); conv => whnf) | ((with_reducible refine XIx.nat ?_ ?_ ?_); omega; (intro _; rfl); conv => whnf) | ((with_reducible refine XIx.map ?_ ?_ ?_ ?_); omega; omega; (intro _; rfl); conv => whnf) | (with_reducible apply XAnd.mk) | ((with_reducible apply Chk.go); conv => whnf) | ((with_reducible apply ChkA.go); conv => whnf) | ((with_reducible apply ChkF.go); conv => whnf) | ((with_reducible apply ChkB.go); conv => whnf) | (exact XSame.mk rfl rfl) | (exact XSame.mk (by first | rfl | (simp only [List.map_append, List.length_append, List.length_map]; done) | (simp only [List.map_append, List.length_append, List.length_map]; rfl)) (by first | rfl | (simp only [List.map_append]; done) | (simp only [List.map_append]; rfl))) | (with_reducible exact trivial) | ((with_reducible refine xdrop_app (by rw [List.length_map]; omega) ?_); conv => whnf) | ((with_reducible refine XDrop.desk (by assumption) ?_); conv => whnf) | ((with_reducible refine XArr.ints (by omega) (by omega) (by omega) ?_); conv => whnf) | ((with_reducible refine XArr.intsA (by omega) (by omega) (by omega) ?_); conv => whnf) | ((with_reducible refine XArr.nats ?_ ?_ ?_); omega; omega; conv => whnf) | ((with_reducible refine XArr.natsA ?_ ?_ ?_); omega; omega; conv => whnf) | ((with_reducible apply XArr.pim0); conv => whnf) | ((with_reducible apply XArr.pim1); conv => whnf) | ((with_reducible refine XArr.ptr ?_ ?_ ?_); omega; omega; conv => whnf) | ((refine XCall.ret (eq_sk _ _ l.sacks (by omega)) ?_); conv => whnf) | ((refine XCall.ret (eq_pr _ _ l.apart (by omega)) ?_); conv => whnf) | ((refine XCall.ret (eq_pr _ _ l.wth (by omega)) ?_); conv => whnf) | ((with_reducible apply XBr.mk') <;> (intro h; conv => whnf))
  all_goals first | exact XOut.bool rfl | (exfalso; exact absurd rfl (by assumption))
def greatB (l : Ld) : Bool := decide (14 < l.sacks.length) || decide (12 < l.apart.length) || decide (12 < l.wth.length)
theorem great_c (l : Ld) : Comp Try.prog 38 [ldA l] (.bool (greatB l)) := by
  have e1 : ((l.sacks.map skA).length : Int) = l.sacks.length := by rw [List.length_map]
  have e2 : ((l.apart.map prA).length : Int) = l.apart.length := by rw [List.length_map]
  have e3 : ((l.wth.map prA).length : Int) = l.wth.length := by rw [List.length_map]
  refine Comp.body (T := tab) (res := [.tmp 2]) tab_ok [] Try.func38 rfl (by kernel_rfl) Try.ntmps38 rfl (by simp only [List.length_cons, List.length_nil]; decide) (by simp only [lowL, AV.low, ldL]; rfl) ?_; conv => whnf
  repeat' first | ((with_reducible apply XBr.tt); conv => whnf) | ((with_reducible apply XBr.ff); conv => whnf) | (with_reducible apply XBr.not) | ((with_reducible apply XBr.dec) <;> (intro h; first | (exfalso; omega) | ((try simp only [List.length_map] at h); first | (exfalso; omega) | (conv => whnf)))) | ((with_reducible apply XBr.beq) <;> (intro h; first | (exfalso; omega) | (conv => whnf))) | ((with_reducible apply XBr.bne) <;> (intro h; first | (exfalso; omega) | (conv => whnf))) | ((with_reducible refine XInt.i64 (by omega) (by omega) ?_); conv => whnf) | ((with_reducible refine XHold.mk ?_ ?_); (first | omega | rfl | decide | exact ⟨rfl, by decide, rfl⟩ | exact wideI _ | exact widePr _ | exact wideSk _ | (unfold Room; constructor <;> ((try simp) <;> omega)) | exact ⟨rfl, by simp only [List.length_map], by unfold Room; constructor <;> ((try simp) <;> omega)⟩ | exact ⟨by omega, by omega, by unfold Room; constructor <;> ((try simp) <;> omega)⟩); conv => whnf) | ((with_reducible refine XIx.nat ?_ ?_ ?_); omega; (intro _; rfl); conv => whnf) | ((with_reducible refine XIx.map ?_ ?_ ?_ ?_); omega; omega; (intro _; rfl); conv => whnf) | (with_reducible apply XAnd.mk) | ((with_reducible apply Chk.go); conv => whnf) | ((with_reducible apply ChkA.go); conv => whnf) | ((with_reducible apply ChkF.go); conv => whnf) | ((with_reducible apply ChkB.go); conv => whnf) | (exact XSame.mk rfl rfl) | (exact XSame.mk (by first | rfl | (simp only [List.map_append, List.length_append, List.length_map]; done) | (simp only [List.map_append, List.length_append, List.length_map]; rfl)) (by first | rfl | (simp only [List.map_append]; done) | (simp only [List.map_append]; rfl))) | (with_reducible exact trivial) | ((with_reducible refine xdrop_app (by rw [List.length_map]; omega) ?_); conv => whnf) | ((with_reducible refine XDrop.desk (by assumption) ?_); conv => whnf) | ((with_reducible refine XArr.ints (by omega) (by omega) (by omega) ?_); conv => whnf) | ((with_reducible refine XArr.intsA (by omega) (by omega) (by omega) ?_); conv => whnf) | ((with_reducible refine XArr.nats ?_ ?_ ?_); omega; omega; conv => whnf) | ((with_reducible refine XArr.natsA ?_ ?_ ?_); omega; omega; conv => whnf) | ((with_reducible apply XArr.pim0); conv => whnf) | ((with_reducible apply XArr.pim1); conv => whnf) | ((with_reducible refine XArr.ptr ?_ ?_ ?_); omega; omega; conv => whnf) | ((with_reducible apply XBr.mk') <;> (intro h; conv => whnf))
  all_goals
    refine XOut.bool ?_
    unfold greatB
    rw [Bool.eq_iff_iff]
    simp only [Bool.or_eq_true, decide_eq_true_eq, Bool.or_assoc, Bool.true_eq_false, Bool.false_eq_true, true_iff, false_iff, iff_true, iff_false]
    omega
end GA
end

section
namespace GA
open Go Go.RowKit Go.Proofs
set_option pp.deepTerms true
set_option maxRecDepth 8000
set_option linter.unusedVariables false
set_option linter.unusedSimpArgs false

theorem all_false {α : Type} {p : α → Bool} {xs : List α} {d : α} {i : Nat} (hi : i < xs.length) (h : p (xs.getD i d) = false) : xs.all p = false := by
  rw [List.all_eq_false]; exact ⟨_, getD_mem hi, by rw [h]; simp⟩
theorem all_true {α : Type} {p : α → Bool} {xs : List α} {d : α} (h : ∀ j, j < xs.length → p (xs.getD j d) = true) : xs.all p = true := by
  rw [List.all_eq_true]; intro x hx
  obtain ⟨j, hj, rfl⟩ := List.mem_iff_getElem.1 hx
  have := h j hj
  rwa [List.getD_eq_getElem?_getD, List.getElem?_eq_getElem hj] at this
theorem XArr.gp {i m' e o : Nat} {n : Int} {m w : Nat} {k : AV → Prop} (h1 : 0 ≤ n) (h2 : n < m) (h : k (.gp i m' e (o + n.toNat * w))) : XArr (.gp i m' e o) n m w k := ⟨h1, h2, h⟩
def skIn (s : Sk) : Bool := inB s.m 1 100 && inB s.o 0 5
theorem ck3 {l : Ld} (h : ¬(9 < l.sacks.length ∨ 8 < l.apart.length ∨ 8 < l.wth.length)) (h2 : (inB l.bears 1 100 && inB l.shrink 0 90) = false) : checkR l = 3 := by
  unfold checkR; rw [if_neg h, if_pos h2]
theorem ck4 {l : Ld} (h : ¬(9 < l.sacks.length ∨ 8 < l.apart.length ∨ 8 < l.wth.length)) (h2 : (inB l.bears 1 100 && inB l.shrink 0 90) = true) (h3 : (l.sacks.all fun s => inB s.m 1 100 && inB s.o 0 5) = false) : checkR l = 3 := by
  unfold checkR; rw [if_neg h, if_neg (by rw [h2]; simp), if_pos h3]
theorem ck5 {l : Ld} (h : ¬(9 < l.sacks.length ∨ 8 < l.apart.length ∨ 8 < l.wth.length)) (h2 : (inB l.bears 1 100 && inB l.shrink 0 90) = true) (h3 : (l.sacks.all fun s => inB s.m 1 100 && inB s.o 0 5) = true) (h4 : (l.apart ++ l.wth).all (prIn l) = false) : checkR l = 1 := by
  unfold checkR; rw [if_neg h, if_neg (by rw [h2]; simp), if_neg (by rw [h3]; simp), if_pos h4]
theorem ck6 {l : Ld} (h : ¬(9 < l.sacks.length ∨ 8 < l.apart.length ∨ 8 < l.wth.length)) (h2 : (inB l.bears 1 100 && inB l.shrink 0 90) = true) (h3 : (l.sacks.all fun s => inB s.m 1 100 && inB s.o 0 5) = true) (h4 : (l.apart ++ l.wth).all (prIn l) = true) (h5 : ((l.apart ++ l.wth).all fun p => p.1 != p.2) = false) : checkR l = 5 := by
  unfold checkR; rw [if_neg h, if_neg (by rw [h2]; simp), if_neg (by rw [h3]; simp), if_neg (by rw [h4]; simp), if_pos h5]
theorem ck0 {l : Ld} (h : ¬(9 < l.sacks.length ∨ 8 < l.apart.length ∨ 8 < l.wth.length)) (h2 : (inB l.bears 1 100 && inB l.shrink 0 90) = true) (h3 : (l.sacks.all fun s => inB s.m 1 100 && inB s.o 0 5) = true) (h4 : (l.apart ++ l.wth).all (prIn l) = true) (h5 : ((l.apart ++ l.wth).all fun p => p.1 != p.2) = true) : checkR l = 0 := by
  unfold checkR; rw [if_neg h, if_neg (by rw [h2]; simp), if_neg (by rw [h3]; simp), if_neg (by rw [h4]; simp), if_neg (by rw [h5]; simp)]
theorem refCheck_c (l : Ld) (o : LdW l) : Comp Try.prog 40 [ldA l] (.int .i64 (checkR l)) := by
  have h1 := o.h1
  have h2 := o.h2
  have h3 := o.h3
  have e1 : ((l.sacks.map skA).length : Int) = l.sacks.length := by rw [List.length_map]
  have e2 : ((l.apart.map prA).length : Int) = l.apart.length := by rw [List.length_map]
  have e3 : ((l.wth.map prA).length : Int) = l.wth.length := by rw [List.length_map]
  refine Comp.body (T := tab) (res := [.tmp 2]) tab_ok [] Try.func40 rfl (by kernel_rfl) Try.ntmps40 rfl (by simp only [List.length_cons, List.length_nil]; decide) (by simp only [lowL, AV.low, ldL]; rfl) ?_; conv => whnf
  repeat' first | ((with_reducible apply XBr.tt); conv => whnf) | ((with_reducible apply XBr.ff); conv => whnf) | (with_reducible apply XBr.not) | ((with_reducible apply XBr.dec) <;> (intro h; first | (exfalso; omega) | ((try simp only [List.length_map] at h); first | (exfalso; omega) | (conv => whnf)))) | ((with_reducible apply XBr.beq) <;> (intro h; first | (exfalso; omega) | (conv => whnf))) | ((with_reducible apply XBr.bne) <;> (intro h; first | (exfalso; omega) | (conv => whnf))) | ((with_reducible refine XInt.i64 (by omega) (by omega) ?_); conv => whnf) | ((with_reducible refine XHold.mk ?_ ?_); (first | omega | rfl | decide | exact ⟨rfl, by decide, rfl⟩ | exact wideI _ | exact widePr _ | exact wideSk _ | (unfold Room; constructor <;> ((try simp) <;> omega)) | exact ⟨rfl, by simp only [List.length_map], by unfold Room; constructor <;> ((try simp) <;> omega)⟩ | exact ⟨by omega, by omega, by unfold Room; constructor <;> ((try simp) <;> omega)⟩); conv => whnf) | ((with_reducible refine XIx.nat ?_ ?_ ?_); omega; (intro _; rfl); conv => whnf) | ((with_reducible refine XIx.map ?_ ?_ ?_ ?_); omega; omega; (intro _; rfl); conv => whnf) | (with_reducible apply XAnd.mk) | ((with_reducible apply Chk.go); conv => whnf) | ((with_reducible apply ChkA.go); conv => whnf) | ((with_reducible apply ChkF.go); conv => whnf) | ((with_reducible apply ChkB.go); conv => whnf) | (exact XSame.mk rfl rfl) | (exact XSame.mk (by first | rfl | (simp only [List.map_append, List.length_append, List.length_map]; done) | (simp only [List.map_append, List.length_append, List.length_map]; rfl)) (by first | rfl | (simp only [List.map_append]; done) | (simp only [List.map_append]; rfl))) | (with_reducible exact trivial) | ((with_reducible refine xdrop_app (by rw [List.length_map]; omega) ?_); conv => whnf) | ((with_reducible refine XDrop.desk (by assumption) ?_); conv => whnf) | ((with_reducible refine XArr.ints (by omega) (by omega) (by omega) ?_); conv => whnf) | ((with_reducible refine XArr.intsA (by omega) (by omega) (by omega) ?_); conv => whnf) | ((with_reducible refine XArr.nats ?_ ?_ ?_); omega; omega; conv => whnf) | ((with_reducible refine XArr.natsA ?_ ?_ ?_); omega; omega; conv => whnf) | ((with_reducible apply XArr.pim0); conv => whnf) | ((with_reducible apply XArr.pim1); conv => whnf) | ((with_reducible refine XArr.ptr ?_ ?_ ?_); omega; omega; conv => whnf) | (refine XCall.ret (off_c _ _ _) ?_; conv => whnf) | ((with_reducible apply XBr.mk') <;> (intro h; conv => whnf))
  · refine XOut.int ?_; unfold checkR; rw [if_pos (by omega)]
  · refine XOut.int ?_; unfold checkR; rw [if_pos (by omega)]
  · refine XOut.int ?_; unfold checkR; rw [if_pos (by omega)]
  · refine XOut.int (ck3 (by omega) ?_).symm
    rw [off_in] at h; simp only [Bool.not_eq_true'] at h; rw [h]; rfl
  · refine XOut.int (ck3 (by omega) ?_).symm
    rw [off_in] at h; simp only [Bool.not_eq_true'] at h; rw [h, Bool.and_false]
  rename_i hA1 hA2 hA3 hB1
  have hA : ¬(9 < l.sacks.length ∨ 8 < l.apart.length ∨ 8 < l.wth.length) := by omega
  have hB : (inB l.bears 1 100 && inB l.shrink 0 90) = true := by
    rw [off_in, Bool.not_eq_false'] at h hB1; rw [h, hB1]; rfl
  clear hA1 hA2 hA3 hB1 h
  refine Walk.loop tab_ok [] (fun k : Nat => k ≤ l.sacks.length ∧ ∀ j, j < k → skIn (l.sacks.getD j default) = true) (fun k => [(1, .pim (ldC l)), (3, natA k)]) (fun _ => []) (fun k => l.sacks.length - k) 0 ⟨by omega, by omega⟩ rfl ⟨rfl, rfl, trivial⟩ ?_
  rintro k ⟨hk, hks⟩
  conv => whnf
  repeat' first | ((with_reducible apply XBr.tt); conv => whnf) | ((with_reducible apply XBr.ff); conv => whnf) | (with_reducible apply XBr.not) | ((with_reducible apply XBr.dec) <;> (intro h; first | (exfalso; omega) | ((try simp only [List.length_map] at h); first | (exfalso; omega) | (conv => whnf)))) | ((with_reducible apply XBr.beq) <;> (intro h; first | (exfalso; omega) | (conv => whnf))) | ((with_reducible apply XBr.bne) <;> (intro h; first | (exfalso; omega) | (conv => whnf))) | ((with_reducible refine XInt.i64 (by omega) (by omega) ?_); conv => whnf) | ((with_reducible refine XHold.mk ?_ ?_); (first | omega | rfl | decide | exact ⟨rfl, by decide, rfl⟩ | exact wideI _ | exact widePr _ | exact wideSk _ | (unfold Room; constructor <;> ((try simp) <;> omega)) | exact ⟨rfl, by simp only [List.length_map], by unfold Room; constructor <;> ((try simp) <;> omega)⟩ | exact ⟨by omega, by omega, by unfold Room; constructor <;> ((try simp) <;> omega)⟩); conv => whnf) | ((with_reducible refine XIx.nat ?_ ?_ ?_); omega; (intro _; rfl); conv => whnf) | ((with_reducible refine XIx.map ?_ ?_ ?_ ?_); omega; omega; (intro _; rfl); conv => whnf) | (with_reducible apply XAnd.mk) | ((with_reducible apply Chk.go); conv => whnf) | ((with_reducible apply ChkA.go); conv => whnf) | ((with_reducible apply ChkF.go); conv => whnf) | ((with_reducible apply ChkB.go); conv => whnf) | (exact XSame.mk rfl rfl) | (exact XSame.mk (by first | rfl | (simp only [List.map_append, List.length_append, List.length_map]; done) | (simp only [List.map_append, List.length_append, List.length_map]; rfl)) (by first | rfl | (simp only [List.map_append]; done) | (simp only [List.map_append]; rfl))) | (with_reducible exact trivial) | ((with_reducible refine xdrop_app (by rw [List.length_map]; omega) ?_); conv => whnf) | ((with_reducible refine XDrop.desk (by assumption) ?_); conv => whnf) | ((with_reducible refine XArr.ints (by omega) (by omega) (by omega) ?_); conv => whnf) | ((with_reducible refine XArr.intsA (by omega) (by omega) (by omega) ?_); conv => whnf) | ((with_reducible refine XArr.nats ?_ ?_ ?_); omega; omega; conv => whnf) | ((with_reducible refine XArr.natsA ?_ ?_ ?_); omega; omega; conv => whnf) | ((with_reducible apply XArr.pim0); conv => whnf) | ((with_reducible apply XArr.pim1); conv => whnf) | ((with_reducible refine XArr.ptr ?_ ?_ ?_); omega; omega; conv => whnf) | (refine XCall.ret (off_c _ _ _) ?_; conv => whnf) | ((with_reducible apply XBr.mk') <;> (intro h; conv => whnf))
  · refine XOut.int (ck4 hA hB (all_false (d := default) (i := k) (by omega) ?_)).symm
    rw [off_in] at h; simp only [Bool.not_eq_true'] at h
    have h' : inB (l.sacks.getD k default).m 1 100 = false := h
    rw [h']; rfl
  · refine XOut.int (ck4 hA hB (all_false (d := default) (i := k) (by omega) ?_)).symm
    rw [off_in] at h; simp only [Bool.not_eq_true'] at h
    have h' : inB (l.sacks.getD k default).o 0 5 = false := h
    rw [h', Bool.and_false]
  · rename_i hm
    refine XAgain.go (k + 1) ⟨by omega, fun j hj => ?_⟩ (by omega) rfl ⟨rfl, rfl, trivial⟩
    by_cases e : j = k
    · subst e
      rw [off_in, Bool.not_eq_false'] at h hm
      have h' : inB (l.sacks.getD j default).o 0 5 = true := h
      have hm' : inB (l.sacks.getD j default).m 1 100 = true := hm
      unfold skIn; rw [h', hm']; rfl
    · exact hks j (by omega)
  have hC : (l.sacks.all fun s => inB s.m 1 100 && inB s.o 0 5) = true := all_true (d := default) fun j hj => hks j (by omega)
  clear hks h
  apply Walk.drawX tab_ok mixed_ok [] [3, 6] (hsC [[], [.grow 118 false (l.apart.map prA)], [.grow 118 false (l.apart.map prA ++ l.wth.map prA)]]) [_, _, _, _, _, _, _, _] (by kernel_rfl) rfl
  · skip
    repeat' first | ((with_reducible apply XBr.tt); conv => whnf) | ((with_reducible apply XBr.ff); conv => whnf) | (with_reducible apply XBr.not) | ((with_reducible apply XBr.dec) <;> (intro h; first | (exfalso; omega) | ((try simp only [List.length_map] at h); first | (exfalso; omega) | (conv => whnf)))) | ((with_reducible apply XBr.beq) <;> (intro h; first | (exfalso; omega) | (conv => whnf))) | ((with_reducible apply XBr.bne) <;> (intro h; first | (exfalso; omega) | (conv => whnf))) | ((with_reducible refine XInt.i64 (by omega) (by omega) ?_); conv => whnf) | ((with_reducible refine XHold.mk ?_ ?_); (first | omega | rfl | decide | exact ⟨rfl, by decide, rfl⟩ | exact wideI _ | exact widePr _ | exact wideSk _ | (unfold Room; constructor <;> ((try simp) <;> omega)) | exact ⟨rfl, by simp only [List.length_map], by unfold Room; constructor <;> ((try simp) <;> omega)⟩ | exact ⟨by omega, by omega, by unfold Room; constructor <;> ((try simp) <;> omega)⟩); conv => whnf) | ((with_reducible refine XIx.nat ?_ ?_ ?_); omega; (intro _; rfl); conv => whnf) | ((with_reducible refine XIx.map ?_ ?_ ?_ ?_); omega; omega; (intro _; rfl); conv => whnf) | (with_reducible apply XAnd.mk) | ((with_reducible apply Chk.go); conv => whnf) | ((with_reducible apply ChkA.go); conv => whnf) | ((with_reducible apply ChkF.go); conv => whnf) | ((with_reducible apply ChkB.go); conv => whnf) | (exact XSame.mk rfl rfl) | (exact XSame.mk (by first | rfl | (simp only [List.map_append, List.length_append, List.length_map]; done) | (simp only [List.map_append, List.length_append, List.length_map]; rfl)) (by first | rfl | (simp only [List.map_append]; done) | (simp only [List.map_append]; rfl))) | (with_reducible exact trivial) | ((with_reducible refine xdrop_app (by rw [List.length_map]; omega) ?_); conv => whnf) | ((with_reducible refine XDrop.desk (by assumption) ?_); conv => whnf) | ((with_reducible refine XArr.ints (by omega) (by omega) (by omega) ?_); conv => whnf) | ((with_reducible refine XArr.intsA (by omega) (by omega) (by omega) ?_); conv => whnf) | ((with_reducible refine XArr.nats ?_ ?_ ?_); omega; omega; conv => whnf) | ((with_reducible refine XArr.natsA ?_ ?_ ?_); omega; omega; conv => whnf) | ((with_reducible apply XArr.pim0); conv => whnf) | ((with_reducible apply XArr.pim1); conv => whnf) | ((with_reducible refine XArr.ptr ?_ ?_ ?_); omega; omega; conv => whnf) | ((with_reducible apply XBr.mk') <;> (intro h; conv => whnf))
  · skip
    repeat' first | ((with_reducible apply XBr.tt); conv => whnf) | ((with_reducible apply XBr.ff); conv => whnf) | (with_reducible apply XBr.not) | ((with_reducible apply XBr.dec) <;> (intro h; first | (exfalso; omega) | ((try simp only [List.length_map] at h); first | (exfalso; omega) | (conv => whnf)))) | ((with_reducible apply XBr.beq) <;> (intro h; first | (exfalso; omega) | (conv => whnf))) | ((with_reducible apply XBr.bne) <;> (intro h; first | (exfalso; omega) | (conv => whnf))) | ((with_reducible refine XInt.i64 (by omega) (by omega) ?_); conv => whnf) | ((with_reducible refine XHold.mk ?_ ?_); (first | omega | rfl | decide | exact ⟨rfl, by decide, rfl⟩ | exact wideI _ | exact widePr _ | exact wideSk _ | (unfold Room; constructor <;> ((try simp) <;> omega)) | exact ⟨rfl, by simp only [List.length_map], by unfold Room; constructor <;> ((try simp) <;> omega)⟩ | exact ⟨by omega, by omega, by unfold Room; constructor <;> ((try simp) <;> omega)⟩); conv => whnf) | ((with_reducible refine XIx.nat ?_ ?_ ?_); omega; (intro _; rfl); conv => whnf) | ((with_reducible refine XIx.map ?_ ?_ ?_ ?_); omega; omega; (intro _; rfl); conv => whnf) | (with_reducible apply XAnd.mk) | ((with_reducible apply Chk.go); conv => whnf) | ((with_reducible apply ChkA.go); conv => whnf) | ((with_reducible apply ChkF.go); conv => whnf) | ((with_reducible apply ChkB.go); conv => whnf) | (exact XSame.mk rfl rfl) | (exact XSame.mk (by first | rfl | (simp only [List.map_append, List.length_append, List.length_map]; done) | (simp only [List.map_append, List.length_append, List.length_map]; rfl)) (by first | rfl | (simp only [List.map_append]; done) | (simp only [List.map_append]; rfl))) | (with_reducible exact trivial) | ((with_reducible refine xdrop_app (by rw [List.length_map]; omega) ?_); conv => whnf) | ((with_reducible refine XDrop.desk (by assumption) ?_); conv => whnf) | ((with_reducible refine XArr.ints (by omega) (by omega) (by omega) ?_); conv => whnf) | ((with_reducible refine XArr.intsA (by omega) (by omega) (by omega) ?_); conv => whnf) | ((with_reducible refine XArr.nats ?_ ?_ ?_); omega; omega; conv => whnf) | ((with_reducible refine XArr.natsA ?_ ?_ ?_); omega; omega; conv => whnf) | ((with_reducible apply XArr.pim0); conv => whnf) | ((with_reducible apply XArr.pim1); conv => whnf) | ((with_reducible refine XArr.ptr ?_ ?_ ?_); omega; omega; conv => whnf) | ((with_reducible apply XBr.mk') <;> (intro h; conv => whnf))
  conv => whnf
  repeat' first | ((with_reducible apply XBr.tt); conv => whnf) | ((with_reducible apply XBr.ff); conv => whnf) | (with_reducible apply XBr.not) | ((with_reducible apply XBr.dec) <;> (intro h; first | (exfalso; omega) | ((try simp only [List.length_map] at h); first | (exfalso; omega) | (conv => whnf)))) | ((with_reducible apply XBr.beq) <;> (intro h; first | (exfalso; omega) | (conv => whnf))) | ((with_reducible apply XBr.bne) <;> (intro h; first | (exfalso; omega) | (conv => whnf))) | ((with_reducible refine XInt.i64 (by omega) (by omega) ?_); conv => whnf) | ((with_reducible refine XHold.mk ?_ ?_); (first | omega | rfl | decide | exact ⟨rfl, by decide, rfl⟩ | exact wideI _ | exact widePr _ | exact wideSk _ | (unfold Room; constructor <;> ((try simp) <;> omega)) | exact ⟨rfl, by simp only [List.length_map], by unfold Room; constructor <;> ((try simp) <;> omega)⟩ | exact ⟨by omega, by omega, by unfold Room; constructor <;> ((try simp) <;> omega)⟩); conv => whnf) | ((with_reducible refine XIx.nat ?_ ?_ ?_); omega; (intro _; rfl); conv => whnf) | ((with_reducible refine XIx.map ?_ ?_ ?_ ?_); omega; omega; (intro _; rfl); conv => whnf) | (with_reducible apply XAnd.mk) | ((with_reducible apply Chk.go); conv => whnf) | ((with_reducible apply ChkA.go); conv => whnf) | ((with_reducible apply ChkF.go); conv => whnf) | ((with_reducible apply ChkB.go); conv => whnf) | (exact XSame.mk rfl rfl) | (exact XSame.mk (by first | rfl | (simp only [List.map_append, List.length_append, List.length_map]; done) | (simp only [List.map_append, List.length_append, List.length_map]; rfl)) (by first | rfl | (simp only [List.map_append]; done) | (simp only [List.map_append]; rfl))) | (with_reducible exact trivial) | ((with_reducible refine xdrop_app (by rw [List.length_map]; omega) ?_); conv => whnf) | ((with_reducible refine XDrop.desk (by assumption) ?_); conv => whnf) | ((with_reducible refine XArr.ints (by omega) (by omega) (by omega) ?_); conv => whnf) | ((with_reducible refine XArr.intsA (by omega) (by omega) (by omega) ?_); conv => whnf) | ((with_reducible refine XArr.nats ?_ ?_ ?_); omega; omega; conv => whnf) | ((with_reducible refine XArr.natsA ?_ ?_ ?_); omega; omega; conv => whnf) | ((with_reducible apply XArr.pim0); conv => whnf) | ((with_reducible apply XArr.pim1); conv => whnf) | ((with_reducible refine XArr.ptr ?_ ?_ ?_); omega; omega; conv => whnf) | ((with_reducible apply XBr.mk') <;> (intro h; conv => whnf))
  have hpl : (l.apart ++ l.wth).length = l.apart.length + l.wth.length := List.length_append
  generalize hps : l.apart ++ l.wth = ps at hpl
  refine Walk.loop tab_ok [] (fun k : Nat => k ≤ ps.length ∧ ∀ j, j < k → prIn l (ps.getD j default) = true) (fun k => [(1, .pim (ldC l)), (4, .gr 0 ps.length), (5, natA k)]) (fun _ => [.grow 118 false (ps.map prA)]) (fun k => ps.length - k) 0 ⟨by omega, by omega⟩ (by rw [← hps, List.map_append]; rfl) ⟨rfl, ?_, rfl, trivial⟩ ?_
  · exact congrArg (fun n => some (AV.gr 0 n)) (by rw [List.length_map, List.length_map, hpl])
  clear hk k
  rintro k ⟨hk, hks⟩
  conv => whnf
  repeat' first | ((with_reducible apply XBr.tt); conv => whnf) | ((with_reducible apply XBr.ff); conv => whnf) | (with_reducible apply XBr.not) | ((with_reducible apply XBr.dec) <;> (intro h; first | (exfalso; omega) | ((try simp only [List.length_map] at h); first | (exfalso; omega) | (conv => whnf)))) | ((with_reducible apply XBr.beq) <;> (intro h; first | (exfalso; omega) | (conv => whnf))) | ((with_reducible apply XBr.bne) <;> (intro h; first | (exfalso; omega) | (conv => whnf))) | ((with_reducible refine XInt.i64 (by omega) (by omega) ?_); conv => whnf) | ((with_reducible refine XHold.mk ?_ ?_); (first | omega | rfl | decide | exact ⟨rfl, by decide, rfl⟩ | exact wideI _ | exact widePr _ | exact wideSk _ | (unfold Room; constructor <;> ((try simp) <;> omega)) | exact ⟨rfl, by simp only [List.length_map], by unfold Room; constructor <;> ((try simp) <;> omega)⟩ | exact ⟨by omega, by omega, by unfold Room; constructor <;> ((try simp) <;> omega)⟩); conv => whnf) | ((with_reducible refine XIx.nat ?_ ?_ ?_); omega; (intro _; rfl); conv => whnf) | ((with_reducible refine XIx.map ?_ ?_ ?_ ?_); omega; omega; (intro _; rfl); conv => whnf) | (with_reducible apply XAnd.mk) | ((with_reducible apply Chk.go); conv => whnf) | ((with_reducible apply ChkA.go); conv => whnf) | ((with_reducible apply ChkF.go); conv => whnf) | ((with_reducible apply ChkB.go); conv => whnf) | (exact XSame.mk rfl rfl) | (exact XSame.mk (by first | rfl | (simp only [List.map_append, List.length_append, List.length_map]; done) | (simp only [List.map_append, List.length_append, List.length_map]; rfl)) (by first | rfl | (simp only [List.map_append]; done) | (simp only [List.map_append]; rfl))) | (with_reducible exact trivial) | ((with_reducible refine xdrop_app (by rw [List.length_map]; omega) ?_); conv => whnf) | ((with_reducible refine XDrop.desk (by assumption) ?_); conv => whnf) | ((with_reducible refine XArr.ints (by omega) (by omega) (by omega) ?_); conv => whnf) | ((with_reducible refine XArr.intsA (by omega) (by omega) (by omega) ?_); conv => whnf) | ((with_reducible refine XArr.nats ?_ ?_ ?_); omega; omega; conv => whnf) | ((with_reducible refine XArr.natsA ?_ ?_ ?_); omega; omega; conv => whnf) | ((with_reducible apply XArr.pim0); conv => whnf) | ((with_reducible apply XArr.pim1); conv => whnf) | ((with_reducible refine XArr.ptr ?_ ?_ ?_); omega; omega; conv => whnf) | ((refine XHold.mk ⟨List.length_map _, rfl, by omega, by omega⟩ ?_); conv => whnf) | ((refine XHold.mk (List.length_map _) ?_); conv => whnf) | ((refine XArr.gp (by decide) (by decide) ?_); conv => whnf) | ((refine XGet.map rfl (by omega) ?_); conv => whnf) | (refine XCall.ret (off_c _ _ _) ?_; conv => whnf) | ((with_reducible apply XBr.mk') <;> (intro h; conv => whnf))
  · by_cases hc : offB (ps.getD k default).1 0 (((l.sacks.map skA).length : Int) - 1) = true
    · apply Walk.drawX tab_ok mixed_ok [] [] (hsK _) [_, _, _, _, _, _, _, _, _, _, .bool true, _, _, _, _, _, _, _, _, _, _, .bool true] (by kernel_rfl) rfl
      · skip
        repeat' first | ((with_reducible apply XBr.tt); conv => whnf) | ((with_reducible apply XBr.ff); conv => whnf) | (with_reducible apply XBr.not) | ((with_reducible apply XBr.dec) <;> (intro h; first | (exfalso; omega) | ((try simp only [List.length_map] at h); first | (exfalso; omega) | (conv => whnf)))) | ((with_reducible apply XBr.beq) <;> (intro h; first | (exfalso; omega) | (conv => whnf))) | ((with_reducible apply XBr.bne) <;> (intro h; first | (exfalso; omega) | (conv => whnf))) | ((with_reducible refine XInt.i64 (by omega) (by omega) ?_); conv => whnf) | ((with_reducible refine XHold.mk ?_ ?_); (first | omega | rfl | decide | exact ⟨rfl, by decide, rfl⟩ | exact wideI _ | exact widePr _ | exact wideSk _ | (unfold Room; constructor <;> ((try simp) <;> omega)) | exact ⟨rfl, by simp only [List.length_map], by unfold Room; constructor <;> ((try simp) <;> omega)⟩ | exact ⟨by omega, by omega, by unfold Room; constructor <;> ((try simp) <;> omega)⟩); conv => whnf) | ((with_reducible refine XIx.nat ?_ ?_ ?_); omega; (intro _; rfl); conv => whnf) | ((with_reducible refine XIx.map ?_ ?_ ?_ ?_); omega; omega; (intro _; rfl); conv => whnf) | (with_reducible apply XAnd.mk) | ((with_reducible apply Chk.go); conv => whnf) | ((with_reducible apply ChkA.go); conv => whnf) | ((with_reducible apply ChkF.go); conv => whnf) | ((with_reducible apply ChkB.go); conv => whnf) | (exact XSame.mk rfl rfl) | (exact XSame.mk (by first | rfl | (simp only [List.map_append, List.length_append, List.length_map]; done) | (simp only [List.map_append, List.length_append, List.length_map]; rfl)) (by first | rfl | (simp only [List.map_append]; done) | (simp only [List.map_append]; rfl))) | (with_reducible exact trivial) | ((with_reducible refine xdrop_app (by rw [List.length_map]; omega) ?_); conv => whnf) | ((with_reducible refine XDrop.desk (by assumption) ?_); conv => whnf) | ((with_reducible refine XArr.ints (by omega) (by omega) (by omega) ?_); conv => whnf) | ((with_reducible refine XArr.intsA (by omega) (by omega) (by omega) ?_); conv => whnf) | ((with_reducible refine XArr.nats ?_ ?_ ?_); omega; omega; conv => whnf) | ((with_reducible refine XArr.natsA ?_ ?_ ?_); omega; omega; conv => whnf) | ((with_reducible apply XArr.pim0); conv => whnf) | ((with_reducible apply XArr.pim1); conv => whnf) | ((with_reducible refine XArr.ptr ?_ ?_ ?_); omega; omega; conv => whnf) | ((refine XHold.mk ⟨List.length_map _, rfl, by omega, by omega⟩ ?_); conv => whnf) | ((refine XHold.mk (List.length_map _) ?_); conv => whnf) | ((refine XArr.gp (by decide) (by decide) ?_); conv => whnf) | ((refine XGet.map rfl (by omega) ?_); conv => whnf) | (refine XCall.ret (off_c _ _ _) ?_; conv => whnf) | (exact XSame.mk (congrArg AV.bool hc) rfl) | ((with_reducible apply XBr.mk') <;> (intro h; conv => whnf))
      · skip
        repeat' first | ((with_reducible apply XBr.tt); conv => whnf) | ((with_reducible apply XBr.ff); conv => whnf) | (with_reducible apply XBr.not) | ((with_reducible apply XBr.dec) <;> (intro h; first | (exfalso; omega) | ((try simp only [List.length_map] at h); first | (exfalso; omega) | (conv => whnf)))) | ((with_reducible apply XBr.beq) <;> (intro h; first | (exfalso; omega) | (conv => whnf))) | ((with_reducible apply XBr.bne) <;> (intro h; first | (exfalso; omega) | (conv => whnf))) | ((with_reducible refine XInt.i64 (by omega) (by omega) ?_); conv => whnf) | ((with_reducible refine XHold.mk ?_ ?_); (first | omega | rfl | decide | exact ⟨rfl, by decide, rfl⟩ | exact wideI _ | exact widePr _ | exact wideSk _ | (unfold Room; constructor <;> ((try simp) <;> omega)) | exact ⟨rfl, by simp only [List.length_map], by unfold Room; constructor <;> ((try simp) <;> omega)⟩ | exact ⟨by omega, by omega, by unfold Room; constructor <;> ((try simp) <;> omega)⟩); conv => whnf) | ((with_reducible refine XIx.nat ?_ ?_ ?_); omega; (intro _; rfl); conv => whnf) | ((with_reducible refine XIx.map ?_ ?_ ?_ ?_); omega; omega; (intro _; rfl); conv => whnf) | (with_reducible apply XAnd.mk) | ((with_reducible apply Chk.go); conv => whnf) | ((with_reducible apply ChkA.go); conv => whnf) | ((with_reducible apply ChkF.go); conv => whnf) | ((with_reducible apply ChkB.go); conv => whnf) | (exact XSame.mk rfl rfl) | (exact XSame.mk (by first | rfl | (simp only [List.map_append, List.length_append, List.length_map]; done) | (simp only [List.map_append, List.length_append, List.length_map]; rfl)) (by first | rfl | (simp only [List.map_append]; done) | (simp only [List.map_append]; rfl))) | (with_reducible exact trivial) | ((with_reducible refine xdrop_app (by rw [List.length_map]; omega) ?_); conv => whnf) | ((with_reducible refine XDrop.desk (by assumption) ?_); conv => whnf) | ((with_reducible refine XArr.ints (by omega) (by omega) (by omega) ?_); conv => whnf) | ((with_reducible refine XArr.intsA (by omega) (by omega) (by omega) ?_); conv => whnf) | ((with_reducible refine XArr.nats ?_ ?_ ?_); omega; omega; conv => whnf) | ((with_reducible refine XArr.natsA ?_ ?_ ?_); omega; omega; conv => whnf) | ((with_reducible apply XArr.pim0); conv => whnf) | ((with_reducible apply XArr.pim1); conv => whnf) | ((with_reducible refine XArr.ptr ?_ ?_ ?_); omega; omega; conv => whnf) | ((refine XHold.mk ⟨List.length_map _, rfl, by omega, by omega⟩ ?_); conv => whnf) | ((refine XHold.mk (List.length_map _) ?_); conv => whnf) | ((refine XArr.gp (by decide) (by decide) ?_); conv => whnf) | ((refine XGet.map rfl (by omega) ?_); conv => whnf) | (refine XCall.ret (off_c _ _ _) ?_; conv => whnf) | (exact XSame.mk (congrArg AV.bool hc) rfl) | ((with_reducible apply XBr.mk') <;> (intro h; conv => whnf))
      · conv => whnf
        repeat' first | ((with_reducible apply XBr.tt); conv => whnf) | ((with_reducible apply XBr.ff); conv => whnf) | (with_reducible apply XBr.not) | ((with_reducible apply XBr.dec) <;> (intro h; first | (exfalso; omega) | ((try simp only [List.length_map] at h); first | (exfalso; omega) | (conv => whnf)))) | ((with_reducible apply XBr.beq) <;> (intro h; first | (exfalso; omega) | (conv => whnf))) | ((with_reducible apply XBr.bne) <;> (intro h; first | (exfalso; omega) | (conv => whnf))) | ((with_reducible refine XInt.i64 (by omega) (by omega) ?_); conv => whnf) | ((with_reducible refine XHold.mk ?_ ?_); (first | omega | rfl | decide | exact ⟨rfl, by decide, rfl⟩ | exact wideI _ | exact widePr _ | exact wideSk _ | (unfold Room; constructor <;> ((try simp) <;> omega)) | exact ⟨rfl, by simp only [List.length_map], by unfold Room; constructor <;> ((try simp) <;> omega)⟩ | exact ⟨by omega, by omega, by unfold Room; constructor <;> ((try simp) <;> omega)⟩); conv => whnf) | ((with_reducible refine XIx.nat ?_ ?_ ?_); omega; (intro _; rfl); conv => whnf) | ((with_reducible refine XIx.map ?_ ?_ ?_ ?_); omega; omega; (intro _; rfl); conv => whnf) | (with_reducible apply XAnd.mk) | ((with_reducible apply Chk.go); conv => whnf) | ((with_reducible apply ChkA.go); conv => whnf) | ((with_reducible apply ChkF.go); conv => whnf) | ((with_reducible apply ChkB.go); conv => whnf) | (exact XSame.mk rfl rfl) | (exact XSame.mk (by first | rfl | (simp only [List.map_append, List.length_append, List.length_map]; done) | (simp only [List.map_append, List.length_append, List.length_map]; rfl)) (by first | rfl | (simp only [List.map_append]; done) | (simp only [List.map_append]; rfl))) | (with_reducible exact trivial) | ((with_reducible refine xdrop_app (by rw [List.length_map]; omega) ?_); conv => whnf) | ((with_reducible refine XDrop.desk (by assumption) ?_); conv => whnf) | ((with_reducible refine XArr.ints (by omega) (by omega) (by omega) ?_); conv => whnf) | ((with_reducible refine XArr.intsA (by omega) (by omega) (by omega) ?_); conv => whnf) | ((with_reducible refine XArr.nats ?_ ?_ ?_); omega; omega; conv => whnf) | ((with_reducible refine XArr.natsA ?_ ?_ ?_); omega; omega; conv => whnf) | ((with_reducible apply XArr.pim0); conv => whnf) | ((with_reducible apply XArr.pim1); conv => whnf) | ((with_reducible refine XArr.ptr ?_ ?_ ?_); omega; omega; conv => whnf) | ((with_reducible apply XBr.mk') <;> (intro h; conv => whnf))
        refine XOut.int (ck5 hA hB hC ?_).symm
        rw [hps]
        refine all_false (d := default) (i := k) (by omega) ?_
        rw [off_in, Bool.not_eq_true', e1] at hc
        unfold prIn; rw [hc]; rfl
    · rw [Bool.not_eq_true] at hc
      apply Walk.drawX tab_ok mixed_ok [] [] (hsK _) [_, _, _, _, _, _, _, _, _, _, .bool false, _, _, _, _, _, _, _, _, _, _, .bool (offB (ps.getD k default).2 0 (((l.sacks.map skA).length : Int) - 1))] (by kernel_rfl) rfl
      · skip
        repeat' first | ((with_reducible apply XBr.tt); conv => whnf) | ((with_reducible apply XBr.ff); conv => whnf) | (with_reducible apply XBr.not) | ((with_reducible apply XBr.dec) <;> (intro h; first | (exfalso; omega) | ((try simp only [List.length_map] at h); first | (exfalso; omega) | (conv => whnf)))) | ((with_reducible apply XBr.beq) <;> (intro h; first | (exfalso; omega) | (conv => whnf))) | ((with_reducible apply XBr.bne) <;> (intro h; first | (exfalso; omega) | (conv => whnf))) | ((with_reducible refine XInt.i64 (by omega) (by omega) ?_); conv => whnf) | ((with_reducible refine XHold.mk ?_ ?_); (first | omega | rfl | decide | exact ⟨rfl, by decide, rfl⟩ | exact wideI _ | exact widePr _ | exact wideSk _ | (unfold Room; constructor <;> ((try simp) <;> omega)) | exact ⟨rfl, by simp only [List.length_map], by unfold Room; constructor <;> ((try simp) <;> omega)⟩ | exact ⟨by omega, by omega, by unfold Room; constructor <;> ((try simp) <;> omega)⟩); conv => whnf) | ((with_reducible refine XIx.nat ?_ ?_ ?_); omega; (intro _; rfl); conv => whnf) | ((with_reducible refine XIx.map ?_ ?_ ?_ ?_); omega; omega; (intro _; rfl); conv => whnf) | (with_reducible apply XAnd.mk) | ((with_reducible apply Chk.go); conv => whnf) | ((with_reducible apply ChkA.go); conv => whnf) | ((with_reducible apply ChkF.go); conv => whnf) | ((with_reducible apply ChkB.go); conv => whnf) | (exact XSame.mk rfl rfl) | (exact XSame.mk (by first | rfl | (simp only [List.map_append, List.length_append, List.length_map]; done) | (simp only [List.map_append, List.length_append, List.length_map]; rfl)) (by first | rfl | (simp only [List.map_append]; done) | (simp only [List.map_append]; rfl))) | (with_reducible exact trivial) | ((with_reducible refine xdrop_app (by rw [List.length_map]; omega) ?_); conv => whnf) | ((with_reducible refine XDrop.desk (by assumption) ?_); conv => whnf) | ((with_reducible refine XArr.ints (by omega) (by omega) (by omega) ?_); conv => whnf) | ((with_reducible refine XArr.intsA (by omega) (by omega) (by omega) ?_); conv => whnf) | ((with_reducible refine XArr.nats ?_ ?_ ?_); omega; omega; conv => whnf) | ((with_reducible refine XArr.natsA ?_ ?_ ?_); omega; omega; conv => whnf) | ((with_reducible apply XArr.pim0); conv => whnf) | ((with_reducible apply XArr.pim1); conv => whnf) | ((with_reducible refine XArr.ptr ?_ ?_ ?_); omega; omega; conv => whnf) | ((refine XHold.mk ⟨List.length_map _, rfl, by omega, by omega⟩ ?_); conv => whnf) | ((refine XHold.mk (List.length_map _) ?_); conv => whnf) | ((refine XArr.gp (by decide) (by decide) ?_); conv => whnf) | ((refine XGet.map rfl (by omega) ?_); conv => whnf) | (refine XCall.ret (off_c _ _ _) ?_; conv => whnf) | (exact XSame.mk (congrArg AV.bool hc) rfl) | ((with_reducible apply XBr.mk') <;> (intro h; conv => whnf))
      · skip
        repeat' first | ((with_reducible apply XBr.tt); conv => whnf) | ((with_reducible apply XBr.ff); conv => whnf) | (with_reducible apply XBr.not) | ((with_reducible apply XBr.dec) <;> (intro h; first | (exfalso; omega) | ((try simp only [List.length_map] at h); first | (exfalso; omega) | (conv => whnf)))) | ((with_reducible apply XBr.beq) <;> (intro h; first | (exfalso; omega) | (conv => whnf))) | ((with_reducible apply XBr.bne) <;> (intro h; first | (exfalso; omega) | (conv => whnf))) | ((with_reducible refine XInt.i64 (by omega) (by omega) ?_); conv => whnf) | ((with_reducible refine XHold.mk ?_ ?_); (first | omega | rfl | decide | exact ⟨rfl, by decide, rfl⟩ | exact wideI _ | exact widePr _ | exact wideSk _ | (unfold Room; constructor <;> ((try simp) <;> omega)) | exact ⟨rfl, by simp only [List.length_map], by unfold Room; constructor <;> ((try simp) <;> omega)⟩ | exact ⟨by omega, by omega, by unfold Room; constructor <;> ((try simp) <;> omega)⟩); conv => whnf) | ((with_reducible refine XIx.nat ?_ ?_ ?_); omega; (intro _; rfl); conv => whnf) | ((with_reducible refine XIx.map ?_ ?_ ?_ ?_); omega; omega; (intro _; rfl); conv => whnf) | (with_reducible apply XAnd.mk) | ((with_reducible apply Chk.go); conv => whnf) | ((with_reducible apply ChkA.go); conv => whnf) | ((with_reducible apply ChkF.go); conv => whnf) | ((with_reducible apply ChkB.go); conv => whnf) | (exact XSame.mk rfl rfl) | (exact XSame.mk (by first | rfl | (simp only [List.map_append, List.length_append, List.length_map]; done) | (simp only [List.map_append, List.length_append, List.length_map]; rfl)) (by first | rfl | (simp only [List.map_append]; done) | (simp only [List.map_append]; rfl))) | (with_reducible exact trivial) | ((with_reducible refine xdrop_app (by rw [List.length_map]; omega) ?_); conv => whnf) | ((with_reducible refine XDrop.desk (by assumption) ?_); conv => whnf) | ((with_reducible refine XArr.ints (by omega) (by omega) (by omega) ?_); conv => whnf) | ((with_reducible refine XArr.intsA (by omega) (by omega) (by omega) ?_); conv => whnf) | ((with_reducible refine XArr.nats ?_ ?_ ?_); omega; omega; conv => whnf) | ((with_reducible refine XArr.natsA ?_ ?_ ?_); omega; omega; conv => whnf) | ((with_reducible apply XArr.pim0); conv => whnf) | ((with_reducible apply XArr.pim1); conv => whnf) | ((with_reducible refine XArr.ptr ?_ ?_ ?_); omega; omega; conv => whnf) | ((refine XHold.mk ⟨List.length_map _, rfl, by omega, by omega⟩ ?_); conv => whnf) | ((refine XHold.mk (List.length_map _) ?_); conv => whnf) | ((refine XArr.gp (by decide) (by decide) ?_); conv => whnf) | ((refine XGet.map rfl (by omega) ?_); conv => whnf) | (refine XCall.ret (off_c _ _ _) ?_; conv => whnf) | (exact XSame.mk (congrArg AV.bool hc) rfl) | ((with_reducible apply XBr.mk') <;> (intro h; conv => whnf))
      · conv => whnf
        repeat' first | ((with_reducible apply XBr.tt); conv => whnf) | ((with_reducible apply XBr.ff); conv => whnf) | (with_reducible apply XBr.not) | ((with_reducible apply XBr.dec) <;> (intro h; first | (exfalso; omega) | ((try simp only [List.length_map] at h); first | (exfalso; omega) | (conv => whnf)))) | ((with_reducible apply XBr.beq) <;> (intro h; first | (exfalso; omega) | (conv => whnf))) | ((with_reducible apply XBr.bne) <;> (intro h; first | (exfalso; omega) | (conv => whnf))) | ((with_reducible refine XInt.i64 (by omega) (by omega) ?_); conv => whnf) | ((with_reducible refine XHold.mk ?_ ?_); (first | omega | rfl | decide | exact ⟨rfl, by decide, rfl⟩ | exact wideI _ | exact widePr _ | exact wideSk _ | (unfold Room; constructor <;> ((try simp) <;> omega)) | exact ⟨rfl, by simp only [List.length_map], by unfold Room; constructor <;> ((try simp) <;> omega)⟩ | exact ⟨by omega, by omega, by unfold Room; constructor <;> ((try simp) <;> omega)⟩); conv => whnf) | ((with_reducible refine XIx.nat ?_ ?_ ?_); omega; (intro _; rfl); conv => whnf) | ((with_reducible refine XIx.map ?_ ?_ ?_ ?_); omega; omega; (intro _; rfl); conv => whnf) | (with_reducible apply XAnd.mk) | ((with_reducible apply Chk.go); conv => whnf) | ((with_reducible apply ChkA.go); conv => whnf) | ((with_reducible apply ChkF.go); conv => whnf) | ((with_reducible apply ChkB.go); conv => whnf) | (exact XSame.mk rfl rfl) | (exact XSame.mk (by first | rfl | (simp only [List.map_append, List.length_append, List.length_map]; done) | (simp only [List.map_append, List.length_append, List.length_map]; rfl)) (by first | rfl | (simp only [List.map_append]; done) | (simp only [List.map_append]; rfl))) | (with_reducible exact trivial) | ((with_reducible refine xdrop_app (by rw [List.length_map]; omega) ?_); conv => whnf) | ((with_reducible refine XDrop.desk (by assumption) ?_); conv => whnf) | ((with_reducible refine XArr.ints (by omega) (by omega) (by omega) ?_); conv => whnf) | ((with_reducible refine XArr.intsA (by omega) (by omega) (by omega) ?_); conv => whnf) | ((with_reducible refine XArr.nats ?_ ?_ ?_); omega; omega; conv => whnf) | ((with_reducible refine XArr.natsA ?_ ?_ ?_); omega; omega; conv => whnf) | ((with_reducible apply XArr.pim0); conv => whnf) | ((with_reducible apply XArr.pim1); conv => whnf) | ((with_reducible refine XArr.ptr ?_ ?_ ?_); omega; omega; conv => whnf) | ((with_reducible apply XBr.mk') <;> (intro h; conv => whnf))
        · refine XOut.int (ck5 hA hB hC ?_).symm
          rw [hps]
          refine all_false (d := default) (i := k) (by omega) ?_
          rw [off_in, Bool.not_eq_true', e1] at h
          unfold prIn; rw [h, Bool.and_false]
        · refine XAgain.go (k + 1) ⟨by omega, fun j hj => ?_⟩ (by omega) rfl ⟨rfl, rfl, rfl, trivial⟩
          by_cases e : j = k
          · subst e
            rw [off_in, Bool.not_eq_false', e1] at h hc
            unfold prIn; rw [h, hc]; rfl
          · exact hks j (by omega)
  have hD : (l.apart ++ l.wth).all (prIn l) = true := by rw [hps]; exact all_true (d := default) fun j hj => hks j (by omega)
  clear hks
  refine Walk.loop tab_ok [] (fun k : Nat => k ≤ ps.length ∧ ∀ j, j < k → ((ps.getD j default).1 != (ps.getD j default).2) = true) (fun k => [(4, .gr 0 ps.length), (6, natA k)]) (fun _ => [.grow 118 false (ps.map prA)]) (fun k => ps.length - k) 0 ⟨by omega, by omega⟩ rfl ⟨rfl, rfl, trivial⟩ ?_
  clear hk
  rintro k ⟨hk, hks⟩
  conv => whnf
  repeat' first | ((with_reducible apply XBr.tt); conv => whnf) | ((with_reducible apply XBr.ff); conv => whnf) | (with_reducible apply XBr.not) | ((with_reducible apply XBr.dec) <;> (intro h; first | (exfalso; omega) | ((try simp only [List.length_map] at h); first | (exfalso; omega) | (conv => whnf)))) | ((with_reducible apply XBr.beq) <;> (intro h; first | (exfalso; omega) | (conv => whnf))) | ((with_reducible apply XBr.bne) <;> (intro h; first | (exfalso; omega) | (conv => whnf))) | ((with_reducible refine XInt.i64 (by omega) (by omega) ?_); conv => whnf) | ((with_reducible refine XHold.mk ?_ ?_); (first | omega | rfl | decide | exact ⟨rfl, by decide, rfl⟩ | exact wideI _ | exact widePr _ | exact wideSk _ | (unfold Room; constructor <;> ((try simp) <;> omega)) | exact ⟨rfl, by simp only [List.length_map], by unfold Room; constructor <;> ((try simp) <;> omega)⟩ | exact ⟨by omega, by omega, by unfold Room; constructor <;> ((try simp) <;> omega)⟩); conv => whnf) | ((with_reducible refine XIx.nat ?_ ?_ ?_); omega; (intro _; rfl); conv => whnf) | ((with_reducible refine XIx.map ?_ ?_ ?_ ?_); omega; omega; (intro _; rfl); conv => whnf) | (with_reducible apply XAnd.mk) | ((with_reducible apply Chk.go); conv => whnf) | ((with_reducible apply ChkA.go); conv => whnf) | ((with_reducible apply ChkF.go); conv => whnf) | ((with_reducible apply ChkB.go); conv => whnf) | (exact XSame.mk rfl rfl) | (exact XSame.mk (by first | rfl | (simp only [List.map_append, List.length_append, List.length_map]; done) | (simp only [List.map_append, List.length_append, List.length_map]; rfl)) (by first | rfl | (simp only [List.map_append]; done) | (simp only [List.map_append]; rfl))) | (with_reducible exact trivial) | ((with_reducible refine xdrop_app (by rw [List.length_map]; omega) ?_); conv => whnf) | ((with_reducible refine XDrop.desk (by assumption) ?_); conv => whnf) | ((with_reducible refine XArr.ints (by omega) (by omega) (by omega) ?_); conv => whnf) | ((with_reducible refine XArr.intsA (by omega) (by omega) (by omega) ?_); conv => whnf) | ((with_reducible refine XArr.nats ?_ ?_ ?_); omega; omega; conv => whnf) | ((with_reducible refine XArr.natsA ?_ ?_ ?_); omega; omega; conv => whnf) | ((with_reducible apply XArr.pim0); conv => whnf) | ((with_reducible apply XArr.pim1); conv => whnf) | ((with_reducible refine XArr.ptr ?_ ?_ ?_); omega; omega; conv => whnf) | ((refine XHold.mk ⟨List.length_map _, rfl, by omega, by omega⟩ ?_); conv => whnf) | ((refine XHold.mk (List.length_map _) ?_); conv => whnf) | ((refine XArr.gp (by decide) (by decide) ?_); conv => whnf) | ((refine XGet.map rfl (by omega) ?_); conv => whnf) | (refine XCall.ret (off_c _ _ _) ?_; conv => whnf) | ((with_reducible apply XBr.mk') <;> (intro h; conv => whnf))
  · apply Walk.drawX tab_ok mixed_ok [] [] (hsK _) [_, _, _, _, _, _, _, _, _, _, .bool ((ps.getD k default).1 == (ps.getD k default).2)] (by kernel_rfl) rfl
    · skip
      repeat' first | ((with_reducible apply XBr.tt); conv => whnf) | ((with_reducible apply XBr.ff); conv => whnf) | (with_reducible apply XBr.not) | ((with_reducible apply XBr.dec) <;> (intro h; first | (exfalso; omega) | ((try simp only [List.length_map] at h); first | (exfalso; omega) | (conv => whnf)))) | ((with_reducible apply XBr.beq) <;> (intro h; first | (exfalso; omega) | (conv => whnf))) | ((with_reducible apply XBr.bne) <;> (intro h; first | (exfalso; omega) | (conv => whnf))) | ((with_reducible refine XInt.i64 (by omega) (by omega) ?_); conv => whnf) | ((with_reducible refine XHold.mk ?_ ?_); (first | omega | rfl | decide | exact ⟨rfl, by decide, rfl⟩ | exact wideI _ | exact widePr _ | exact wideSk _ | (unfold Room; constructor <;> ((try simp) <;> omega)) | exact ⟨rfl, by simp only [List.length_map], by unfold Room; constructor <;> ((try simp) <;> omega)⟩ | exact ⟨by omega, by omega, by unfold Room; constructor <;> ((try simp) <;> omega)⟩); conv => whnf) | ((with_reducible refine XIx.nat ?_ ?_ ?_); omega; (intro _; rfl); conv => whnf) | ((with_reducible refine XIx.map ?_ ?_ ?_ ?_); omega; omega; (intro _; rfl); conv => whnf) | (with_reducible apply XAnd.mk) | ((with_reducible apply Chk.go); conv => whnf) | ((with_reducible apply ChkA.go); conv => whnf) | ((with_reducible apply ChkF.go); conv => whnf) | ((with_reducible apply ChkB.go); conv => whnf) | (exact XSame.mk rfl rfl) | (exact XSame.mk (by first | rfl | (simp only [List.map_append, List.length_append, List.length_map]; done) | (simp only [List.map_append, List.length_append, List.length_map]; rfl)) (by first | rfl | (simp only [List.map_append]; done) | (simp only [List.map_append]; rfl))) | (with_reducible exact trivial) | ((with_reducible refine xdrop_app (by rw [List.length_map]; omega) ?_); conv => whnf) | ((with_reducible refine XDrop.desk (by assumption) ?_); conv => whnf) | ((with_reducible refine XArr.ints (by omega) (by omega) (by omega) ?_); conv => whnf) | ((with_reducible refine XArr.intsA (by omega) (by omega) (by omega) ?_); conv => whnf) | ((with_reducible refine XArr.nats ?_ ?_ ?_); omega; omega; conv => whnf) | ((with_reducible refine XArr.natsA ?_ ?_ ?_); omega; omega; conv => whnf) | ((with_reducible apply XArr.pim0); conv => whnf) | ((with_reducible apply XArr.pim1); conv => whnf) | ((with_reducible refine XArr.ptr ?_ ?_ ?_); omega; omega; conv => whnf) | ((refine XHold.mk ⟨List.length_map _, rfl, by omega, by omega⟩ ?_); conv => whnf) | ((refine XHold.mk (List.length_map _) ?_); conv => whnf) | ((refine XArr.gp (by decide) (by decide) ?_); conv => whnf) | ((refine XGet.map rfl (by omega) ?_); conv => whnf) | (refine XCall.ret (off_c _ _ _) ?_; conv => whnf) | ((with_reducible apply XBr.mk') <;> (intro h; conv => whnf))
    · skip
      repeat' first | ((with_reducible apply XBr.tt); conv => whnf) | ((with_reducible apply XBr.ff); conv => whnf) | (with_reducible apply XBr.not) | ((with_reducible apply XBr.dec) <;> (intro h; first | (exfalso; omega) | ((try simp only [List.length_map] at h); first | (exfalso; omega) | (conv => whnf)))) | ((with_reducible apply XBr.beq) <;> (intro h; first | (exfalso; omega) | (conv => whnf))) | ((with_reducible apply XBr.bne) <;> (intro h; first | (exfalso; omega) | (conv => whnf))) | ((with_reducible refine XInt.i64 (by omega) (by omega) ?_); conv => whnf) | ((with_reducible refine XHold.mk ?_ ?_); (first | omega | rfl | decide | exact ⟨rfl, by decide, rfl⟩ | exact wideI _ | exact widePr _ | exact wideSk _ | (unfold Room; constructor <;> ((try simp) <;> omega)) | exact ⟨rfl, by simp only [List.length_map], by unfold Room; constructor <;> ((try simp) <;> omega)⟩ | exact ⟨by omega, by omega, by unfold Room; constructor <;> ((try simp) <;> omega)⟩); conv => whnf) | ((with_reducible refine XIx.nat ?_ ?_ ?_); omega; (intro _; rfl); conv => whnf) | ((with_reducible refine XIx.map ?_ ?_ ?_ ?_); omega; omega; (intro _; rfl); conv => whnf) | (with_reducible apply XAnd.mk) | ((with_reducible apply Chk.go); conv => whnf) | ((with_reducible apply ChkA.go); conv => whnf) | ((with_reducible apply ChkF.go); conv => whnf) | ((with_reducible apply ChkB.go); conv => whnf) | (exact XSame.mk rfl rfl) | (exact XSame.mk (by first | rfl | (simp only [List.map_append, List.length_append, List.length_map]; done) | (simp only [List.map_append, List.length_append, List.length_map]; rfl)) (by first | rfl | (simp only [List.map_append]; done) | (simp only [List.map_append]; rfl))) | (with_reducible exact trivial) | ((with_reducible refine xdrop_app (by rw [List.length_map]; omega) ?_); conv => whnf) | ((with_reducible refine XDrop.desk (by assumption) ?_); conv => whnf) | ((with_reducible refine XArr.ints (by omega) (by omega) (by omega) ?_); conv => whnf) | ((with_reducible refine XArr.intsA (by omega) (by omega) (by omega) ?_); conv => whnf) | ((with_reducible refine XArr.nats ?_ ?_ ?_); omega; omega; conv => whnf) | ((with_reducible refine XArr.natsA ?_ ?_ ?_); omega; omega; conv => whnf) | ((with_reducible apply XArr.pim0); conv => whnf) | ((with_reducible apply XArr.pim1); conv => whnf) | ((with_reducible refine XArr.ptr ?_ ?_ ?_); omega; omega; conv => whnf) | ((refine XHold.mk ⟨List.length_map _, rfl, by omega, by omega⟩ ?_); conv => whnf) | ((refine XHold.mk (List.length_map _) ?_); conv => whnf) | ((refine XArr.gp (by decide) (by decide) ?_); conv => whnf) | ((refine XGet.map rfl (by omega) ?_); conv => whnf) | (refine XCall.ret (off_c _ _ _) ?_; conv => whnf) | ((with_reducible apply XBr.mk') <;> (intro h; conv => whnf))
    · conv => whnf
      repeat' first | ((with_reducible apply XBr.tt); conv => whnf) | ((with_reducible apply XBr.ff); conv => whnf) | (with_reducible apply XBr.not) | ((with_reducible apply XBr.dec) <;> (intro h; first | (exfalso; omega) | ((try simp only [List.length_map] at h); first | (exfalso; omega) | (conv => whnf)))) | ((with_reducible apply XBr.beq) <;> (intro h; first | (exfalso; omega) | (conv => whnf))) | ((with_reducible apply XBr.bne) <;> (intro h; first | (exfalso; omega) | (conv => whnf))) | ((with_reducible refine XInt.i64 (by omega) (by omega) ?_); conv => whnf) | ((with_reducible refine XHold.mk ?_ ?_); (first | omega | rfl | decide | exact ⟨rfl, by decide, rfl⟩ | exact wideI _ | exact widePr _ | exact wideSk _ | (unfold Room; constructor <;> ((try simp) <;> omega)) | exact ⟨rfl, by simp only [List.length_map], by unfold Room; constructor <;> ((try simp) <;> omega)⟩ | exact ⟨by omega, by omega, by unfold Room; constructor <;> ((try simp) <;> omega)⟩); conv => whnf) | ((with_reducible refine XIx.nat ?_ ?_ ?_); omega; (intro _; rfl); conv => whnf) | ((with_reducible refine XIx.map ?_ ?_ ?_ ?_); omega; omega; (intro _; rfl); conv => whnf) | (with_reducible apply XAnd.mk) | ((with_reducible apply Chk.go); conv => whnf) | ((with_reducible apply ChkA.go); conv => whnf) | ((with_reducible apply ChkF.go); conv => whnf) | ((with_reducible apply ChkB.go); conv => whnf) | (exact XSame.mk rfl rfl) | (exact XSame.mk (by first | rfl | (simp only [List.map_append, List.length_append, List.length_map]; done) | (simp only [List.map_append, List.length_append, List.length_map]; rfl)) (by first | rfl | (simp only [List.map_append]; done) | (simp only [List.map_append]; rfl))) | (with_reducible exact trivial) | ((with_reducible refine xdrop_app (by rw [List.length_map]; omega) ?_); conv => whnf) | ((with_reducible refine XDrop.desk (by assumption) ?_); conv => whnf) | ((with_reducible refine XArr.ints (by omega) (by omega) (by omega) ?_); conv => whnf) | ((with_reducible refine XArr.intsA (by omega) (by omega) (by omega) ?_); conv => whnf) | ((with_reducible refine XArr.nats ?_ ?_ ?_); omega; omega; conv => whnf) | ((with_reducible refine XArr.natsA ?_ ?_ ?_); omega; omega; conv => whnf) | ((with_reducible apply XArr.pim0); conv => whnf) | ((with_reducible apply XArr.pim1); conv => whnf) | ((with_reducible refine XArr.ptr ?_ ?_ ?_); omega; omega; conv => whnf) | ((with_reducible apply XBr.mk') <;> (intro h; conv => whnf))
      · refine XOut.int (ck6 hA hB hC hD ?_).symm
        rw [hps]
        exact all_false (d := default) (i := k) (by omega) (by rw [bne_eq_false_iff_eq]; exact h)
      · refine XAgain.go (k + 1) ⟨by omega, fun j hj => ?_⟩ (by omega) rfl ⟨rfl, rfl, trivial⟩
        by_cases e : j = k
        · subst e; rw [bne_iff_ne]; exact h
        · exact hks j (by omega)
  · refine XOut.int (ck0 hA hB hC hD ?_).symm
    rw [hps]; exact all_true (d := default) fun j hj => hks j (by omega)
end GA
end

section
namespace GA
open Go Go.RowKit Go.Proofs
set_option maxRecDepth 8000
set_option linter.unusedVariables false
set_option linter.unusedSimpArgs false

/-- Bundles part the sacks. -/
structure Eqv (n : Nat) (b : List Nat) : Prop where
  self : ∀ i, i < n → (b.getD i 0).testBit i = true
  same : ∀ i j, (b.getD j 0).testBit i = true → b.getD i 0 = b.getD j 0
  lt : ∀ i j, (b.getD j 0).testBit i = true → i < n ∧ j < n
theorem Eqv.zero {n : Nat} (hn : n ≤ 9) : Eqv n (ndI n) := by
  have g : ∀ i j, ((ndI n).getD j 0).testBit i = true → i = j ∧ j < n := by
    intro i j h
    by_cases hj : j < 9
    · rw [ndI_get hj] at h
      split at h
      · rw [Nat.testBit_two_pow, decide_eq_true_eq] at h; exact ⟨h.symm, by assumption⟩
      · rw [Nat.zero_testBit] at h; cases h
    · rw [List.getD_eq_getElem?_getD, List.getElem?_eq_none (by rw [ndI_len]; omega), Option.getD_none, Nat.zero_testBit] at h; cases h
  refine ⟨fun i hi => ?_, fun i j h => by rw [(g i j h).1], fun i j h => ?_⟩
  · rw [ndI_get (by omega), if_pos hi, Nat.testBit_two_pow_self]
  · have := g i j h; omega
theorem Eqv.step {n : Nat} {b : List Nat} {p : Int × Int} (h : Eqv n b) (hn : n ≤ 9) (hb : b.length = 9) (h1 : p.1.toNat < n) (h2 : p.2.toNat < n) : Eqv n (joinStep b p) := by
  have ain : ∀ x, (allP b p).testBit x = true → (b.getD p.1.toNat 0).testBit x = true ∨ (b.getD p.2.toNat 0).testBit x = true := fun x hx => by
    unfold allP at hx; rw [Nat.testBit_or, Bool.or_eq_true] at hx; exact hx
  have sub : ∀ x, (allP b p).testBit x = true → Sub (b.getD x 0) (allP b p) := by
    intro x hx y hy
    unfold allP; rw [Nat.testBit_or, Bool.or_eq_true]
    rcases ain x hx with hx | hx
    · rw [h.same _ _ hx] at hy; exact .inl hy
    · rw [h.same _ _ hx] at hy; exact .inr hy
  have alt : ∀ x, (allP b p).testBit x = true → x < n := fun x hx => (ain x hx).elim (fun e => (h.lt _ _ e).1) (fun e => (h.lt _ _ e).1)
  have yes : ∀ x, (allP b p).testBit x = true → (joinStep b p).getD x 0 = allP b p := by
    intro x hx
    have := alt x hx
    rw [joinStep_get b p (by omega), if_pos hx]
    apply bit_ext; intro i; rw [Nat.testBit_or]
    cases hi : (b.getD x 0).testBit i
    · rfl
    · rw [sub x hx i hi]; rfl
  have no : ∀ x, x < 9 → (allP b p).testBit x = false → (joinStep b p).getD x 0 = b.getD x 0 := fun x hx ha => by
    rw [joinStep_get b p (by omega), if_neg (by rw [ha]; simp)]
  have big : ∀ x, ¬ x < 9 → (joinStep b p).getD x 0 = 0 := fun x hx => joinStep_none b p (by omega)
  refine ⟨fun i hi => joinStep_sub b p i i (h.self i hi), fun i j hij => ?_, fun i j hij => ?_⟩
  · by_cases hj : j < 9
    · cases ha : (allP b p).testBit j
      · rw [no j hj ha] at hij ⊢
        have hl := h.lt i j hij
        have hi : (allP b p).testBit i = false := by
          cases hb' : (allP b p).testBit i
          · rfl
          · have h3 := sub i hb'
            rw [h.same i j hij] at h3
            have := h3 j (h.self j hl.2)
            rw [ha] at this; cases this
        rw [no i (by omega) hi, h.same i j hij]
      · rw [yes j ha] at hij ⊢
        exact yes i hij
    · rw [big j hj, Nat.zero_testBit] at hij; cases hij
  · by_cases hj : j < 9
    · cases ha : (allP b p).testBit j
      · rw [no j hj ha] at hij; exact h.lt i j hij
      · rw [yes j ha] at hij; exact ⟨alt i hij, alt j ha⟩
    · rw [big j hj, Nat.zero_testBit] at hij; cases hij
theorem Eqv.fold {n : Nat} (hn : n ≤ 9) : ∀ (ps : List (Int × Int)) (b : List Nat), (∀ p ∈ ps, p.1.toNat < n ∧ p.2.toNat < n) → b.length = 9 → Eqv n b → Eqv n (ps.foldl joinStep b)
  | [], _, _, _, h => h
  | p :: ps, b, hp, hb, h => by
    rw [List.foldl_cons]
    have := hp p List.mem_cons_self
    exact Eqv.fold hn ps _ (fun q hq => hp q (List.mem_cons_of_mem _ hq)) (by rw [joinStep_len]; exact hb) (h.step hn hb this.1 this.2)
theorem Eqv.close {l : Ld} {n : Nat} (hn : n ≤ 9) (hp : ∀ p ∈ l.wth, p.1.toNat < n ∧ p.2.toNat < n) : ∀ (k : Nat) (b : List Nat), b.length = 9 → Eqv n b → Eqv n (closeF l k b)
  | 0, _, _, h => h
  | k + 1, b, hb, h => by
    show Eqv n (if joinR l b = b then b else closeF l k (joinR l b))
    split
    · exact h
    · exact Eqv.close hn hp k _ (by rw [joinR_len]; exact hb) (Eqv.fold hn _ _ hp hb h)
/-- The bundle of a sack, as a set. -/
def ndS (l : Ld) (i : Nat) : Nat := (openD l).nd.getD i 0
theorem nd_eqv {l : Ld} (o : LdOk l) : Eqv l.sacks.length (openD l).nd :=
  Eqv.close o.n (fun p hp => by have := o.wp p hp; omega) 5000 _ (ndI_len _) (Eqv.zero o.n)
theorem nd_cl {l : Ld} (o : LdOk l) (i : Nat) : Cl l (ndS l i) := by
  have E := nd_eqv o
  intro p hp
  have b := o.wp p hp
  have hn := o.n
  have e := nd_fix o p hp
  have k1 := nd_self o (i := p.1.toNat) (by omega)
  have k2 := nd_self o (i := p.2.toNat) (by omega)
  have g1 : (allP (openD l).nd p).testBit p.1.toNat = true := by unfold allP; rw [Nat.testBit_or, k1]; rfl
  have g2 : (allP (openD l).nd p).testBit p.2.toNat = true := by unfold allP; rw [Nat.testBit_or, k2, Bool.or_true]
  have e1 := joinStep_get (openD l).nd p (i := p.1.toNat) (by rw [nd_len]; omega)
  have e2 := joinStep_get (openD l).nd p (i := p.2.toNat) (by rw [nd_len]; omega)
  rw [e, if_pos g1] at e1
  rw [e, if_pos g2] at e2
  have s1 : (ndS l i).testBit p.1.toNat = true → (ndS l i).testBit p.2.toNat = true := fun h => by
    have := E.same _ _ h
    show ((openD l).nd.getD i 0).testBit _ = true
    rw [← this, e1, Nat.testBit_or, g2, Bool.or_true]
  have s2 : (ndS l i).testBit p.2.toNat = true → (ndS l i).testBit p.1.toNat = true := fun h => by
    have := E.same _ _ h
    show ((openD l).nd.getD i 0).testBit _ = true
    rw [← this, e2, Nat.testBit_or, g1, Bool.or_true]
  cases h1 : (ndS l i).testBit p.1.toNat
  · cases h2 : (ndS l i).testBit p.2.toNat
    · rfl
    · rw [s2 h2] at h1; cases h1
  · rw [s1 h1]
theorem ndS_lt {l : Ld} (o : LdOk l) (i : Nat) : ndS l i < 2 ^ l.sacks.length := by
  apply Nat.lt_pow_two_of_testBit
  intro j hj
  cases h : (ndS l i).testBit j
  · rfl
  · have := (nd_eqv o).lt j i h; omega
/-- A row of truths as a set. -/
def setN : List Bool → Nat
  | [] => 0
  | b :: bs => 2 * setN bs + b.toNat
theorem setN_bit : ∀ (bs : List Bool) (k : Nat), (setN bs).testBit k = bs.getD k false
  | [], k => by simp [setN]
  | b :: bs, 0 => by
    unfold setN; rw [Nat.testBit_zero]; cases b <;> simp <;> omega
  | b :: bs, k + 1 => by
    unfold setN; rw [Nat.testBit_succ, show (2 * setN bs + b.toNat) / 2 = setN bs by cases b <;> simp <;> omega, setN_bit bs k]; rfl
theorem setN_lt : ∀ (bs : List Bool), setN bs < 2 ^ bs.length
  | [] => by simp [setN]
  | b :: bs => by
    have := setN_lt bs
    unfold setN; rw [List.length_cons, Nat.pow_succ]; cases b <;> simp <;> omega
/-- A set as a row of truths. -/
def boolN (n s : Nat) : List Bool := (List.range n).map fun k => s.testBit k
theorem boolN_len (n s : Nat) : (boolN n s).length = n := by simp [boolN]
theorem boolN_get {n s k : Nat} (hk : k < n) : (boolN n s).getD k false = s.testBit k := by
  unfold boolN; rw [List.getD_eq_getElem?_getD, List.getElem?_map, List.getElem?_range hk]; rfl
theorem setN_boolN {n s : Nat} (h : s < 2 ^ n) : setN (boolN n s) = s := bit_ext fun k => by
  rw [setN_bit]
  by_cases hk : k < n
  · exact boolN_get hk
  · rw [List.getD_eq_getElem?_getD, List.getElem?_eq_none (by rw [boolN_len]; omega)]
    exact (Nat.testBit_lt_two_pow (Nat.lt_of_lt_of_le h (Nat.pow_le_pow_right (by omega) (by omega)))).symm
theorem bool_ext {bs : List Bool} {n s : Nat} (hl : bs.length = n) (h : ∀ k, k < n → bs.getD k false = s.testBit k) : bs = boolN n s :=
  eq_of_getD (d := false) (by rw [boolN_len, hl]) fun j hj => by rw [h j (by omega), boolN_get (by omega)]
/-- What a round of pairs does. -/
structure BunOk (l : Ld) (i : Nat) (bs : List Bool) : Prop where
  n : bs.length = l.sacks.length
  me : bs.getD i false = true
  sub : ∀ k, bs.getD k false = true → (ndS l i).testBit k = true
theorem BunOk.done {l : Ld} (o : LdOk l) {i : Nat} {bs : List Bool} (h : BunOk l i bs) (hi : i < l.sacks.length) (hc : ∀ p ∈ l.wth, bs.getD p.1.toNat false = bs.getD p.2.toNat false) : bs = boolN l.sacks.length (ndS l i) := by
  refine bool_ext h.n fun k hk => ?_
  have cl : Cl l (setN bs) := fun p hp => by rw [setN_bit, setN_bit]; exact hc p hp
  have hl := nd_least cl (i := i) (by rw [setN_bit]; exact h.me)
  cases hb : bs.getD k false
  · cases ht : (ndS l i).testBit k
    · rfl
    · have := hl k ht; rw [setN_bit, hb] at this; cases this
  · exact (h.sub k hb).symm
theorem getD_setB (xs : List Bool) (i j : Nat) (v : Bool) : (xs.set i v).getD j false = if i = j ∧ i < xs.length then v else xs.getD j false := getD_set xs i j v false
theorem BunOk.both {l : Ld} (o : LdOk l) {i : Nat} {bs : List Bool} (h : BunOk l i bs) {p : Int × Int} (hp : p ∈ l.wth) (hne : bs.getD p.1.toNat false ≠ bs.getD p.2.toNat false) : BunOk l i ((bs.set p.1.toNat true).set p.2.toNat true) := by
  have hcl := nd_cl o i p hp
  have hin : (ndS l i).testBit p.1.toNat = true ∧ (ndS l i).testBit p.2.toNat = true := by
    cases h1 : bs.getD p.1.toNat false
    · cases h2 : bs.getD p.2.toNat false
      · rw [h1, h2] at hne; exact absurd rfl hne
      · have := h.sub _ h2; exact ⟨by rw [hcl]; exact this, this⟩
    · have := h.sub _ h1; exact ⟨this, by rw [← hcl]; exact this⟩
  refine ⟨by rw [List.length_set, List.length_set]; exact h.n, ?_, fun k hk => ?_⟩
  · rw [getD_setB, getD_setB]; split
    · rfl
    · split
      · rfl
      · exact h.me
  · rw [getD_setB, getD_setB] at hk
    split at hk
    · rename_i e; rw [← e.1]; exact hin.2
    · split at hk
      · rename_i e; rw [← e.1]; exact hin.1
      · exact h.sub k hk
def cntF (bs : List Bool) : Nat := bs.countP (fun b => !b)
theorem cnt_set : ∀ (bs : List Bool) (i : Nat), cntF (bs.set i true) ≤ cntF bs ∧ (bs.getD i true = false → cntF (bs.set i true) < cntF bs)
  | [], i => by simp [cntF]
  | b :: bs, 0 => by cases b <;> simp [cntF]
  | b :: bs, i + 1 => by
    have := cnt_set bs i
    unfold cntF at this ⊢
    rw [List.set_cons_succ, List.countP_cons, List.countP_cons, List.getD_cons_succ]
    exact ⟨by omega, fun h => by have := this.2 h; omega⟩
theorem cnt_both {bs : List Bool} {a b : Nat} (ha : a < bs.length) (hb : b < bs.length) (hne : bs.getD a false ≠ bs.getD b false) : cntF ((bs.set a true).set b true) < cntF bs := by
  have h1 := cnt_set bs a
  have h2 := cnt_set (bs.set a true) b
  have e : ∀ (xs : List Bool) i, i < xs.length → xs.getD i true = xs.getD i false := fun xs i hi => by
    rw [List.getD_eq_getElem?_getD, List.getD_eq_getElem?_getD, List.getElem?_eq_getElem hi]; rfl
  cases hx : bs.getD a false
  · have := h1.2 (by rw [e _ _ ha, hx]); omega
  · cases hy : bs.getD b false
    · have := h2.2 (by
        rw [e _ _ (by rw [List.length_set]; exact hb), getD_setB]
        split
        · rename_i hh; rw [hh.1, hy] at hx; cases hx
        · exact hy)
      omega
    · rw [hx, hy] at hne; exact absurd rfl hne
end GA
end

section
namespace GA
open Go Go.RowKit Go.Proofs
set_option pp.deepTerms true
set_option maxRecDepth 8000
set_option linter.unusedVariables false
set_option linter.unusedSimpArgs false

abbrev bools (xs : List Bool) : List AV := xs.map .bool
theorem lowBo {n : Nat} (xs : List Bool) : lowL n (bools xs) = true := lowL_map (fun _ => rfl) xs
theorem XPut.bools {els : List AV} {n e : Nat} {k : List AV → Prop} (xs : List Bool) (x : Bool) (hE : els = GA.bools xs) (h1 : n = xs.length) (h2 : e < n) (h : k (GA.bools (xs.set e x))) : XPut els n e (.bool x) k := by
  subst hE; exact XPut.map (f := .bool) x rfl h1 h2 h
theorem refWeight_c (l : Ld) (o : LdOk l) (i : Nat) (hi : i < l.sacks.length) : Comp Try.prog 48 [ldA l, natA i] (.int .i64 (weightR l (l.sacks.getD i default))) := by
  have hs := o.sk _ (getD_mem (d := default) hi)
  have h2 := o.s1
  have h3 := o.s2
  have e1 : 0 ≤ (l.sacks.getD i default).m * l.shrink := Int.mul_nonneg (by omega) h2
  have e2 : (l.sacks.getD i default).m * l.shrink ≤ 100 * 100 := Int.mul_le_mul hs.2.1 (by omega) h2 (by omega)
  have e3 : ((l.sacks.getD i default).m * l.shrink).tdiv 100 = ((l.sacks.getD i default).m * l.shrink) / 100 := Int.tdiv_eq_ediv_of_nonneg e1
  refine Comp.body (T := tab) (res := [.tmp 4]) tab_ok [] Try.func48 rfl (by kernel_rfl) Try.ntmps48 rfl (by simp only [List.length_cons, List.length_nil]; decide) (by simp only [lowL, AV.low, ldL]; rfl) ?_; conv => whnf
  repeat' first | ((with_reducible apply XBr.tt); conv => whnf) | ((with_reducible apply XBr.ff); conv => whnf) | (with_reducible apply XBr.not) | ((with_reducible apply XBr.dec) <;> (intro h; first | (exfalso; omega) | ((try simp only [List.length_map] at h); first | (exfalso; omega) | (conv => whnf)))) | ((with_reducible apply XBr.beq) <;> (intro h; first | (exfalso; omega) | (conv => whnf))) | ((with_reducible apply XBr.bne) <;> (intro h; first | (exfalso; omega) | (conv => whnf))) | ((with_reducible refine XInt.i64 (by omega) (by omega) ?_); conv => whnf) | ((with_reducible refine XHold.mk ?_ ?_); (first | omega | rfl | decide | exact ⟨rfl, by decide, rfl⟩ | exact wideI _ | exact widePr _ | exact wideSk _ | (unfold Room; constructor <;> ((try simp) <;> omega)) | exact ⟨rfl, by simp only [List.length_map], by unfold Room; constructor <;> ((try simp) <;> omega)⟩ | exact ⟨by omega, by omega, by unfold Room; constructor <;> ((try simp) <;> omega)⟩); conv => whnf) | ((with_reducible refine XIx.nat ?_ ?_ ?_); omega; (intro _; rfl); conv => whnf) | ((with_reducible refine XIx.map ?_ ?_ ?_ ?_); omega; omega; (intro _; rfl); conv => whnf) | (with_reducible apply XAnd.mk) | ((with_reducible apply Chk.go); conv => whnf) | ((with_reducible apply ChkA.go); conv => whnf) | ((with_reducible apply ChkF.go); conv => whnf) | ((with_reducible apply ChkB.go); conv => whnf) | (exact XSame.mk rfl rfl) | (exact XSame.mk (by first | rfl | (simp only [List.map_append, List.length_append, List.length_map]; done) | (simp only [List.map_append, List.length_append, List.length_map]; rfl)) (by first | rfl | (simp only [List.map_append]; done) | (simp only [List.map_append]; rfl))) | (with_reducible exact trivial) | ((with_reducible refine xdrop_app (by rw [List.length_map]; omega) ?_); conv => whnf) | ((with_reducible refine XDrop.desk (by assumption) ?_); conv => whnf) | ((with_reducible refine XArr.ints (by omega) (by omega) (by omega) ?_); conv => whnf) | ((with_reducible refine XArr.intsA (by omega) (by omega) (by omega) ?_); conv => whnf) | ((with_reducible refine XArr.nats ?_ ?_ ?_); omega; omega; conv => whnf) | ((with_reducible refine XArr.natsA ?_ ?_ ?_); omega; omega; conv => whnf) | ((with_reducible apply XArr.pim0); conv => whnf) | ((with_reducible apply XArr.pim1); conv => whnf) | ((with_reducible refine XArr.ptr ?_ ?_ ?_); omega; omega; conv => whnf) | ((with_reducible apply XBr.mk') <;> (intro h; conv => whnf))
  refine XOut.int ?_
  rw [e3]; rfl
set_option maxHeartbeats 1000000 in
theorem refBundle_c (l : Ld) (o : LdOk l) (i : Nat) (hi : i < l.sacks.length) : Comp Try.prog 49 [ldA l, natA i] (.sl false (bools (boolN l.sacks.length (ndS l i)))) := by
  have hn := o.n
  have e1 : ((l.sacks.map skA).length : Int) = l.sacks.length := by rw [List.length_map]
  have e3 : ((l.wth.map prA).length : Int) = l.wth.length := by rw [List.length_map]
  have hnw := o.nw
  refine Comp.body (T := tab) (res := [.tmp 4]) tab_ok [] Try.func49 rfl (by kernel_rfl) Try.ntmps49 rfl (by simp only [List.length_cons, List.length_nil]; decide) (by simp only [lowL, AV.low, ldL]; rfl) ?_; conv => whnf
  repeat' first | ((with_reducible apply XBr.tt); conv => whnf) | ((with_reducible apply XBr.ff); conv => whnf) | (with_reducible apply XBr.not) | ((with_reducible apply XBr.dec) <;> (intro h; first | (exfalso; omega) | ((try simp only [List.length_map] at h); first | (exfalso; omega) | (conv => whnf)))) | ((with_reducible apply XBr.beq) <;> (intro h; first | (exfalso; omega) | (conv => whnf))) | ((with_reducible apply XBr.bne) <;> (intro h; first | (exfalso; omega) | (conv => whnf))) | ((with_reducible refine XInt.i64 (by omega) (by omega) ?_); conv => whnf) | ((with_reducible refine XHold.mk ?_ ?_); (first | omega | rfl | decide | exact ⟨rfl, by decide, rfl⟩ | exact wideI _ | exact widePr _ | exact wideSk _ | (unfold Room; constructor <;> ((try simp) <;> omega)) | exact ⟨rfl, by simp only [List.length_map], by unfold Room; constructor <;> ((try simp) <;> omega)⟩ | exact ⟨by omega, by omega, by unfold Room; constructor <;> ((try simp) <;> omega)⟩); conv => whnf) | ((with_reducible refine XIx.nat ?_ ?_ ?_); omega; (intro _; rfl); conv => whnf) | ((with_reducible refine XIx.map ?_ ?_ ?_ ?_); omega; omega; (intro _; rfl); conv => whnf) | (with_reducible apply XAnd.mk) | ((with_reducible apply Chk.go); conv => whnf) | ((with_reducible apply ChkA.go); conv => whnf) | ((with_reducible apply ChkF.go); conv => whnf) | ((with_reducible apply ChkB.go); conv => whnf) | (exact XSame.mk rfl rfl) | (exact XSame.mk (by first | rfl | (simp only [List.map_append, List.length_append, List.length_map]; done) | (simp only [List.map_append, List.length_append, List.length_map]; rfl)) (by first | rfl | (simp only [List.map_append]; done) | (simp only [List.map_append]; rfl))) | (with_reducible exact trivial) | ((with_reducible refine xdrop_app (by rw [List.length_map]; omega) ?_); conv => whnf) | ((with_reducible refine XDrop.desk (by assumption) ?_); conv => whnf) | ((with_reducible refine XArr.ints (by omega) (by omega) (by omega) ?_); conv => whnf) | ((with_reducible refine XArr.intsA (by omega) (by omega) (by omega) ?_); conv => whnf) | ((with_reducible refine XArr.nats ?_ ?_ ?_); omega; omega; conv => whnf) | ((with_reducible refine XArr.natsA ?_ ?_ ?_); omega; omega; conv => whnf) | ((with_reducible apply XArr.pim0); conv => whnf) | ((with_reducible apply XArr.pim1); conv => whnf) | ((with_reducible refine XArr.ptr ?_ ?_ ?_); omega; omega; conv => whnf) | ((refine XHold.mk ⟨by omega, by omega, by unfold Room; constructor <;> omega⟩ ?_); conv => whnf) | ((refine XHold.mk ⟨List.length_replicate, rfl, by omega, by omega⟩ ?_); conv => whnf) | ((refine XPut.mk List.length_replicate.symm (by omega) ?_); conv => whnf) | ((with_reducible apply XBr.mk') <;> (intro h; conv => whnf))
  have hB0 : BunOk l i ((List.replicate l.sacks.length false).set i true) := by
    refine ⟨by simp, ?_, fun k hk => ?_⟩
    · rw [getD_setB, if_pos ⟨rfl, by simpa using hi⟩]
    · rw [getD_setB] at hk
      split at hk
      · rename_i e; rw [← e.1]; exact nd_self o hi
      · rw [List.getD_eq_getElem?_getD, List.getElem?_replicate] at hk; split at hk <;> simp at hk
  refine Walk.loop tab_ok [] (fun g : List Bool × Bool => BunOk l i g.1 ∧ (g.2 = false → ∀ p ∈ l.wth, g.1.getD p.1.toNat false = g.1.getD p.2.toNat false)) (fun g => [(2, .pim (ldC l)), (4, .sl true []), (5, .gr 0 l.sacks.length), (6, .bool g.2)])
    (fun g => [.grow 4 false (bools g.1)]) (fun g => 2 * cntF g.1 + g.2.toNat) ((List.replicate l.sacks.length false).set i true, true) ⟨hB0, fun h => by cases h⟩ ?_ ⟨rfl, rfl, ?_, rfl, trivial⟩ ?_
  · show [Blk.grow 4 false (bools ((List.replicate l.sacks.length false).set i true))] = [Blk.grow 4 false ((List.replicate (((l.sacks.map skA).length : Int)).toNat (AV.bool false)).set i (.bool true))]
    rw [e1]; simp [bools, List.map_set]
  · exact congrArg (fun n => some (AV.gr 0 n)) (by rw [e1]; rfl)
  rintro ⟨bs, g⟩ ⟨hB, hg⟩
  dsimp only at hB hg ⊢
  have hbl := hB.n
  cases g with
  | false =>
    conv => whnf
    repeat' first | ((with_reducible apply XBr.tt); conv => whnf) | ((with_reducible apply XBr.ff); conv => whnf) | (with_reducible apply XBr.not) | ((with_reducible apply XBr.dec) <;> (intro h; first | (exfalso; omega) | ((try simp only [List.length_map] at h); first | (exfalso; omega) | (conv => whnf)))) | ((with_reducible apply XBr.beq) <;> (intro h; first | (exfalso; omega) | (conv => whnf))) | ((with_reducible apply XBr.bne) <;> (intro h; first | (exfalso; omega) | (conv => whnf))) | ((with_reducible refine XInt.i64 (by omega) (by omega) ?_); conv => whnf) | ((with_reducible refine XHold.mk ?_ ?_); (first | omega | rfl | decide | exact ⟨rfl, by decide, rfl⟩ | exact wideI _ | exact widePr _ | exact wideSk _ | (unfold Room; constructor <;> ((try simp) <;> omega)) | exact ⟨rfl, by simp only [List.length_map], by unfold Room; constructor <;> ((try simp) <;> omega)⟩ | exact ⟨by omega, by omega, by unfold Room; constructor <;> ((try simp) <;> omega)⟩); conv => whnf) | ((with_reducible refine XIx.nat ?_ ?_ ?_); omega; (intro _; rfl); conv => whnf) | ((with_reducible refine XIx.map ?_ ?_ ?_ ?_); omega; omega; (intro _; rfl); conv => whnf) | (with_reducible apply XAnd.mk) | ((with_reducible apply Chk.go); conv => whnf) | ((with_reducible apply ChkA.go); conv => whnf) | ((with_reducible apply ChkF.go); conv => whnf) | ((with_reducible apply ChkB.go); conv => whnf) | (exact XSame.mk rfl rfl) | (exact XSame.mk (by first | rfl | (simp only [List.map_append, List.length_append, List.length_map]; done) | (simp only [List.map_append, List.length_append, List.length_map]; rfl)) (by first | rfl | (simp only [List.map_append]; done) | (simp only [List.map_append]; rfl))) | (with_reducible exact trivial) | ((with_reducible refine xdrop_app (by rw [List.length_map]; omega) ?_); conv => whnf) | ((with_reducible refine XDrop.desk (by assumption) ?_); conv => whnf) | ((with_reducible refine XArr.ints (by omega) (by omega) (by omega) ?_); conv => whnf) | ((with_reducible refine XArr.intsA (by omega) (by omega) (by omega) ?_); conv => whnf) | ((with_reducible refine XArr.nats ?_ ?_ ?_); omega; omega; conv => whnf) | ((with_reducible refine XArr.natsA ?_ ?_ ?_); omega; omega; conv => whnf) | ((with_reducible apply XArr.pim0); conv => whnf) | ((with_reducible apply XArr.pim1); conv => whnf) | ((with_reducible refine XArr.ptr ?_ ?_ ?_); omega; omega; conv => whnf) | ((with_reducible apply XBr.mk') <;> (intro h; conv => whnf))
    rw [hB.done o hi (hg rfl)]
    exact ⟨Froz.grow rfl (by rw [List.length_map, boolN_len]) (lowBo _)⟩
  | true =>
    clear hg
    conv => whnf
    repeat' first | ((with_reducible apply XBr.tt); conv => whnf) | ((with_reducible apply XBr.ff); conv => whnf) | (with_reducible apply XBr.not) | ((with_reducible apply XBr.dec) <;> (intro h; first | (exfalso; omega) | ((try simp only [List.length_map] at h); first | (exfalso; omega) | (conv => whnf)))) | ((with_reducible apply XBr.beq) <;> (intro h; first | (exfalso; omega) | (conv => whnf))) | ((with_reducible apply XBr.bne) <;> (intro h; first | (exfalso; omega) | (conv => whnf))) | ((with_reducible refine XInt.i64 (by omega) (by omega) ?_); conv => whnf) | ((with_reducible refine XHold.mk ?_ ?_); (first | omega | rfl | decide | exact ⟨rfl, by decide, rfl⟩ | exact wideI _ | exact widePr _ | exact wideSk _ | (unfold Room; constructor <;> ((try simp) <;> omega)) | exact ⟨rfl, by simp only [List.length_map], by unfold Room; constructor <;> ((try simp) <;> omega)⟩ | exact ⟨by omega, by omega, by unfold Room; constructor <;> ((try simp) <;> omega)⟩); conv => whnf) | ((with_reducible refine XIx.nat ?_ ?_ ?_); omega; (intro _; rfl); conv => whnf) | ((with_reducible refine XIx.map ?_ ?_ ?_ ?_); omega; omega; (intro _; rfl); conv => whnf) | (with_reducible apply XAnd.mk) | ((with_reducible apply Chk.go); conv => whnf) | ((with_reducible apply ChkA.go); conv => whnf) | ((with_reducible apply ChkF.go); conv => whnf) | ((with_reducible apply ChkB.go); conv => whnf) | (exact XSame.mk rfl rfl) | (exact XSame.mk (by first | rfl | (simp only [List.map_append, List.length_append, List.length_map]; done) | (simp only [List.map_append, List.length_append, List.length_map]; rfl)) (by first | rfl | (simp only [List.map_append]; done) | (simp only [List.map_append]; rfl))) | (with_reducible exact trivial) | ((with_reducible refine xdrop_app (by rw [List.length_map]; omega) ?_); conv => whnf) | ((with_reducible refine XDrop.desk (by assumption) ?_); conv => whnf) | ((with_reducible refine XArr.ints (by omega) (by omega) (by omega) ?_); conv => whnf) | ((with_reducible refine XArr.intsA (by omega) (by omega) (by omega) ?_); conv => whnf) | ((with_reducible refine XArr.nats ?_ ?_ ?_); omega; omega; conv => whnf) | ((with_reducible refine XArr.natsA ?_ ?_ ?_); omega; omega; conv => whnf) | ((with_reducible apply XArr.pim0); conv => whnf) | ((with_reducible apply XArr.pim1); conv => whnf) | ((with_reducible refine XArr.ptr ?_ ?_ ?_); omega; omega; conv => whnf) | ((with_reducible apply XBr.mk') <;> (intro h; conv => whnf))
    refine Walk.loop tab_ok [] (fun q : Nat × List Bool × Bool => q.1 ≤ l.wth.length ∧ BunOk l i q.2.1 ∧ (q.2.2 = false → q.2.1 = bs ∧ ∀ j, j < q.1 → q.2.1.getD (l.wth.getD j default).1.toNat false = q.2.1.getD (l.wth.getD j default).2.toNat false) ∧ (q.2.2 = true → cntF q.2.1 < cntF bs))
      (fun q => [(2, .pim (ldC l)), (4, .sl true []), (5, .gr 0 l.sacks.length), (6, .bool q.2.2), (7, natA q.1)]) (fun q => [.grow 4 false (bools q.2.1)]) (fun q => l.wth.length - q.1) (0, bs, false) ⟨by omega, hB, fun _ => ⟨rfl, fun j hj => by omega⟩, fun h => by cases h⟩ rfl ⟨rfl, rfl, rfl, rfl, rfl, trivial⟩ ?_
    rintro ⟨k, cs, g⟩ ⟨hk, hC, hf, ht⟩
    dsimp only at hk hC hf ht ⊢
    have hcl := hC.n
    have hp : k < l.wth.length → l.wth.getD k default ∈ l.wth := fun h => getD_mem h
    have hpr : k < l.wth.length → 0 ≤ (l.wth.getD k default).1 ∧ (l.wth.getD k default).1 < l.sacks.length ∧ 0 ≤ (l.wth.getD k default).2 ∧ (l.wth.getD k default).2 < l.sacks.length ∧ (l.wth.getD k default).1 ≠ (l.wth.getD k default).2 := fun h => o.wp _ (hp h)
    conv => whnf
    repeat' first | ((with_reducible apply XBr.tt); conv => whnf) | ((with_reducible apply XBr.ff); conv => whnf) | (with_reducible apply XBr.not) | ((with_reducible apply XBr.dec) <;> (intro h; first | (exfalso; omega) | ((try simp only [List.length_map] at h); first | (exfalso; omega) | (conv => whnf)))) | ((with_reducible apply XBr.beq) <;> (intro h; first | (exfalso; omega) | (conv => whnf))) | ((with_reducible apply XBr.bne) <;> (intro h; first | (exfalso; omega) | (conv => whnf))) | ((with_reducible refine XInt.i64 (by omega) (by omega) ?_); conv => whnf) | ((with_reducible refine XHold.mk ?_ ?_); (first | omega | rfl | decide | exact ⟨rfl, by decide, rfl⟩ | exact wideI _ | exact widePr _ | exact wideSk _ | (unfold Room; constructor <;> ((try simp) <;> omega)) | exact ⟨rfl, by simp only [List.length_map], by unfold Room; constructor <;> ((try simp) <;> omega)⟩ | exact ⟨by omega, by omega, by unfold Room; constructor <;> ((try simp) <;> omega)⟩); conv => whnf) | ((with_reducible refine XIx.nat ?_ ?_ ?_); omega; (intro _; rfl); conv => whnf) | ((with_reducible refine XIx.map ?_ ?_ ?_ ?_); omega; omega; (intro _; rfl); conv => whnf) | (with_reducible apply XAnd.mk) | ((with_reducible apply Chk.go); conv => whnf) | ((with_reducible apply ChkA.go); conv => whnf) | ((with_reducible apply ChkF.go); conv => whnf) | ((with_reducible apply ChkB.go); conv => whnf) | (exact XSame.mk rfl rfl) | (exact XSame.mk (by first | rfl | (simp only [List.map_append, List.length_append, List.length_map]; done) | (simp only [List.map_append, List.length_append, List.length_map]; rfl)) (by first | rfl | (simp only [List.map_append]; done) | (simp only [List.map_append]; rfl))) | (with_reducible exact trivial) | ((with_reducible refine xdrop_app (by rw [List.length_map]; omega) ?_); conv => whnf) | ((with_reducible refine XDrop.desk (by assumption) ?_); conv => whnf) | ((with_reducible refine XArr.ints (by omega) (by omega) (by omega) ?_); conv => whnf) | ((with_reducible refine XArr.intsA (by omega) (by omega) (by omega) ?_); conv => whnf) | ((with_reducible refine XArr.nats ?_ ?_ ?_); omega; omega; conv => whnf) | ((with_reducible refine XArr.natsA ?_ ?_ ?_); omega; omega; conv => whnf) | ((with_reducible apply XArr.pim0); conv => whnf) | ((with_reducible apply XArr.pim1); conv => whnf) | ((with_reducible refine XArr.ptr ?_ ?_ ?_); omega; omega; conv => whnf) | ((with_reducible apply XBr.mk') <;> (intro h; conv => whnf))
    · have hpq := hpr (by omega)
      have hpm := hp (by omega)
      clear hpr hp
      apply Walk.drawX tab_ok mixed_ok [] [] (hsK _) [_, _, _, _, _, _, _, _, _, _, _, _, _, _] (by kernel_rfl) rfl
      · skip
        repeat' first | ((with_reducible apply XBr.tt); conv => whnf) | ((with_reducible apply XBr.ff); conv => whnf) | (with_reducible apply XBr.not) | ((with_reducible apply XBr.dec) <;> (intro h; first | (exfalso; omega) | ((try simp only [List.length_map] at h); first | (exfalso; omega) | (conv => whnf)))) | ((with_reducible apply XBr.beq) <;> (intro h; first | (exfalso; omega) | (conv => whnf))) | ((with_reducible apply XBr.bne) <;> (intro h; first | (exfalso; omega) | (conv => whnf))) | ((with_reducible refine XInt.i64 (by omega) (by omega) ?_); conv => whnf) | ((with_reducible refine XHold.mk ?_ ?_); (first | omega | rfl | decide | exact ⟨rfl, by decide, rfl⟩ | exact wideI _ | exact widePr _ | exact wideSk _ | (unfold Room; constructor <;> ((try simp) <;> omega)) | exact ⟨rfl, by simp only [List.length_map], by unfold Room; constructor <;> ((try simp) <;> omega)⟩ | exact ⟨by omega, by omega, by unfold Room; constructor <;> ((try simp) <;> omega)⟩); conv => whnf) | ((with_reducible refine XIx.nat ?_ ?_ ?_); omega; (intro _; rfl); conv => whnf) | ((with_reducible refine XIx.map ?_ ?_ ?_ ?_); omega; omega; (intro _; rfl); conv => whnf) | (with_reducible apply XAnd.mk) | ((with_reducible apply Chk.go); conv => whnf) | ((with_reducible apply ChkA.go); conv => whnf) | ((with_reducible apply ChkF.go); conv => whnf) | ((with_reducible apply ChkB.go); conv => whnf) | (exact XSame.mk rfl rfl) | (exact XSame.mk (by first | rfl | (simp only [List.map_append, List.length_append, List.length_map]; done) | (simp only [List.map_append, List.length_append, List.length_map]; rfl)) (by first | rfl | (simp only [List.map_append]; done) | (simp only [List.map_append]; rfl))) | (with_reducible exact trivial) | ((with_reducible refine xdrop_app (by rw [List.length_map]; omega) ?_); conv => whnf) | ((with_reducible refine XDrop.desk (by assumption) ?_); conv => whnf) | ((with_reducible refine XArr.ints (by omega) (by omega) (by omega) ?_); conv => whnf) | ((with_reducible refine XArr.intsA (by omega) (by omega) (by omega) ?_); conv => whnf) | ((with_reducible refine XArr.nats ?_ ?_ ?_); omega; omega; conv => whnf) | ((with_reducible refine XArr.natsA ?_ ?_ ?_); omega; omega; conv => whnf) | ((with_reducible apply XArr.pim0); conv => whnf) | ((with_reducible apply XArr.pim1); conv => whnf) | ((with_reducible refine XArr.ptr ?_ ?_ ?_); omega; omega; conv => whnf) | ((refine XArr.mk (by decide) (by decide) ?_); conv => whnf) | ((with_reducible apply XBr.mk') <;> (intro h; conv => whnf))
      · skip
        repeat' first | ((with_reducible apply XBr.tt); conv => whnf) | ((with_reducible apply XBr.ff); conv => whnf) | (with_reducible apply XBr.not) | ((with_reducible apply XBr.dec) <;> (intro h; first | (exfalso; omega) | ((try simp only [List.length_map] at h); first | (exfalso; omega) | (conv => whnf)))) | ((with_reducible apply XBr.beq) <;> (intro h; first | (exfalso; omega) | (conv => whnf))) | ((with_reducible apply XBr.bne) <;> (intro h; first | (exfalso; omega) | (conv => whnf))) | ((with_reducible refine XInt.i64 (by omega) (by omega) ?_); conv => whnf) | ((with_reducible refine XHold.mk ?_ ?_); (first | omega | rfl | decide | exact ⟨rfl, by decide, rfl⟩ | exact wideI _ | exact widePr _ | exact wideSk _ | (unfold Room; constructor <;> ((try simp) <;> omega)) | exact ⟨rfl, by simp only [List.length_map], by unfold Room; constructor <;> ((try simp) <;> omega)⟩ | exact ⟨by omega, by omega, by unfold Room; constructor <;> ((try simp) <;> omega)⟩); conv => whnf) | ((with_reducible refine XIx.nat ?_ ?_ ?_); omega; (intro _; rfl); conv => whnf) | ((with_reducible refine XIx.map ?_ ?_ ?_ ?_); omega; omega; (intro _; rfl); conv => whnf) | (with_reducible apply XAnd.mk) | ((with_reducible apply Chk.go); conv => whnf) | ((with_reducible apply ChkA.go); conv => whnf) | ((with_reducible apply ChkF.go); conv => whnf) | ((with_reducible apply ChkB.go); conv => whnf) | (exact XSame.mk rfl rfl) | (exact XSame.mk (by first | rfl | (simp only [List.map_append, List.length_append, List.length_map]; done) | (simp only [List.map_append, List.length_append, List.length_map]; rfl)) (by first | rfl | (simp only [List.map_append]; done) | (simp only [List.map_append]; rfl))) | (with_reducible exact trivial) | ((with_reducible refine xdrop_app (by rw [List.length_map]; omega) ?_); conv => whnf) | ((with_reducible refine XDrop.desk (by assumption) ?_); conv => whnf) | ((with_reducible refine XArr.ints (by omega) (by omega) (by omega) ?_); conv => whnf) | ((with_reducible refine XArr.intsA (by omega) (by omega) (by omega) ?_); conv => whnf) | ((with_reducible refine XArr.nats ?_ ?_ ?_); omega; omega; conv => whnf) | ((with_reducible refine XArr.natsA ?_ ?_ ?_); omega; omega; conv => whnf) | ((with_reducible apply XArr.pim0); conv => whnf) | ((with_reducible apply XArr.pim1); conv => whnf) | ((with_reducible refine XArr.ptr ?_ ?_ ?_); omega; omega; conv => whnf) | ((refine XArr.mk (by decide) (by decide) ?_); conv => whnf) | ((with_reducible apply XBr.mk') <;> (intro h; conv => whnf))
      conv => whnf
      apply Walk.drawX tab_ok mixed_ok [] [] (hsK _) [_, _, _, _, _, _, _, _, .bool (cs.getD (l.wth.getD k default).1.toNat default != cs.getD (l.wth.getD k default).2.toNat default)] (by kernel_rfl) rfl
      · skip
        repeat' first | ((with_reducible apply XBr.tt); conv => whnf) | ((with_reducible apply XBr.ff); conv => whnf) | (with_reducible apply XBr.not) | ((with_reducible apply XBr.dec) <;> (intro h; first | (exfalso; omega) | ((try simp only [List.length_map] at h); first | (exfalso; omega) | (conv => whnf)))) | ((with_reducible apply XBr.beq) <;> (intro h; first | (exfalso; omega) | (conv => whnf))) | ((with_reducible apply XBr.bne) <;> (intro h; first | (exfalso; omega) | (conv => whnf))) | ((with_reducible refine XInt.i64 (by omega) (by omega) ?_); conv => whnf) | ((with_reducible refine XHold.mk ?_ ?_); (first | omega | rfl | decide | exact ⟨rfl, by decide, rfl⟩ | exact wideI _ | exact widePr _ | exact wideSk _ | (unfold Room; constructor <;> ((try simp) <;> omega)) | exact ⟨rfl, by simp only [List.length_map], by unfold Room; constructor <;> ((try simp) <;> omega)⟩ | exact ⟨by omega, by omega, by unfold Room; constructor <;> ((try simp) <;> omega)⟩); conv => whnf) | ((with_reducible refine XIx.nat ?_ ?_ ?_); omega; (intro _; rfl); conv => whnf) | ((with_reducible refine XIx.map ?_ ?_ ?_ ?_); omega; omega; (intro _; rfl); conv => whnf) | (with_reducible apply XAnd.mk) | ((with_reducible apply Chk.go); conv => whnf) | ((with_reducible apply ChkA.go); conv => whnf) | ((with_reducible apply ChkF.go); conv => whnf) | ((with_reducible apply ChkB.go); conv => whnf) | (exact XSame.mk rfl rfl) | (exact XSame.mk (by first | rfl | (simp only [List.map_append, List.length_append, List.length_map]; done) | (simp only [List.map_append, List.length_append, List.length_map]; rfl)) (by first | rfl | (simp only [List.map_append]; done) | (simp only [List.map_append]; rfl))) | (with_reducible exact trivial) | ((with_reducible refine xdrop_app (by rw [List.length_map]; omega) ?_); conv => whnf) | ((with_reducible refine XDrop.desk (by assumption) ?_); conv => whnf) | ((with_reducible refine XArr.ints (by omega) (by omega) (by omega) ?_); conv => whnf) | ((with_reducible refine XArr.intsA (by omega) (by omega) (by omega) ?_); conv => whnf) | ((with_reducible refine XArr.nats ?_ ?_ ?_); omega; omega; conv => whnf) | ((with_reducible refine XArr.natsA ?_ ?_ ?_); omega; omega; conv => whnf) | ((with_reducible apply XArr.pim0); conv => whnf) | ((with_reducible apply XArr.pim1); conv => whnf) | ((with_reducible refine XArr.ptr ?_ ?_ ?_); omega; omega; conv => whnf) | ((refine XHold.mk ⟨by rw [List.length_map]; exact hcl, rfl, by omega, by omega⟩ ?_); conv => whnf) | ((refine XGet.map hcl.symm (by omega) ?_); conv => whnf) | ((with_reducible apply XBr.mk') <;> (intro h; conv => whnf))
      · skip
        repeat' first | ((with_reducible apply XBr.tt); conv => whnf) | ((with_reducible apply XBr.ff); conv => whnf) | (with_reducible apply XBr.not) | ((with_reducible apply XBr.dec) <;> (intro h; first | (exfalso; omega) | ((try simp only [List.length_map] at h); first | (exfalso; omega) | (conv => whnf)))) | ((with_reducible apply XBr.beq) <;> (intro h; first | (exfalso; omega) | (conv => whnf))) | ((with_reducible apply XBr.bne) <;> (intro h; first | (exfalso; omega) | (conv => whnf))) | ((with_reducible refine XInt.i64 (by omega) (by omega) ?_); conv => whnf) | ((with_reducible refine XHold.mk ?_ ?_); (first | omega | rfl | decide | exact ⟨rfl, by decide, rfl⟩ | exact wideI _ | exact widePr _ | exact wideSk _ | (unfold Room; constructor <;> ((try simp) <;> omega)) | exact ⟨rfl, by simp only [List.length_map], by unfold Room; constructor <;> ((try simp) <;> omega)⟩ | exact ⟨by omega, by omega, by unfold Room; constructor <;> ((try simp) <;> omega)⟩); conv => whnf) | ((with_reducible refine XIx.nat ?_ ?_ ?_); omega; (intro _; rfl); conv => whnf) | ((with_reducible refine XIx.map ?_ ?_ ?_ ?_); omega; omega; (intro _; rfl); conv => whnf) | (with_reducible apply XAnd.mk) | ((with_reducible apply Chk.go); conv => whnf) | ((with_reducible apply ChkA.go); conv => whnf) | ((with_reducible apply ChkF.go); conv => whnf) | ((with_reducible apply ChkB.go); conv => whnf) | (exact XSame.mk rfl rfl) | (exact XSame.mk (by first | rfl | (simp only [List.map_append, List.length_append, List.length_map]; done) | (simp only [List.map_append, List.length_append, List.length_map]; rfl)) (by first | rfl | (simp only [List.map_append]; done) | (simp only [List.map_append]; rfl))) | (with_reducible exact trivial) | ((with_reducible refine xdrop_app (by rw [List.length_map]; omega) ?_); conv => whnf) | ((with_reducible refine XDrop.desk (by assumption) ?_); conv => whnf) | ((with_reducible refine XArr.ints (by omega) (by omega) (by omega) ?_); conv => whnf) | ((with_reducible refine XArr.intsA (by omega) (by omega) (by omega) ?_); conv => whnf) | ((with_reducible refine XArr.nats ?_ ?_ ?_); omega; omega; conv => whnf) | ((with_reducible refine XArr.natsA ?_ ?_ ?_); omega; omega; conv => whnf) | ((with_reducible apply XArr.pim0); conv => whnf) | ((with_reducible apply XArr.pim1); conv => whnf) | ((with_reducible refine XArr.ptr ?_ ?_ ?_); omega; omega; conv => whnf) | ((refine XHold.mk ⟨by rw [List.length_map]; exact hcl, rfl, by omega, by omega⟩ ?_); conv => whnf) | ((refine XGet.map hcl.symm (by omega) ?_); conv => whnf) | ((with_reducible apply XBr.mk') <;> (intro h; conv => whnf))
      conv => whnf
      repeat' first | ((with_reducible apply XBr.tt); conv => whnf) | ((with_reducible apply XBr.ff); conv => whnf) | (with_reducible apply XBr.not) | ((with_reducible apply XBr.dec) <;> (intro h; first | (exfalso; omega) | ((try simp only [List.length_map] at h); first | (exfalso; omega) | (conv => whnf)))) | ((with_reducible apply XBr.beq) <;> (intro h; first | (exfalso; omega) | (conv => whnf))) | ((with_reducible apply XBr.bne) <;> (intro h; first | (exfalso; omega) | (conv => whnf))) | ((with_reducible refine XInt.i64 (by omega) (by omega) ?_); conv => whnf) | ((with_reducible refine XHold.mk ?_ ?_); (first | omega | rfl | decide | exact ⟨rfl, by decide, rfl⟩ | exact wideI _ | exact widePr _ | exact wideSk _ | (unfold Room; constructor <;> ((try simp) <;> omega)) | exact ⟨rfl, by simp only [List.length_map], by unfold Room; constructor <;> ((try simp) <;> omega)⟩ | exact ⟨by omega, by omega, by unfold Room; constructor <;> ((try simp) <;> omega)⟩); conv => whnf) | ((with_reducible refine XIx.nat ?_ ?_ ?_); omega; (intro _; rfl); conv => whnf) | ((with_reducible refine XIx.map ?_ ?_ ?_ ?_); omega; omega; (intro _; rfl); conv => whnf) | (with_reducible apply XAnd.mk) | ((with_reducible apply Chk.go); conv => whnf) | ((with_reducible apply ChkA.go); conv => whnf) | ((with_reducible apply ChkF.go); conv => whnf) | ((with_reducible apply ChkB.go); conv => whnf) | (exact XSame.mk rfl rfl) | (exact XSame.mk (by first | rfl | (simp only [List.map_append, List.length_append, List.length_map]; done) | (simp only [List.map_append, List.length_append, List.length_map]; rfl)) (by first | rfl | (simp only [List.map_append]; done) | (simp only [List.map_append]; rfl))) | (with_reducible exact trivial) | ((with_reducible refine xdrop_app (by rw [List.length_map]; omega) ?_); conv => whnf) | ((with_reducible refine XDrop.desk (by assumption) ?_); conv => whnf) | ((with_reducible refine XArr.ints (by omega) (by omega) (by omega) ?_); conv => whnf) | ((with_reducible refine XArr.intsA (by omega) (by omega) (by omega) ?_); conv => whnf) | ((with_reducible refine XArr.nats ?_ ?_ ?_); omega; omega; conv => whnf) | ((with_reducible refine XArr.natsA ?_ ?_ ?_); omega; omega; conv => whnf) | ((with_reducible apply XArr.pim0); conv => whnf) | ((with_reducible apply XArr.pim1); conv => whnf) | ((with_reducible refine XArr.ptr ?_ ?_ ?_); omega; omega; conv => whnf) | ((refine XHold.mk ⟨by rw [List.length_map]; first | exact hcl | (rw [List.length_set]; exact hcl), rfl, by omega, by omega⟩ ?_); conv => whnf) | ((refine XPut.bools cs _ rfl hcl.symm (by omega) ?_); conv => whnf) | ((refine XPut.bools (cs.set (l.wth.getD k default).1.toNat true) _ rfl (by rw [List.length_set]; exact hcl.symm) (by omega) ?_); conv => whnf) | ((with_reducible apply XBr.mk') <;> (intro h; conv => whnf))
      · have hne : cs.getD (l.wth.getD k default).1.toNat false ≠ cs.getD (l.wth.getD k default).2.toNat false := by rw [← bne_iff_ne]; exact h
        have hlt := cnt_both (a := (l.wth.getD k default).1.toNat) (b := (l.wth.getD k default).2.toNat) (by omega) (by omega) hne
        refine XAgain.go (k + 1, (cs.set (l.wth.getD k default).1.toNat true).set (l.wth.getD k default).2.toNat true, true) ⟨by omega, hC.both o hpm hne, nofun, fun _ => ?_⟩ (by omega) rfl ⟨rfl, rfl, rfl, rfl, rfl, trivial⟩
        cases g with
        | false => rw [(hf rfl).1] at hlt ⊢; exact hlt
        | true => have := ht rfl; dsimp only; omega
      · have he : cs.getD (l.wth.getD k default).1.toNat false = cs.getD (l.wth.getD k default).2.toNat false := by rw [← bne_eq_false_iff_eq]; exact h
        refine XAgain.go (k + 1, cs, g) ⟨by omega, hC, fun hg => ⟨(hf hg).1, fun j hj => ?_⟩, ht⟩ (by omega) rfl ⟨rfl, rfl, rfl, rfl, rfl, trivial⟩
        by_cases e : j = k
        · subst e; exact he
        · exact (hf hg).2 j (by omega)
    · refine XAgain.go (cs, g) ⟨hC, fun hg p hp => ?_⟩ ?_ rfl ⟨rfl, rfl, rfl, rfl, trivial⟩
      · obtain ⟨j, hj, rfl⟩ := List.mem_iff_getElem.1 hp
        have := (hf hg).2 j (by omega)
        rwa [List.getD_eq_getElem?_getD (l := l.wth), List.getElem?_eq_getElem hj] at this
      · cases g with
        | false => rw [(hf rfl).1]; dsimp only; simp
        | true => have := ht rfl; dsimp only; simp; omega
end GA
end
