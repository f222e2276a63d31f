/- Part 7 of a proof: S36, S37, S38, S30b, Abs32, S40, S41, S42. -/
import Derived.Test.YtlbdomhfcghjdaaP6
section
namespace GA
open Go Go.RowKit Go.Proofs
set_option maxRecDepth 8000
set_option linter.unusedVariables false
set_option linter.unusedSimpArgs false

theorem bit_ext {a b : Nat} (h : ∀ i, a.testBit i = b.testBit i) : a = b := Nat.eq_of_testBit_eq h
theorem Sub.refl (a : Nat) : Sub a a := fun _ h => h
theorem Sub.trans {a b c : Nat} (h : Sub a b) (k : Sub b c) : Sub a c := fun i x => k i (h i x)
theorem sub_half {a m : Nat} (h : Sub a m) : Sub (a / 2) (m / 2) := fun i x => by
  have := h (i + 1) (by rw [Nat.testBit_succ]; exact x)
  rwa [Nat.testBit_succ] at this
theorem sub_odd {a m : Nat} (h : Sub a m) : a % 2 ≤ m % 2 := by
  have := h 0
  simp only [Nat.testBit_zero, decide_eq_true_eq] at this
  omega
theorem and_half (a b : Nat) : (a &&& b) = 2 * ((a / 2) &&& (b / 2)) + ((a % 2) * (b % 2)) := by
  have h1 : (a &&& b) / 2 = (a / 2) &&& (b / 2) := Nat.and_div_two
  have h2 : (a &&& b) % 2 = (a % 2) * (b % 2) := by
    have e : (a &&& b).testBit 0 = (a.testBit 0 && b.testBit 0) := Nat.testBit_and ..
    simp only [Nat.testBit_zero] at e
    rcases Nat.mod_two_eq_zero_or_one a with ha | ha <;> rcases Nat.mod_two_eq_zero_or_one b with hb | hb <;> rcases Nat.mod_two_eq_zero_or_one (a &&& b) with hc | hc <;> simp [ha, hb, hc] at e ⊢
  omega
theorem sub_and {a m : Nat} (h : Sub a m) : a &&& m = a := bit_ext fun i => by
  rw [Nat.testBit_and]; cases e : a.testBit i
  · rfl
  · rw [h i e]; rfl
/-- Of the sets within another one the greatest below one of them. -/
theorem sub_pred : ∀ (rest r m : Nat), Sub rest m → Sub r m → r < rest → r ≤ (rest - 1) &&& m := by
  intro rest
  induction rest using Nat.strongRecOn with
  | ind rest ih =>
    intro r m h1 h2 h3
    rw [and_half]
    have o2 := sub_odd h2
    rcases Nat.mod_two_eq_zero_or_one rest with hx | hx
    · have e1 : (rest - 1) / 2 = rest / 2 - 1 := by omega
      have e2 : (rest - 1) % 2 = 1 := by omega
      have := ih (rest / 2) (by omega) (r / 2) (m / 2) (sub_half h1) (sub_half h2) (by omega)
      rw [e1, e2]; omega
    · have e1 : (rest - 1) / 2 = rest / 2 := by omega
      have e2 : (rest - 1) % 2 = 0 := by omega
      rw [e1, e2, sub_and (sub_half h1)]; omega
theorem diff_and (a s l : Nat) : diff (a &&& s) l = a &&& diff s l := bit_ext fun i => by
  rw [diff_bit, Nat.testBit_and, Nat.testBit_and, diff_bit]; cases a.testBit i <;> cases s.testBit i <;> rfl
theorem sub_diff (s c : Nat) : Sub (diff s c) s := fun i h => by rw [diff_bit, Bool.and_eq_true] at h; exact h.1
theorem cartsF_all (d : Dk) (set : Nat) : ∀ (f rest : Nat), rest < f → Sub rest (diff set (lowb set)) → ∀ r, Sub r (diff set (lowb set)) → r ≤ rest → rightB d (r ||| lowb set) = true → r ||| lowb set ∈ cartsF d set f rest
  | 0, _, h, _, _, _, _, _ => absurd h (Nat.not_lt_zero _)
  | f + 1, rest, hf, hr, r, h1, h2, h3 => by
    rw [cartsF_succ, List.mem_append]
    by_cases he : r = rest
    · subst he; left; rw [if_pos h3]; exact List.mem_singleton.2 rfl
    · right
      rw [if_neg (by omega)]
      have e := sub_pred rest r _ hr h1 (by omega)
      rw [diff_and]
      have hle : (rest - 1) &&& diff set (lowb set) ≤ rest - 1 := Nat.and_le_left
      exact cartsF_all d set f _ (by omega) (fun i h => by rw [Nat.testBit_and, Bool.and_eq_true] at h; exact h.2) r h1 e h3
theorem lowb_one_all : ∀ s : Fin 512, s.val ≠ 0 → ∃ i : Fin 9, lowb s.val = 2 ^ i.val := by decide +kernel
theorem lowb_one {s : Nat} (h0 : s ≠ 0) (h : s < 512) : ∃ i, i < 9 ∧ lowb s = 2 ^ i := by
  obtain ⟨i, hi⟩ := lowb_one_all ⟨s, h⟩ h0
  exact ⟨i.val, i.isLt, hi⟩
theorem sub_pow {i c : Nat} : Sub (2 ^ i) c ↔ c.testBit i = true := by
  constructor
  · intro h; exact h i (by rw [Nat.testBit_two_pow_self])
  · intro h j hj; rw [Nat.testBit_two_pow, decide_eq_true_eq] at hj; subst hj; exact h
theorem carts_iff (d : Dk) {set c : Nat} (h9 : set < 512) : c ∈ cartsL d set ↔ Sub c set ∧ Sub (lowb set) c ∧ rightB d c = true := by
  refine ⟨carts_sub d, fun ⟨h1, h2, h3⟩ => ?_⟩
  have e : diff c (lowb set) ||| lowb set = c := bit_ext fun i => by
    rw [Nat.testBit_or, diff_bit]
    cases hc : c.testBit i
    · cases hl : (lowb set).testBit i
      · rfl
      · rw [h2 i hl] at hc; cases hc
    · cases hl : (lowb set).testBit i <;> rfl
  have hs : Sub (diff c (lowb set)) (diff set (lowb set)) := fun i h => by
    rw [diff_bit, Bool.and_eq_true] at h ⊢; exact ⟨h1 i h.1, h.2⟩
  have := cartsF_all d set 512 (diff set (lowb set)) (by have := diff_le set (lowb set); omega) (Sub.refl _) (diff c (lowb set)) hs hs.le (by rw [e]; exact h3)
  rw [e] at this; exact this

/-- A set can be split into so many right carts, none of them empty. -/
inductive Pk (R : Nat → Bool) : Nat → Nat → Prop
  | nil : Pk R 0 0
  | cons {n set : Nat} (c : Nat) (hr : R c = true) (hs : Sub c set) (h0 : c ≠ 0) (t : Pk R n (diff set c)) : Pk R (n + 1) set
theorem diff_diff (s a b : Nat) : diff (diff s a) b = diff (diff s b) a := bit_ext fun i => by
  simp only [diff_bit]; cases s.testBit i <;> cases a.testBit i <;> cases b.testBit i <;> rfl
theorem ne_zero_bit {c i : Nat} (h : c.testBit i = true) : c ≠ 0 := fun e => by rw [e, Nat.zero_testBit] at h; cases h
theorem Pk.first {R : Nat → Bool} {n set i : Nat} (h : Pk R n set) (hi : set.testBit i = true) : ∃ c k, n = k + 1 ∧ R c = true ∧ Sub c set ∧ c.testBit i = true ∧ Pk R k (diff set c) := by
  induction h with
  | nil => rw [Nat.zero_testBit] at hi; cases hi
  | @cons n set c hr hs h0 t ih =>
    cases hc : c.testBit i
    · obtain ⟨c', k, h1, h2, h3, h4, h5⟩ := ih (by rw [diff_bit, hi, hc]; rfl)
      subst h1
      refine ⟨c', k + 1, rfl, h2, h3.trans (sub_diff _ _), h4, .cons c hr (fun j hj => ?_) h0 (by rw [diff_diff]; exact h5)⟩
      rw [diff_bit, hs j hj]
      cases hc' : c'.testBit j
      · rfl
      · have := h3 j hc'; rw [diff_bit, hj, Bool.not_true, Bool.and_false] at this; cases this
    · exact ⟨c, n, rfl, hr, hs, hc, t⟩
theorem Pk.zero {R : Nat → Bool} {n : Nat} (h : Pk R n 0) : n = 0 := by
  cases h with
  | nil => rfl
  | cons c hr hs h0 t => exact absurd (Nat.le_zero.1 hs.le) h0
theorem Pk.none {R : Nat → Bool} {set : Nat} (h : Pk R 0 set) : set = 0 := by cases h; rfl
theorem Pk.mono {R R' : Nat → Bool} {n set : Nat} (h : Pk R n set) (hR : ∀ c, Sub c set → R c = true → R' c = true) : Pk R' n set := by
  induction h with
  | nil => exact .nil
  | cons c hr hs h0 t ih => exact .cons c (hR c hs hr) hs h0 (ih fun c' hc' => hR c' (hc'.trans (sub_diff _ _)))
/-- The least number of carts; ten if there is none. -/
structure IsOpt (R : Nat → Bool) (set v : Nat) : Prop where
  le : v ≤ 10
  lo : ∀ n, Pk R n set → v ≤ n
  is : v < 10 → Pk R v set
theorem IsOpt.eq {R : Nat → Bool} {set v v' : Nat} (h : IsOpt R set v) (h' : IsOpt R set v') : v = v' := by
  rcases Nat.lt_trichotomy v v' with hl | hl | hl
  · have := h'.lo v (h.is (by have := h'.le; omega)); omega
  · exact hl
  · have := h.lo v' (h'.is (by have := h.le; omega)); omega
def MemOk (R : Nat → Bool) (m : List (Int × Nat)) : Prop := ∀ (s : Nat) v, look (s : Int) m = some v → IsOpt R s v
theorem ofM_opt (d : Dk) : ∀ (f set : Nat) (m : List (Int × Nat)), set < f → set < 512 → MOk m → MemOk (rightB d) m → IsOpt (rightB d) set (ofM d f set m).1 ∧ MemOk (rightB d) (ofM d f set m).2
  | 0, _, _, h, _, _, _ => absurd h (Nat.not_lt_zero _)
  | f + 1, set, m, hf, h9, mo, me => by
    rw [ofM_succ]
    cases hl : look (set : Int) m with
    | some v => exact ⟨me set v hl, me⟩
    | none =>
      have h0 : set ≠ 0 := fun e => by subst e; rw [show ((0 : Nat) : Int) = 0 from rfl, mo.z] at hl; cases hl
      obtain ⟨i, _, hi⟩ := lowb_one h0 h9
      have hbit : set.testBit i = true := sub_pow.1 (hi ▸ lowb_sub set)
      have fold : ∀ (cs : List Nat) (p : Nat × List (Int × Nat)), (∀ c ∈ cs, c ∈ cartsL d set) → p.1 ≤ 10 → (p.1 < 10 → Pk (rightB d) p.1 set) → MOk p.2 → MemOk (rightB d) p.2 →
          ((cs.foldl (ofStep d f set) p).1 ≤ 10 ∧ ((cs.foldl (ofStep d f set) p).1 < 10 → Pk (rightB d) (cs.foldl (ofStep d f set) p).1 set) ∧ (cs.foldl (ofStep d f set) p).1 ≤ p.1 ∧ (∀ c ∈ cs, ∀ n, Pk (rightB d) n (diff set c) → (cs.foldl (ofStep d f set) p).1 ≤ n + 1)) ∧
          MemOk (rightB d) (cs.foldl (ofStep d f set) p).2 := by
        intro cs
        induction cs with
        | nil => intro p _ h1 h2 h3 h4; exact ⟨⟨h1, h2, Nat.le_refl _, by simp⟩, h4⟩
        | cons c cs ih =>
          intro p hc h1 h2 h3 h4
          rw [List.foldl_cons]
          have hm := hc c List.mem_cons_self
          obtain ⟨k1, k2, k3⟩ := carts_sub d hm
          obtain ⟨hlt, hc9⟩ := carts_lt d (by omega) h9 hm
          obtain ⟨g1, g2⟩ := ofM_opt d f (diff set c) p.2 (by omega) (by omega) h3 h4
          obtain ⟨g3, g4⟩ := ofM_ok d f (diff set c) p.2 h3
          obtain ⟨⟨a1, a2, a3, a4⟩, a5⟩ := ih (ofStep d f set p c) (fun x hx => hc x (List.mem_cons_of_mem _ hx)) (by simp only [ofStep]; omega) (fun hlt10 => by
            simp only [ofStep] at hlt10 ⊢
            rcases Nat.le_total p.1 ((ofM d f (diff set c) p.2).1 + 1) with hle | hle
            · rw [Nat.min_eq_left hle] at hlt10 ⊢; exact h2 hlt10
            · rw [Nat.min_eq_right hle] at hlt10 ⊢
              exact .cons c k3 k1 (ne_zero_bit (k2 i (by rw [hi, Nat.testBit_two_pow_self]))) (g1.is (by omega))) g4 g2
          refine ⟨⟨a1, a2, ?_, ?_⟩, a5⟩
          · exact Nat.le_trans a3 (Nat.min_le_left _ _)
          · intro x hx n hn
            rcases List.mem_cons.1 hx with rfl | hx
            · have := g1.lo n hn; have h5 := Nat.le_trans a3 (Nat.min_le_right _ _); omega
            · exact a4 x hx n hn
      obtain ⟨⟨a1, a2, _, a4⟩, a5⟩ := fold (cartsL d set) (10, m) (fun _ h => h) (Nat.le_refl 10) (fun h => absurd h (by simp)) mo me
      have hopt : IsOpt (rightB d) set ((cartsL d set).foldl (ofStep d f set) (10, m)).1 := ⟨a1, fun n hn => by
        obtain ⟨c, k, rfl, h1, h2, h3, h4⟩ := hn.first hbit
        exact a4 c ((carts_iff d h9).2 ⟨h2, hi ▸ sub_pow.2 h3, h1⟩) k h4, a2⟩
      refine ⟨hopt, fun s v e => ?_⟩
      rw [look_put] at e
      split at e
      · rename_i he; cases e; have : s = set := by omega
        subst this; exact hopt
      · exact a5 s v e
theorem memOk_zero (R : Nat → Bool) : MemOk R [(0, 0)] := fun s v h => by
  simp only [look] at h
  split at h
  · rename_i e; cases h; have : s = 0 := by omega
    subst this; exact ⟨by omega, fun _ _ => Nat.zero_le _, fun _ => .nil⟩
  · cases h
theorem many_opt (d : Dk) (h : d.l.sacks.length ≤ 9) : IsOpt (rightB d) (allD d) (manyD d) := by
  have hall : allD d < 512 := by have := pow9 h; unfold allD; omega
  exact (ofM_opt d 512 (allD d) _ hall hall MOk.zero (memOk_zero _)).1
end GA
end

section
namespace GA
open Go Go.RowKit Go.Proofs
set_option maxRecDepth 8000
set_option linter.unusedVariables false
set_option linter.unusedSimpArgs false

theorem bitsF_iff : ∀ (f i s : Nat), s < 2 ^ f → ∀ x : Int, x ∈ bitsF f i s ↔ ∃ j : Nat, x = ((i + j : Nat) : Int) ∧ s.testBit j = true
  | 0, i, s, h, x => by
    have : s = 0 := by simpa using h
    subst this
    simp [bitsF]
  | f + 1, i, s, h, x => by
    have ih := bitsF_iff f (i + 1) (s / 2) (by rw [Nat.pow_succ] at h; omega) x
    have hz : (∃ j : Nat, x = ((i + j : Nat) : Int) ∧ s.testBit j = true) ↔ (x = (i : Int) ∧ s % 2 = 1) ∨ ∃ j : Nat, x = ((i + 1 + j : Nat) : Int) ∧ (s / 2).testBit j = true := by
      constructor
      · rintro ⟨j, h1, h2⟩
        rcases j with _ | j
        · left; rw [Nat.testBit_zero, decide_eq_true_eq] at h2; exact ⟨by simpa using h1, h2⟩
        · right; rw [Nat.testBit_succ] at h2; exact ⟨j, by rw [h1]; congr 1; omega, h2⟩
      · rintro (⟨h1, h2⟩ | ⟨j, h1, h2⟩)
        · exact ⟨0, by simpa using h1, by rw [Nat.testBit_zero, decide_eq_true_eq]; exact h2⟩
        · exact ⟨j + 1, by rw [h1]; congr 1; omega, by rw [Nat.testBit_succ]; exact h2⟩
    rw [hz, ← ih]
    have e : bitsF (f + 1) i s = if s = 0 then [] else if s % 2 = 1 then (i : Int) :: bitsF f (i + 1) (s / 2) else bitsF f (i + 1) (s / 2) := rfl
    rw [e]
    split
    · rename_i h0; subst h0; rw [Nat.zero_div, bitsF_zero]; simp
    · split
      · rename_i h1; rw [List.mem_cons]; simp [h1]
      · rename_i h1; simp [h1]
theorem bits_iff {s : Nat} (h : s < 512) (x : Int) : x ∈ bits s ↔ ∃ j : Nat, x = (j : Int) ∧ s.testBit j = true := by
  have := bitsF_iff 62 0 s (by omega) x
  unfold bits
  simpa using this
theorem inSet_bit (set : Nat) (p : Int) : inSet set p = set.testBit p.toNat := by
  unfold inSet; rw [Nat.testBit_eq_decide_div_mod_eq]
  rcases Nat.mod_two_eq_zero_or_one (set / 2 ^ p.toNat) with h | h <;> rw [h] <;> rfl
theorem diff_zero {a b : Nat} : diff a b = 0 ↔ Sub a b := by
  constructor
  · intro h i hi
    cases hb : b.testBit i
    · have := diff_bit a b i; rw [h, hi, hb, Nat.zero_testBit] at this; cases this
    · rfl
  · intro h
    apply bit_ext; intro i
    rw [diff_bit, Nat.zero_testBit]
    cases ha : a.testBit i
    · rfl
    · rw [h i ha]; rfl
def allP (b : List Nat) (p : Int × Int) : Nat := b.getD p.1.toNat 0 ||| b.getD p.2.toNat 0
theorem joinStep_get (b : List Nat) (p : Int × Int) {i : Nat} (hi : i < b.length) : (joinStep b p).getD i 0 = if (allP b p).testBit i = true then b.getD i 0 ||| allP b p else b.getD i 0 := by
  have e : (allP b p).testBit i = decide ((b.getD p.1.toNat 0 ||| b.getD p.2.toNat 0) / 2 ^ i % 2 = 1) := Nat.testBit_eq_decide_div_mod_eq
  rw [e]
  unfold joinStep allP
  simp only [List.getD_eq_getElem?_getD, List.getElem?_mapIdx, List.getElem?_eq_getElem hi, Option.map_some, Option.getD_some, decide_eq_true_eq]
theorem joinStep_none (b : List Nat) (p : Int × Int) {i : Nat} (hi : ¬ i < b.length) : (joinStep b p).getD i 0 = 0 := by
  rw [List.getD_eq_getElem?_getD, List.getElem?_eq_none (by rw [joinStep_len]; omega)]; rfl
theorem joinStep_sub (b : List Nat) (p : Int × Int) (i : Nat) : Sub (b.getD i 0) ((joinStep b p).getD i 0) := by
  by_cases hi : i < b.length
  · rw [joinStep_get b p hi]; split
    · intro j hj; rw [Nat.testBit_or, hj]; rfl
    · exact Sub.refl _
  · rw [List.getD_eq_getElem?_getD, List.getElem?_eq_none (by omega)]; exact Sub.zero _
theorem foldl_sub : ∀ (ps : List (Int × Int)) (b : List Nat) (i : Nat), Sub (b.getD i 0) ((ps.foldl joinStep b).getD i 0)
  | [], _, _ => Sub.refl _
  | p :: ps, b, i => by rw [List.foldl_cons]; exact (joinStep_sub b p i).trans (foldl_sub ps _ i)
theorem closeF_sub (l : Ld) : ∀ (n : Nat) (b : List Nat) (i : Nat), Sub (b.getD i 0) ((closeF l n b).getD i 0)
  | 0, _, _ => Sub.refl _
  | n + 1, b, i => by
    show Sub _ ((if joinR l b = b then b else closeF l n (joinR l b)).getD i 0)
    split
    · exact Sub.refl _
    · exact (foldl_sub _ b i).trans (closeF_sub l n _ i)
theorem closeF_fix (l : Ld) : ∀ (n : Nat) (b : List Nat), msr b < n → (∀ i, b.getD i 0 < 512) → joinR l (closeF l n b) = closeF l n b
  | 0, _, h, _ => absurd h (Nat.not_lt_zero _)
  | n + 1, b, h, hs => by
    show joinR l (if joinR l b = b then b else closeF l n (joinR l b)) = if joinR l b = b then b else closeF l n (joinR l b)
    split
    · assumption
    · rename_i hne
      have := msr_lt b (joinR l b) (joinR_len l b).symm (joinR_ge l b) (joinR_small l b hs) (Ne.symm hne)
      exact closeF_fix l n _ (by omega) (joinR_small l b hs)
theorem foldl_fix : ∀ (ps : List (Int × Int)) (b : List Nat), ps.foldl joinStep b = b → ∀ p ∈ ps, joinStep b p = b
  | [], _, _, _, h => by simp at h
  | q :: ps, b, h, p, hp => by
    rw [List.foldl_cons] at h
    have hq : joinStep b q = b := by
      refine eq_of_getD (d := 0) (joinStep_len b q) fun j _ => ?_
      have h1 := joinStep_ge b q j
      have h2 := foldl_ge ps (joinStep b q) j
      rw [h] at h2; omega
    rcases List.mem_cons.1 hp with rfl | hp
    · exact hq
    · rw [hq] at h; exact foldl_fix ps b h p hp
/-- Both sacks of each pair, or none. -/
def Cl (l : Ld) (c : Nat) : Prop := ∀ p ∈ l.wth, c.testBit p.1.toNat = c.testBit p.2.toNat
/-- Each bundle lies in a set, or beside it. -/
def Inv (c : Nat) (b : List Nat) : Prop := ∀ i, (c.testBit i = true → Sub (b.getD i 0) c) ∧ (c.testBit i = false → ∀ j, (b.getD i 0).testBit j = true → c.testBit j = false)
theorem Inv.step {c : Nat} {b : List Nat} {p : Int × Int} (h : Inv c b) (hp : c.testBit p.1.toNat = c.testBit p.2.toNat) : Inv c (joinStep b p) := by
  intro i
  by_cases hi : i < b.length
  · rw [joinStep_get b p hi]
    split
    · rename_i ha
      unfold allP at ha ⊢
      cases h1 : c.testBit p.1.toNat
      · have k1 := (h p.1.toNat).2 h1
        have k2 := (h p.2.toNat).2 (hp ▸ h1)
        have hci : c.testBit i = false := by
          rw [Nat.testBit_or, Bool.or_eq_true] at ha
          exact ha.elim (k1 i) (k2 i)
        refine ⟨fun e => (by rw [hci] at e; cases e), fun _ j hj => ?_⟩
        rw [Nat.testBit_or, Nat.testBit_or, Bool.or_eq_true, Bool.or_eq_true] at hj
        rcases hj with hj | hj | hj
        · exact (h i).2 hci j hj
        · exact k1 j hj
        · exact k2 j hj
      · have k1 := (h p.1.toNat).1 h1
        have k2 := (h p.2.toNat).1 (hp ▸ h1)
        have hci : c.testBit i = true := by
          rw [Nat.testBit_or, Bool.or_eq_true] at ha
          exact ha.elim (k1 i) (k2 i)
        refine ⟨fun _ j hj => ?_, fun e => (by rw [hci] at e; cases e)⟩
        rw [Nat.testBit_or, Nat.testBit_or, Bool.or_eq_true, Bool.or_eq_true] at hj
        rcases hj with hj | hj | hj
        · exact (h i).1 hci j hj
        · exact k1 j hj
        · exact k2 j hj
    · exact h i
  · rw [joinStep_none b p hi]
    exact ⟨fun _ => Sub.zero _, fun _ j hj => by rw [Nat.zero_testBit] at hj; cases hj⟩
theorem Inv.fold {c : Nat} : ∀ (ps : List (Int × Int)) (b : List Nat), (∀ p ∈ ps, c.testBit p.1.toNat = c.testBit p.2.toNat) → Inv c b → Inv c (ps.foldl joinStep b)
  | [], _, _, h => h
  | p :: ps, b, hp, h => by rw [List.foldl_cons]; exact Inv.fold ps _ (fun q hq => hp q (List.mem_cons_of_mem _ hq)) (h.step (hp p List.mem_cons_self))
theorem Inv.close {l : Ld} {c : Nat} (hc : Cl l c) : ∀ (n : Nat) (b : List Nat), Inv c b → Inv c (closeF l n b)
  | 0, _, h => h
  | n + 1, b, h => by
    show Inv c (if joinR l b = b then b else closeF l n (joinR l b))
    split
    · exact h
    · exact Inv.close hc n _ (Inv.fold _ _ hc h)
theorem ndI_get {n i : Nat} (hi : i < 9) : (ndI n).getD i 0 = if i < n then 2 ^ i else 0 := by
  unfold ndI; rw [List.getD_eq_getElem?_getD, List.getElem?_map, List.getElem?_range hi]; rfl
theorem Inv.zero (c n : Nat) : Inv c (ndI n) := by
  intro i
  by_cases hi : i < 9
  · rw [ndI_get hi]
    split
    · refine ⟨fun h => sub_pow.2 h, fun h j hj => ?_⟩
      rw [Nat.testBit_two_pow, decide_eq_true_eq] at hj; subst hj; exact h
    · exact ⟨fun _ => Sub.zero _, fun _ j hj => by rw [Nat.zero_testBit] at hj; cases hj⟩
  · rw [List.getD_eq_getElem?_getD, List.getElem?_eq_none (by rw [ndI_len]; omega)]
    exact ⟨fun _ => Sub.zero _, fun _ j hj => by rw [Option.getD_none, Nat.zero_testBit] at hj; cases hj⟩
/-- Bundles: each sack's own, closed, and the least that is. -/
theorem nd_self {l : Ld} (o : LdOk l) {i : Nat} (hi : i < l.sacks.length) : ((openD l).nd.getD i 0).testBit i = true := by
  refine closeF_sub l 5000 (ndI l.sacks.length) i i ?_
  rw [ndI_get (by have := o.n; omega), if_pos hi, Nat.testBit_two_pow_self]
theorem nd_least {l : Ld} {c : Nat} (hc : Cl l c) {i : Nat} (hi : c.testBit i = true) : Sub ((openD l).nd.getD i 0) c :=
  (Inv.close hc 5000 _ (Inv.zero c _) i).1 hi
theorem nd_fix {l : Ld} (o : LdOk l) : ∀ p ∈ l.wth, joinStep (openD l).nd p = (openD l).nd :=
  foldl_fix _ _ (closeF_fix l 5000 _ (by have := msr_le (ndI l.sacks.length) (ndI_len _); omega) (ndI_small _))
theorem nd_len {l : Ld} : (openD l).nd.length = 9 := by show (closeF l 5000 _).length = 9; rw [closeF_len, ndI_len]
/-- A cart that is right, without bundles. -/
structure RightP (l : Ld) (c : Nat) : Prop where
  w : (sumW (wts l) c : Int) ≤ l.bears
  wp : Cl l c
  ap : ∀ p ∈ l.apart, ¬ (c.testBit p.1.toNat = true ∧ c.testBit p.2.toNat = true)
theorem hv_get {l : Ld} (o : LdOk l) {c : Nat} (hc : c < 2 ^ l.sacks.length) : (openD l).hv.getD c 0 = sumW (wts l) c := by
  have := pow9 o.n
  show (hvF (wts l) (2 ^ l.sacks.length)).getD c 0 = _
  rw [hvF_get (by omega), if_pos hc]
theorem whole_iff {l : Ld} (o : LdOk l) {c : Nat} (hc : c < 2 ^ l.sacks.length) : wholeB (openD l) c = true ↔ Cl l c ∧ ∀ p ∈ l.apart, ¬ (c.testBit p.1.toNat = true ∧ c.testBit p.2.toNat = true) := by
  have h9 := pow9 o.n
  have hn := o.n
  have hw : ((bits c).all fun i => diff ((openD l).nd.getD i.toNat 0) c == 0) = true ↔ ∀ i : Nat, c.testBit i = true → Sub ((openD l).nd.getD i 0) c := by
    rw [List.all_eq_true]
    constructor
    · intro h i hi
      have := h (i : Int) ((bits_iff (by omega) _).2 ⟨i, rfl, hi⟩)
      rw [beq_iff_eq] at this; exact diff_zero.1 this
    · intro h x hx
      obtain ⟨j, rfl, hj⟩ := (bits_iff (by omega) _).1 hx
      rw [beq_iff_eq]; exact diff_zero.2 (h j hj)
  have ha : (l.apart.all fun p => !inSet c p.1 || !inSet c p.2) = true ↔ ∀ p ∈ l.apart, ¬ (c.testBit p.1.toNat = true ∧ c.testBit p.2.toNat = true) := by
    rw [List.all_eq_true]
    constructor
    · intro h p hp
      have := h p hp
      simp only [inSet_bit] at this
      rintro ⟨h1, h2⟩
      rw [h1, h2] at this; cases this
    · intro h p hp
      have := h p hp
      simp only [inSet_bit]
      cases h1 : c.testBit p.1.toNat
      · rfl
      · cases h2 : c.testBit p.2.toNat
        · rfl
        · exact absurd ⟨h1, h2⟩ this
  unfold wholeB
  rw [Bool.and_eq_true, hw]
  show _ ∧ (l.apart.all fun p => !inSet c p.1 || !inSet c p.2) = true ↔ _
  rw [ha]
  refine and_congr_left fun _ => ?_
  constructor
  · intro h p hp
    have b := o.wp p hp
    have e := nd_fix o p hp
    have k1 := nd_self o (i := p.1.toNat) (by omega)
    have k2 := nd_self o (i := p.2.toNat) (by omega)
    have g1 : (allP (openD l).nd p).testBit p.1.toNat = true := by unfold allP; rw [Nat.testBit_or, k1]; rfl
    have g2 : (allP (openD l).nd p).testBit p.2.toNat = true := by unfold allP; rw [Nat.testBit_or, k2, Bool.or_true]
    have e1 := joinStep_get (openD l).nd p (i := p.1.toNat) (by rw [nd_len]; omega)
    have e2 := joinStep_get (openD l).nd p (i := p.2.toNat) (by rw [nd_len]; omega)
    rw [e, if_pos g1] at e1
    rw [e, if_pos g2] at e2
    have s1 : c.testBit p.1.toNat = true → c.testBit p.2.toNat = true := fun hb => h _ hb _ (by rw [e1, Nat.testBit_or, g2, Bool.or_true])
    have s2 : c.testBit p.2.toNat = true → c.testBit p.1.toNat = true := fun hb => h _ hb _ (by rw [e2, Nat.testBit_or, g1, Bool.or_true])
    cases hb1 : c.testBit p.1.toNat
    · cases hb2 : c.testBit p.2.toNat
      · rfl
      · rw [s2 hb2] at hb1; cases hb1
    · rw [s1 hb1]
  · intro h i hi; exact nd_least h hi
theorem right_iff {l : Ld} (o : LdOk l) {c : Nat} (hc : c < 2 ^ l.sacks.length) : rightB (openD l) c = true ↔ RightP l c := by
  unfold rightB
  rw [Bool.and_eq_true, decide_eq_true_eq, hv_get o hc, whole_iff o hc]
  exact ⟨fun ⟨h1, h2, h3⟩ => ⟨h1, h2, h3⟩, fun h => ⟨h.w, h.wp, h.ap⟩⟩
end GA
end

section
namespace GA
open Go Go.RowKit Go.Proofs
set_option maxRecDepth 8000
set_option linter.unusedVariables false
set_option linter.unusedSimpArgs false

theorem diff_half (a b : Nat) : diff a b / 2 = diff (a / 2) (b / 2) := bit_ext fun i => by
  rw [← Nat.testBit_succ, diff_bit, diff_bit, Nat.testBit_succ, Nat.testBit_succ]
theorem diff_odd {a b : Nat} (h : Sub b a) : diff a b % 2 + b % 2 = a % 2 := by
  have e := diff_bit a b 0
  have hs := sub_odd h
  simp only [Nat.testBit_zero] at e
  rcases Nat.mod_two_eq_zero_or_one a with ha | ha <;> rcases Nat.mod_two_eq_zero_or_one b with hb | hb <;> rcases Nat.mod_two_eq_zero_or_one (diff a b) with hc | hc <;> simp [ha, hb, hc] at e hs ⊢
theorem sumW_split : ∀ (ws : List Nat) (s c : Nat), Sub c s → sumW ws (diff s c) + sumW ws c = sumW ws s
  | [], _, _, _ => rfl
  | w :: ws, s, c, h => by
    have ih := sumW_split ws (s / 2) (c / 2) (sub_half h)
    have ho := diff_odd h
    unfold sumW
    rw [diff_half]
    rcases Nat.mod_two_eq_zero_or_one s with ha | ha <;> rcases Nat.mod_two_eq_zero_or_one c with hb | hb <;> rcases Nat.mod_two_eq_zero_or_one (diff s c) with hc | hc <;> simp only [ha, hb, hc] at ho ⊢ <;> simp <;> omega
theorem sumW_le_of : ∀ (ws vs : List Nat) (s : Nat), ws.length = vs.length → (∀ i, ws.getD i 0 ≤ vs.getD i 0) → sumW ws s ≤ sumW vs s
  | [], [], _, _, _ => Nat.le_refl _
  | w :: ws, v :: vs, s, hl, h => by
    have h0 := h 0
    have := sumW_le_of ws vs (s / 2) (by simpa using hl) (fun i => by simpa using h (i + 1))
    simp only [List.getD_cons_zero] at h0
    unfold sumW; split <;> omega
  | [], _ :: _, _, hl, _ => by simp at hl
  | _ :: _, [], _, hl, _ => by simp at hl
theorem sumW_all : ∀ (ws : List Nat), sumW ws (2 ^ ws.length - 1) = ws.sum
  | [] => rfl
  | w :: ws => by
    have hp := Nat.two_pow_pos ws.length
    have e1 : (2 ^ (ws.length + 1) - 1) % 2 = 1 := by rw [Nat.pow_succ]; omega
    have e2 : (2 ^ (ws.length + 1) - 1) / 2 = 2 ^ ws.length - 1 := by rw [Nat.pow_succ]; omega
    unfold sumW
    rw [List.length_cons, e1, e2, sumW_all ws, List.sum_cons, if_pos rfl]
theorem Pk.sum {R : Nat → Bool} {n set : Nat} (h : Pk R n set) (ws : List Nat) (k : Nat) (hR : ∀ c, Sub c set → R c = true → sumW ws c ≤ k) : sumW ws set ≤ n * k := by
  induction h with
  | nil => rw [sumW_zero]; exact Nat.zero_le _
  | @cons n set c hr hs h0 t ih =>
    have h1 := ih fun c' hc' => hR c' (hc'.trans (sub_diff _ _))
    have h2 := hR c hs hr
    have h3 := sumW_split ws set c hs
    rw [Nat.succ_mul]; omega
theorem ones_pos : ∀ (k c : Nat), c ≠ 0 → c < 2 ^ k → 1 ≤ sumW (List.replicate k 1) c
  | 0, c, h0, h => absurd (by simpa using h) h0
  | k + 1, c, h0, h => by
    show 1 ≤ sumW (1 :: List.replicate k 1) c
    unfold sumW
    rcases Nat.mod_two_eq_zero_or_one c with hc | hc
    · have := ones_pos k (c / 2) (by omega) (by rw [Nat.pow_succ] at h; omega)
      omega
    · rw [if_pos hc]; omega
theorem Pk.count {R : Nat → Bool} {n set k : Nat} (h : Pk R n set) (hs : set < 2 ^ k) : n ≤ sumW (List.replicate k 1) set := by
  induction h with
  | nil => exact Nat.zero_le _
  | @cons n set c hr hsb h0 t ih =>
    have h1 := ih (Nat.lt_of_le_of_lt (diff_le _ _) hs)
    have h2 := ones_pos k c h0 (Nat.lt_of_le_of_lt hsb.le hs)
    have h3 := sumW_split (List.replicate k 1) set c hsb
    omega
theorem ones_le (k set : Nat) : sumW (List.replicate k 1) set ≤ k := by
  induction k generalizing set with
  | zero => exact Nat.zero_le _
  | succ k ih =>
    show sumW (1 :: List.replicate k 1) set ≤ _
    have := ih (set / 2)
    unfold sumW; split <;> omega
theorem Pk.len {R : Nat → Bool} {n k : Nat} (h : Pk R n (2 ^ k - 1)) : n ≤ k := by
  have hp := Nat.two_pow_pos k
  have := h.count (k := k) (by omega)
  have := ones_le k (2 ^ k - 1)
  omega
/-- A set without its first sack. -/
theorem Pk.tail {R R' : Nat → Bool} (hR : ∀ c, R c = true → R' (c / 2) = true) {n set : Nat} (h : Pk R n set) : ∃ k, k ≤ n ∧ Pk R' k (set / 2) := by
  induction h with
  | nil => exact ⟨0, Nat.le_refl _, .nil⟩
  | @cons n set c hr hs h0 t ih =>
    obtain ⟨k, hk, hp⟩ := ih
    rw [diff_half] at hp
    by_cases hc : c / 2 = 0
    · refine ⟨k, by omega, ?_⟩
      have e : diff (set / 2) (c / 2) = set / 2 := by
        rw [hc]; exact bit_ext fun i => by rw [diff_bit, Nat.zero_testBit]; cases (set / 2).testBit i <;> rfl
      rwa [e] at hp
    · exact ⟨k + 1, by omega, .cons (c / 2) (hR c hr) (sub_half hs) hc hp⟩
theorem RightP.free {l : Ld} (ha : l.apart = []) (hw : l.wth = []) {c : Nat} : RightP l c ↔ (sumW (wts l) c : Int) ≤ l.bears :=
  ⟨fun h => h.w, fun h => ⟨h, fun p hp => by rw [hw] at hp; simp at hp, fun p hp => by rw [ha] at hp; simp at hp⟩⟩
end GA
end

section
namespace GA
open Go Go.RowKit Go.Proofs
set_option maxRecDepth 8000
set_option linter.unusedVariables false
set_option linter.unusedSimpArgs false

theorem XPut.ints {els : List AV} {n e : Nat} {k : List AV → Prop} (xs : List Int) (x : Int) (hE : els = GA.ints xs) (h1 : n = xs.length) (h2 : e < n) (h : k (GA.ints (xs.set e x))) : XPut els n e (.int .i64 x) k := by
  subst hE; exact XPut.map (f := .int .i64) x rfl h1 h2 h
end GA
end

section
namespace GA
open Go Go.RowKit
set_option linter.unusedVariables false

section
variable {P : Program} {T : Tab} {N : Nat} {ρ : Option Nat} {H : List Blk} {σ : St} {D : List Nat}
/-- A place for a block to come. -/
theorem Walk.place {c : Code} {Q : Post} (x : Walk P N ρ c Q D σ (H ++ [.free])) : Walk P N ρ c Q D σ H := by
  constructor
  intro E h β a w s
  obtain ⟨s', X⟩ := s.sr.push (w' := w) s.sr.env (fun _ _ => rfl) (.pointer none) .free (by intro b hb; simp [anchor] at hb) (fun _ => trivial)
  exact wpIn_mono (x.o E h _ a w ⟨s', fun u r e => let ⟨v, h1, h2⟩ := s.fits u r e; ⟨v, h1, X.rep h2⟩, s.size, s.df.ext X⟩) fun _ _ _ => Conc.ext X
theorem XFree.at {H : List Blk} {b : Blk} {k : Nat → List Blk → Prop} (i : Nat) (h1 : lget H i = some .free) (h2 : hset H i b fun H' => k i H') : XFree H b k := ⟨i, h1, h2⟩
end
end GA
end

section
namespace GA
open Go Go.RowKit Go.Proofs
set_option pp.deepTerms true
set_option maxRecDepth 8000
set_option linter.unusedVariables false
set_option linter.unusedSimpArgs false

/-- What Fewest says of a right load. -/
def fewA (l : Ld) : AV := if 9 < manyD (openD l) then .tup [.sl true [], .int .i64 0, .int .i64 6] else .tup [.sl false (nats (loadI (openD l) (manyD (openD l)) (manyD (openD l))).out), natA (manyD (openD l)), .int .i64 0]
theorem few_c (l : Ld) (o : LdOk l) (w : LdW l) : Comp Try.prog 18 [ldA l] (fewA l) := by
  have h := fewest_c l w.w w.h1 w.h2 w.h3
  unfold fewestR fewestD at h
  rw [if_pos ((checkR_ok l).2 o)] at h
  exact h
theorem few_no (l : Ld) (o : LdOk l) (w : LdW l) (h : 9 < manyD (openD l)) : Comp Try.prog 18 [ldA l] (.tup [.sl true [], .int .i64 0, .int .i64 6]) := by
  have e := few_c l o w; unfold fewA at e; rwa [if_pos h] at e
theorem few_is (l : Ld) (o : LdOk l) (w : LdW l) (h : ¬ 9 < manyD (openD l)) : ∃ out : List Nat, Comp Try.prog 18 [ldA l] (.tup [.sl false (nats out), natA (manyD (openD l)), .int .i64 0]) := by
  have e := few_c l o w; unfold fewA at e; rw [if_neg h] at e; exact ⟨_, e⟩
theorem wshrink {m s s' : Int} (h0 : 0 ≤ m) (h : s ≤ s') : m - m * s' / 100 ≤ m - m * s / 100 := by
  have h1 : m * s ≤ m * s' := Int.mul_le_mul_of_nonneg_left h h0
  have := Int.ediv_le_ediv (show (0 : Int) < 100 by decide) h1
  omega
theorem RightP.bears {l : Ld} {b : Int} (hb : l.bears ≤ b) {c : Nat} (h : RightP l c) : RightP { l with bears := b } c :=
  ⟨by have := h.w; show (sumW (wts l) c : Int) ≤ b; omega, h.wp, h.ap⟩
theorem RightP.shrink {l : Ld} (o : LdOk l) {s : Int} (hs : l.shrink ≤ s) {c : Nat} (h : RightP l c) : RightP { l with shrink := s } c :=
  ⟨by
    have h1 := h.w
    have h2 := sumW_le_of (wts { l with shrink := s }) (wts l) c (by simp [wts]) (fun i => by
      simp only [wts, List.getD_eq_getElem?_getD, List.getElem?_map]
      cases e : l.sacks[i]? with
      | none => simp
      | some x =>
        simp only [Option.map_some, Option.getD_some]
        have hx := o.sk x (List.mem_of_getElem? e)
        unfold wt weightR
        have := wshrink (m := x.m) (by omega) hs
        dsimp only; omega)
    show (sumW (wts { l with shrink := s }) c : Int) ≤ l.bears
    omega, h.wp, h.ap⟩
end GA
end

section
namespace GA
open Go Go.RowKit Go.Proofs
set_option pp.deepTerms true
set_option maxRecDepth 8000
set_option linter.unusedVariables false
set_option linter.unusedSimpArgs false

def wsK (l : Ld) (k : Nat) : List Int := (l.sacks.take k).map (weightR l)
theorem wsK_next (l : Ld) {k : Nat} (h : k < l.sacks.length) : wsK l (k + 1) = wsK l k ++ [weightR l (l.sacks.getD k default)] := by
  unfold wsK; rw [take_next h, List.map_append]; rfl
theorem wsK_len (l : Ld) {k : Nat} (h : k ≤ l.sacks.length) : (wsK l k).length = k := by
  unfold wsK; rw [List.length_map, List.length_take]; omega
theorem wsK_all (l : Ld) {k : Nat} (h : k = l.sacks.length) : wsK l k = l.sacks.map (weightR l) := by
  subst h; unfold wsK; rw [List.take_length]
def weightsA (l : Ld) : AV := if checkR l = 0 then .tup [slA (l.sacks.map (weightR l)), .int .i64 0] else .tup [.sl true [], .int .i64 (checkR l)]
theorem weights_c (l : Ld) (o : LdW l) : Comp Try.prog 21 [ldA l] (weightsA l) := by
  refine Comp.body (T := tab) (res := [.tmp 2, .tmp 3]) tab_ok [] Try.func21 rfl (by kernel_rfl) Try.ntmps21 rfl (by simp only [List.length_cons, List.length_nil]; decide) (by simp only [lowL, AV.low, ldL]; rfl) ?_; conv => whnf
  refine XCall.ret (check_c l o.w o.h1 o.h2 o.h3) ?_
  conv => whnf
  unfold weightsA
  repeat' first | ((with_reducible apply XBr.tt); conv => whnf) | ((with_reducible apply XBr.ff); conv => whnf) | (with_reducible apply XBr.not) | ((with_reducible apply XBr.dec) <;> (intro h; first | (exfalso; omega) | ((try simp only [List.length_map] at h); first | (exfalso; omega) | (conv => whnf)))) | ((with_reducible apply XBr.beq) <;> (intro h; first | (exfalso; omega) | (conv => whnf))) | ((with_reducible apply XBr.bne) <;> (intro h; first | (exfalso; omega) | (conv => whnf))) | ((with_reducible refine XInt.i64 (by omega) (by omega) ?_); conv => whnf) | ((with_reducible refine XHold.mk ?_ ?_); (first | omega | rfl | decide | exact ⟨rfl, by decide, rfl⟩ | exact wideI _ | exact widePr _ | exact wideSk _ | (unfold Room; constructor <;> ((try simp) <;> omega)) | exact ⟨rfl, by simp only [List.length_map], by unfold Room; constructor <;> ((try simp) <;> omega)⟩ | exact ⟨by omega, by omega, by unfold Room; constructor <;> ((try simp) <;> omega)⟩); conv => whnf) | ((with_reducible refine XIx.nat ?_ ?_ ?_); omega; (intro _; rfl); conv => whnf) | ((with_reducible refine XIx.map ?_ ?_ ?_ ?_); omega; omega; (intro _; rfl); conv => whnf) | (with_reducible apply XAnd.mk) | ((with_reducible apply Chk.go); conv => whnf) | ((with_reducible apply ChkA.go); conv => whnf) | ((with_reducible apply ChkF.go); conv => whnf) | ((with_reducible apply ChkB.go); conv => whnf) | (exact XSame.mk rfl rfl) | (exact XSame.mk (by first | rfl | (simp only [List.map_append, List.length_append, List.length_map]; done) | (simp only [List.map_append, List.length_append, List.length_map]; rfl)) (by first | rfl | (simp only [List.map_append]; done) | (simp only [List.map_append]; rfl))) | (with_reducible exact trivial) | ((with_reducible refine xdrop_app (by rw [List.length_map]; omega) ?_); conv => whnf) | ((with_reducible refine XArr.ints (by omega) (by omega) (by omega) ?_); conv => whnf) | ((with_reducible refine XArr.intsA (by omega) (by omega) (by omega) ?_); conv => whnf) | ((with_reducible refine XArr.nats ?_ ?_ ?_); omega; omega; conv => whnf) | ((with_reducible refine XArr.natsA ?_ ?_ ?_); omega; omega; conv => whnf) | ((with_reducible apply XArr.pim0); conv => whnf) | ((with_reducible apply XArr.pim1); conv => whnf) | ((with_reducible refine XArr.ptr ?_ ?_ ?_); omega; omega; conv => whnf) | ((with_reducible apply XBr.mk') <;> (intro h; conv => whnf))
  · rw [if_neg (by assumption)]; exact ⟨Froz.low rfl⟩
  · have h1 : checkR l = 0 := by omega
    have ok := (checkR_ok l).1 h1
    have hn := ok.n
    rw [if_pos h1]
    refine Walk.nilgr 5 3 rfl ?_
    refine Walk.loopG tab_ok [] (fun k : Nat => k ≤ l.sacks.length) (fun k => [(1, .pim (ldC l)), (2, .sl true []), (3, .int .i64 0), (14, .sl l.nls (l.sacks.map skA)), (15, natA l.sacks.length), (5, .gr 0 (wsK l k).length), (16, natA k)])
      (fun k => [.grow 3 (wsK l k).isEmpty (ints (wsK l k))]) (fun k => l.sacks.length - k) 0 (Nat.zero_le _) rfl ⟨rfl, rfl, rfl, rfl, congrArg (fun n : Nat => some (AV.int .i64 n)) (by rw [List.length_map]), rfl, rfl, trivial⟩ ?_ ?_ ?_
    · intro k _
      constructor
      · intro x hx; simp only [List.mem_cons, List.not_mem_nil, or_false] at hx; subst hx; exact lowI _
      · intro p hp; simp only [List.mem_cons, List.not_mem_nil, or_false] at hp; rcases hp with rfl | rfl | rfl | rfl | rfl | rfl | rfl <;> first | exact lowLd _ | exact lowSk _ | rfl
    · intro k _; exact Nat.le_refl _
    intro k hk
    have hl := wsK_len l hk
    have hnx := fun h => wsK_next l (k := k) h
    have hall := fun h => wsK_all l (k := k) h
    generalize wsK l k = ws at hl hnx hall
    have hsk : k < l.sacks.length → l.sacks.getD k default ∈ l.sacks := fun h => getD_mem h
    conv => whnf
    repeat' first | ((with_reducible apply XBr.tt); conv => whnf) | ((with_reducible apply XBr.ff); conv => whnf) | (with_reducible apply XBr.not) | ((with_reducible apply XBr.dec) <;> (intro h; first | (exfalso; omega) | ((try simp only [List.length_map] at h); first | (exfalso; omega) | (conv => whnf)))) | ((with_reducible apply XBr.beq) <;> (intro h; first | (exfalso; omega) | (conv => whnf))) | ((with_reducible apply XBr.bne) <;> (intro h; first | (exfalso; omega) | (conv => whnf))) | ((with_reducible refine XInt.i64 (by omega) (by omega) ?_); conv => whnf) | ((with_reducible refine XHold.mk ?_ ?_); (first | omega | rfl | decide | exact ⟨rfl, by decide, rfl⟩ | exact wideI _ | exact widePr _ | exact wideSk _ | (unfold Room; constructor <;> ((try simp) <;> omega)) | exact ⟨rfl, by simp only [List.length_map], by unfold Room; constructor <;> ((try simp) <;> omega)⟩ | exact ⟨by omega, by omega, by unfold Room; constructor <;> ((try simp) <;> omega)⟩); conv => whnf) | ((with_reducible refine XIx.nat ?_ ?_ ?_); omega; (intro _; rfl); conv => whnf) | ((with_reducible refine XIx.map ?_ ?_ ?_ ?_); omega; omega; (intro _; rfl); conv => whnf) | (with_reducible apply XAnd.mk) | ((with_reducible apply Chk.go); conv => whnf) | ((with_reducible apply ChkA.go); conv => whnf) | ((with_reducible apply ChkF.go); conv => whnf) | ((with_reducible apply ChkB.go); conv => whnf) | (exact XSame.mk rfl rfl) | (exact XSame.mk (by first | rfl | (simp only [List.map_append, List.length_append, List.length_map]; done) | (simp only [List.map_append, List.length_append, List.length_map]; rfl)) (by first | rfl | (simp only [List.map_append]; done) | (simp only [List.map_append]; rfl))) | (with_reducible exact trivial) | ((with_reducible refine xdrop_app (by rw [List.length_map]; omega) ?_); conv => whnf) | ((with_reducible refine XArr.ints (by omega) (by omega) (by omega) ?_); conv => whnf) | ((with_reducible refine XArr.intsA (by omega) (by omega) (by omega) ?_); conv => whnf) | ((with_reducible refine XArr.nats ?_ ?_ ?_); omega; omega; conv => whnf) | ((with_reducible refine XArr.natsA ?_ ?_ ?_); omega; omega; conv => whnf) | ((with_reducible apply XArr.pim0); conv => whnf) | ((with_reducible apply XArr.pim1); conv => whnf) | ((with_reducible refine XArr.ptr ?_ ?_ ?_); omega; omega; conv => whnf) | ((with_reducible apply XBr.mk') <;> (intro h; conv => whnf))
    · have hs := ok.sk _ (hsk (by omega))
      have s1 := ok.s1
      have s2 := ok.s2
      have hwt := wt_le ok (hsk (by omega))
      repeat' first | ((with_reducible apply XBr.tt); conv => whnf) | ((with_reducible apply XBr.ff); conv => whnf) | (with_reducible apply XBr.not) | ((with_reducible apply XBr.dec) <;> (intro h; first | (exfalso; omega) | ((try simp only [List.length_map] at h); first | (exfalso; omega) | (conv => whnf)))) | ((with_reducible apply XBr.beq) <;> (intro h; first | (exfalso; omega) | (conv => whnf))) | ((with_reducible apply XBr.bne) <;> (intro h; first | (exfalso; omega) | (conv => whnf))) | ((with_reducible refine XInt.i64 (by omega) (by omega) ?_); conv => whnf) | ((with_reducible refine XHold.mk ?_ ?_); (first | omega | rfl | decide | exact ⟨rfl, by decide, rfl⟩ | exact wideI _ | exact widePr _ | exact wideSk _ | (unfold Room; constructor <;> ((try simp) <;> omega)) | exact ⟨rfl, by simp only [List.length_map], by unfold Room; constructor <;> ((try simp) <;> omega)⟩ | exact ⟨by omega, by omega, by unfold Room; constructor <;> ((try simp) <;> omega)⟩); conv => whnf) | ((with_reducible refine XIx.nat ?_ ?_ ?_); omega; (intro _; rfl); conv => whnf) | ((with_reducible refine XIx.map ?_ ?_ ?_ ?_); omega; omega; (intro _; rfl); conv => whnf) | (with_reducible apply XAnd.mk) | ((with_reducible apply Chk.go); conv => whnf) | ((with_reducible apply ChkA.go); conv => whnf) | ((with_reducible apply ChkF.go); conv => whnf) | ((with_reducible apply ChkB.go); conv => whnf) | (exact XSame.mk rfl rfl) | (exact XSame.mk (by first | rfl | (simp only [List.map_append, List.length_append, List.length_map]; done) | (simp only [List.map_append, List.length_append, List.length_map]; rfl)) (by first | rfl | (simp only [List.map_append]; done) | (simp only [List.map_append]; rfl))) | (with_reducible exact trivial) | ((with_reducible refine xdrop_app (by rw [List.length_map]; omega) ?_); conv => whnf) | ((with_reducible refine XArr.ints (by omega) (by omega) (by omega) ?_); conv => whnf) | ((with_reducible refine XArr.intsA (by omega) (by omega) (by omega) ?_); conv => whnf) | ((with_reducible refine XArr.nats ?_ ?_ ?_); omega; omega; conv => whnf) | ((with_reducible refine XArr.natsA ?_ ?_ ?_); omega; omega; conv => whnf) | ((with_reducible apply XArr.pim0); conv => whnf) | ((with_reducible apply XArr.pim1); conv => whnf) | ((with_reducible refine XArr.ptr ?_ ?_ ?_); omega; omega; conv => whnf) | ((refine XCall.ret (weight_c l (l.sacks.getD k default) (by omega) (by omega) s1 (by omega)) ?_); conv => whnf) | ((with_reducible apply XBr.mk') <;> (intro h; conv => whnf))
      refine XAgainG.go (k + 1) [.cells [.int .i64 (l.sacks.getD k default).m, .int .i64 (l.sacks.getD k default).o]] (by omega) (by omega) ?_ ⟨rfl, rfl, rfl, rfl, rfl, ?_, rfl, trivial⟩
      · rw [hnx (by omega)]; simp only [List.map_append, isEmpty_app]; rfl
      · rw [hnx (by omega)]; simp only [List.length_append]; rfl
    · rw [hall (by omega)]
      exact ⟨Froz.tup (.cons (by unfold slA; exact Froz.grow rfl (by rw [List.length_map]) (lowI _)) (.cons (Froz.low rfl) .nil))⟩
end GA
end

section
namespace GA
open Go Go.RowKit Go.Proofs
set_option maxRecDepth 8000
set_option linter.unusedVariables false
set_option linter.unusedSimpArgs false

theorem bits_sum (ps : List Int) (h0 : ∀ x ∈ ps, 0 ≤ x) : ∀ (f i s : Nat), s < 2 ^ f → ((bitsF f i s).map fun x => ps.getD x.toNat 0).sum = (sumW ((ps.drop i).map Int.toNat) s : Int)
  | 0, i, s, h => by
    have : s = 0 := by simpa using h
    subst this
    rw [sumW_zero]; rfl
  | f + 1, i, s, h => by
    have ih := bits_sum ps h0 f (i + 1) (s / 2) (by rw [Nat.pow_succ] at h; omega)
    have e : bitsF (f + 1) i s = if s = 0 then [] else if s % 2 = 1 then (i : Int) :: bitsF f (i + 1) (s / 2) else bitsF f (i + 1) (s / 2) := rfl
    rw [e]
    by_cases hs : s = 0
    · subst hs; rw [if_pos rfl, sumW_zero]; rfl
    · rw [if_neg hs]
      by_cases hi : i < ps.length
      · have hd : ps.drop i = ps.getD i 0 :: ps.drop (i + 1) := by
          rw [List.drop_eq_getElem_cons hi, List.getD_eq_getElem?_getD, List.getElem?_eq_getElem hi]; rfl
        have hp : 0 ≤ ps.getD i 0 := h0 _ (getD_mem hi)
        rw [hd, List.map_cons]
        unfold sumW
        by_cases ho : s % 2 = 1
        · rw [if_pos ho, if_pos ho, List.map_cons, List.sum_cons, ih]
          have : (i : Int).toNat = i := rfl
          rw [this]; omega
        · rw [if_neg ho, if_neg ho, ih]; omega
      · have hd : ps.drop i = [] := List.drop_eq_nil_of_le (by omega)
        have hd2 : ps.drop (i + 1) = [] := List.drop_eq_nil_of_le (by omega)
        have hg : ps.getD i 0 = 0 := by rw [List.getD_eq_getElem?_getD, List.getElem?_eq_none (by omega)]; rfl
        rw [hd2] at ih
        have z : ∀ k, sumW (([] : List Int).map Int.toNat) k = 0 := fun k => rfl
        rw [z] at ih
        rw [hd, z]
        by_cases ho : s % 2 = 1
        · rw [if_pos ho, List.map_cons, List.sum_cons, ih]
          have : (i : Int).toNat = i := rfl
          rw [this, hg]; rfl
        · rw [if_neg ho, ih]
theorem priceS_sumW {p : Pr} (h0 : ∀ x ∈ p.ps, 0 ≤ x) {c : Nat} (hc : c < 512) : priceS p (bits c) = (sumW (p.ps.map Int.toNat) c : Int) := by
  have := bits_sum p.ps h0 62 0 c (by omega)
  rw [List.drop_zero] at this
  exact this
theorem toNat_sum : ∀ (xs : List Int), (∀ x ∈ xs, 0 ≤ x) → ((xs.map Int.toNat).sum : Int) = xs.sum
  | [], _ => rfl
  | x :: xs, h => by
    have := toNat_sum xs fun y hy => h y (List.mem_cons_of_mem _ hy)
    have := h x List.mem_cons_self
    simp only [List.map_cons, List.sum_cons]; omega
/-- Right prices: no right cart costs more than a unit. -/
theorem fair_iff {d : Dk} {p : Pr} : fairB d p = true ↔ ∀ c, c < 2 ^ d.l.sacks.length → rightB d c = true → priceS p (bits c) ≤ p.unit := by
  unfold fairB
  rw [List.all_eq_true]
  constructor
  · intro h c hc hr
    have := h c (List.mem_range.2 hc)
    rw [hr] at this
    simp only [Bool.and_true, Bool.not_eq_true', decide_eq_false_iff_not] at this
    omega
  · intro h c hc
    have := h c (List.mem_range.1 hc)
    cases hr : rightB d c
    · simp
    · simp only [Bool.and_true, Bool.not_eq_true', decide_eq_false_iff_not]
      have := this hr; omega
theorem fair_many {l : Ld} (o : LdOk l) {p : Pr} (he : priceE l p = 0) (hf : fairB (openD l) p = true) (hm : manyD (openD l) < 10) : p.ps.sum ≤ manyD (openD l) * p.unit := by
  obtain ⟨h1, h2, h3, h4⟩ := priceE_ok he
  have h9 := pow9 o.n
  have h0 : ∀ x ∈ p.ps, 0 ≤ x := fun x hx => (h4 x hx).1
  have hP := (many_opt (openD l) o.n).is hm
  have := hP.sum (p.ps.map Int.toNat) p.unit.toNat (fun c hc hr => by
    have hlt : c < 2 ^ l.sacks.length := by
      have : c ≤ 2 ^ l.sacks.length - 1 := hc.le
      omega
    have e := fair_iff.1 hf c hlt hr
    rw [priceS_sumW h0 (by omega)] at e; omega)
  have e : allD (openD l) = 2 ^ (p.ps.map Int.toNat).length - 1 := by
    show 2 ^ l.sacks.length - 1 = _; rw [List.length_map, h1]
  rw [e, sumW_all] at this
  have hs := toNat_sum p.ps h0
  rw [← hs]
  have hu : p.unit = (p.unit.toNat : Int) := by omega
  rw [hu]
  rw [← Int.natCast_mul]; omega
theorem ceil_bd {s u : Int} (hu : 0 < u) (hs : 0 ≤ s) : s ≤ (s + u - 1) / u * u ∧ (s + u - 1) / u * u ≤ s + u - 1 ∧ 0 ≤ (s + u - 1) / u := by
  have h1 := Int.emod_add_mul_ediv (s + u - 1) u
  have h2 := Int.emod_nonneg (s + u - 1) (show u ≠ 0 by omega)
  have h3 := Int.emod_lt_of_pos (s + u - 1) hu
  rw [Int.mul_comm] at h1
  exact ⟨by omega, by omega, Int.ediv_nonneg (by omega) (by omega)⟩
theorem ceil_le {s u m : Int} (hu : 0 < u) (h : s ≤ m * u) : (s + u - 1) / u ≤ m := by
  have : (s + u - 1) / u < m + 1 := Int.ediv_lt_of_lt_mul hu (by rw [Int.add_mul, Int.one_mul]; omega)
  omega
theorem priceE_zero {l : Ld} {p : Pr} (h1 : p.ps.length = l.sacks.length) (h2 : 1 ≤ p.unit ∧ p.unit ≤ 100) (h3 : ∀ x ∈ p.ps, 0 ≤ x ∧ x ≤ 100) : priceE l p = 0 := by
  unfold priceE
  rw [if_neg (by omega), if_pos]
  rw [Bool.and_eq_true, inB_iff, List.all_eq_true]
  exact ⟨h2, fun x hx => inB_iff.2 (h3 x hx)⟩
/-- The weights are right prices. -/
def wPr (l : Ld) : Pr := ⟨l.bears, (l.sacks.map (weightR l)).isEmpty, l.sacks.map (weightR l)⟩
theorem wPr_ok {l : Ld} (o : LdOk l) : priceE l (wPr l) = 0 := priceE_zero (by simp [wPr]) ⟨o.b1, o.b2⟩ fun x hx => by
  obtain ⟨s, hs, rfl⟩ := List.mem_map.1 hx
  have := wt_le o hs; omega
theorem wPr_fair {l : Ld} (o : LdOk l) : fairB (openD l) (wPr l) = true := fair_iff.2 fun c hc hr => by
  have h9 := pow9 o.n
  have hc' : c < 2 ^ l.sacks.length := hc
  have h := (right_iff o hc').1 hr
  rw [priceS_sumW (fun x hx => by obtain ⟨s, hs, rfl⟩ := List.mem_map.1 hx; have := wt_le o hs; omega) (by omega)]
  have e : (wPr l).ps.map Int.toNat = wts l := by
    show (l.sacks.map (weightR l)).map Int.toNat = l.sacks.map (wt l)
    rw [List.map_map]; rfl
  rw [e]; exact h.w
end GA
end
