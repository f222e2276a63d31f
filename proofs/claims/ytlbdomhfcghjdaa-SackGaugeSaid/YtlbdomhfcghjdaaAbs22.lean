/- A region that draws its order: any order comes to the same. -/
import Derived.Test.YtlbdomhfcghjdaaAbs21
namespace GA
open Go Go.RowKit
set_option linter.unusedVariables false

def dep (o : Oper) (j : Nat) : Bool := o.after.toList.any fun e => Region.binds .any e && Nat.beq e.on j
def flagsOf (eff : List Nat) (listed : Array Bool) : List Bool := eff.map fun j => listed.getD j false
def setF (eff : List Nat) (i : Nat) (fl : List Bool) : List Bool := List.zipWith (fun j b => b || Nat.beq j i) eff fl
def opAt (ops : List Oper) (j : Nat) (f : Oper → Bool) : Bool := match lget ops j with | some o => f o | none => true
/-- Can an operation come up when just these have been carried out of those that change memory? -/
def compat (ops : List Oper) (eff : List Nat) (i : Nat) (fl : List Bool) : Bool :=
  (eff.zip fl).all fun (j, b) =>
    (opAt ops i fun o => !dep o j || b) && (!Nat.beq j i || !b) && (opAt ops j fun o => !dep o i || !b) &&
    (!b || (eff.zip fl).all fun (j', b') => opAt ops j fun o => !dep o j' || b')

structure XSame (r : AV) (H : List Blk) (r0 : AV) (H0 : List Blk) : Prop where
  r : r = r0
  h : H = H0

section
variable (P : Program) (T : Tab) (N : Nat) (own : List Nat) (ops : List Oper) (eff : List Nat) (HS : List Bool → List Blk)
def Chk (i : Nat) (o : Oper) (σ : St) (r : AV) (fl : List Bool) : Prop :=
  xGate ops σ o.guard (fun σ => XOp P T own o.dst σ (HS fl) (fun r' H' => XSame r' H' r (HS (setF eff i fl))) o.op) (fun _ => XSame (.tup []) (HS fl) r (HS (setF eff i fl)))
/-- All that must be checked, operation by operation. -/
def ChkAll : Nat → List Oper → List AV → St → Prop
  | _, [], [], _ => True
  | i, o :: l, r :: R, σ => (∀ fl, fl.length = eff.length → compat ops eff i fl = true → Chk P T own ops eff HS i o σ r fl) ∧ ChkAll (i + 1) l R (putX N σ o.dst r)
  | _, _, _, _ => False
end
def xFold (N : Nat) : List Oper → List AV → St → St
  | o :: l, r :: R, σ => xFold N l R (putX N σ o.dst r)
  | _, _, σ => σ

section
variable {P : Program} {T : Tab} {N : Nat} {ρ : Option Nat} {own : List Nat} {E : Env} {h : Nat → Option Obj} {β : Nat → Value} {H : List Blk} {w : World} {σ σ' : St} {a : Act} {ops : List Oper} {eff : List Nat} {HS : List Bool → List Blk}

theorem ChkAll.get : ∀ {l : List Oper} {R : List AV} {i : Nat} {σ : St}, ChkAll P T N own ops eff HS i l R σ → l.length = R.length ∧ ∀ (j : Nat) o, l[j]? = some o → ∃ r, R[j]? = some r ∧
      ∀ fl, fl.length = eff.length → compat ops eff (i + j) fl = true → Chk P T own ops eff HS (i + j) o (xFold N (l.take j) (R.take j) σ) r fl
  | [], [], _, _, _ => ⟨rfl, by simp⟩
  | o :: l, r :: R, i, σ, h => by
    obtain ⟨h1, h2⟩ := h
    obtain ⟨h3, h4⟩ := ChkAll.get h2
    refine ⟨by simp [h3], fun j o' e => ?_⟩
    cases j with
    | zero => simp at e; subst e; exact ⟨r, rfl, h1⟩
    | succ j =>
      obtain ⟨r', e1, e2⟩ := h4 j o' (by simpa using e)
      refine ⟨r', by simpa using e1, fun fl hf hc => ?_⟩
      have := e2 fl hf (by rwa [show i + 1 + j = i + (j + 1) by omega])
      rw [show i + 1 + j = i + (j + 1) by omega] at this
      exact this
  | [], _ :: _, _, _, h => h.elim
  | _ :: _, [], _, _, h => h.elim

theorem putX_get {N : Nat} {σ : St} {d : Option Nat} {r x : AV} {t : Nat} (e : putX N σ d r t = some x) : (d = some t ∧ t < N ∧ x = r) ∨ ((d ≠ some t ∨ ¬ t < N) ∧ σ t = some x) := by
  rw [putX_eq] at e
  cases d with
  | none => exact .inr ⟨.inl (by simp), e⟩
  | some d =>
    simp only [putO] at e
    split at e
    · rename_i hd; unfold upd at e; split at e
      · rename_i ht; subst ht; cases e; exact .inl ⟨rfl, hd, rfl⟩
      · rename_i ht; exact .inr ⟨.inl (by intro hh; cases hh; exact ht rfl), e⟩
    · rename_i hd
      by_cases ht : d = t
      · subst ht; exact .inr ⟨.inr hd, e⟩
      · exact .inr ⟨.inl (by intro hh; cases hh; exact ht rfl), e⟩

/-- The fold: the last that wrote, or what was there. -/
theorem xFold_get {N : Nat} : ∀ {l : List Oper} {R : List AV} {σ : St} {t : Nat} {x : AV}, l.length = R.length → xFold N l R σ t = some x →
    (∃ (j : Nat) (o : Oper), l[j]? = some o ∧ o.dst = some t ∧ t < N ∧ R[j]? = some x ∧ ∀ (k : Nat) o', l[k]? = some o' → j < k → o'.dst ≠ some t) ∨
    ((∀ (k : Nat) o', l[k]? = some o' → o'.dst ≠ some t ∨ ¬ t < N) ∧ σ t = some x)
  | [], R, σ, t, x, hl, e => by
    right; refine ⟨by simp, ?_⟩
    cases R <;> exact e
  | o :: l, [], _, _, _, hl, _ => by simp at hl
  | o :: l, r :: R, σ, t, x, hl, e => by
    rcases xFold_get (l := l) (R := R) (by simpa using hl) e with ⟨j, o', h1, h2, h3, h4, h5⟩ | ⟨h1, h2⟩
    · left
      refine ⟨j + 1, o', by simpa using h1, h2, h3, by simpa using h4, fun k o'' hk hj => ?_⟩
      cases k with
      | zero => omega
      | succ k => exact h5 k o'' (by simpa using hk) (by omega)
    · rcases putX_get h2 with ⟨g1, g2, g3⟩ | ⟨g1, g2⟩
      · left
        refine ⟨0, o, rfl, g1, g2, by simp [g3], fun k o' hk hj => ?_⟩
        cases k with
        | zero => omega
        | succ k =>
          rcases h1 k o' (by simpa using hk) with h | h
          · exact h
          · exact absurd g2 h
      · right
        refine ⟨fun k o' hk => ?_, g2⟩
        cases k with
        | zero => simp at hk; subst hk; exact g1
        | succ k => exact h1 k o' (by simpa using hk)

/-- What lexB says. -/
theorem lex_spec {ops : Array Oper} : ∀ (fuel k : Nat) (listed : Array Bool), listed.size = ops.size → (∀ j, listed.getD j true = false ↔ k ≤ j ∧ j < ops.size) → k + fuel = ops.size → Region.lexFrom .any ops fuel k listed = true →
    ∀ i o, k ≤ i → ops[i]? = some o → (∀ e ∈ o.after, Region.binds .any e = true → e.on < i) ∧ ∀ (j : Nat) oj, i < j → ops[j]? = some oj → (∀ e ∈ oj.after, Region.binds .any e = true → e.on ≠ i) → o.apart ops oj = true
  | 0, k, listed, _, _, hk, _, i, o, hi, ho => by have := (Array.getElem?_eq_some_iff.1 ho).1; omega
  | fuel + 1, k, listed, hs, hl, hk, hB, i, o, hi, ho => by
    simp only [Region.lexFrom, Bool.and_eq_true] at hB
    obtain ⟨⟨hr, hf⟩, hB'⟩ := hB
    rcases Nat.lt_or_eq_of_le hi with hlt | rfl
    · refine lex_spec fuel (k + 1) (listed.setIfInBounds k true) (by simpa using hs) (fun j => ?_) (by omega) hB' i o (by omega) ho
      by_cases hjk : k = j
      · subst hjk
        have : k < listed.size := by omega
        simp [this]; omega
      · rw [getD_set_ne true hjk, hl j]; omega
    · have hr' : k ∈ Region.ready .any ops listed := by simpa using hr
      obtain ⟨_, o', ho', hall⟩ := mem_ready.1 hr'
      rw [ho] at ho'; cases ho'
      refine ⟨fun e he hb => ?_, fun j oj hj hoj hno => Region.free_spec ho hf j oj hoj (by omega) ((hl j).2 ⟨by omega, (Array.getElem?_eq_some_iff.1 hoj).1⟩) hno⟩
      have h1 := hall e he hb
      rcases Nat.lt_or_ge e.on k with h | h
      · exact h
      · exfalso
        rcases Nat.lt_or_ge e.on ops.size with h' | h'
        · have h2 := (hl e.on).2 ⟨h, h'⟩
          simp at h1 h2
          rcases Nat.lt_or_ge e.on listed.size with h3 | h3
          · simp [h3] at h1 h2; rw [h2] at h1; cases h1
          · simp [Array.getElem?_eq_none h3] at h1
        · have h3 : listed.size ≤ e.on := by omega
          simp [Array.getElem?_eq_none h3] at h1
end
end GA
