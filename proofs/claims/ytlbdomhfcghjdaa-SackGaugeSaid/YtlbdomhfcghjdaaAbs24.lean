/- A region that draws its order: what is to be checked, written out. -/
import Derived.Test.YtlbdomhfcghjdaaAbs23
namespace GA
open Go Go.RowKit
set_option linter.unusedVariables false

structure XAnd (A B : Prop) : Prop where
  l : A
  r : B
def allF : Nat → List (List Bool)
  | 0 => [[]]
  | n + 1 => (allF n).flatMap fun l => [l ++ [false], l ++ [true]]
def sameF : List Bool → List Bool → Bool
  | [], [] => true
  | true :: l, true :: m => sameF l m
  | false :: l, false :: m => sameF l m
  | _, _ => false
theorem sameF_eq : ∀ {l m : List Bool}, sameF l m = true → l = m
  | [], [], _ => rfl
  | true :: l, true :: m, h => by rw [sameF_eq (l := l) (m := m) h]
  | false :: l, false :: m, h => by rw [sameF_eq (l := l) (m := m) h]
  | [], _ :: _, h => by cases h
  | _ :: _, [], h => by simp [sameF] at h
  | true :: _, false :: _, h => by cases h
  | false :: _, true :: _, h => by cases h
theorem allF_mem : ∀ {n : Nat} {fl : List Bool}, fl.length = n → fl ∈ allF n
  | 0, fl, h => by simp [allF, List.eq_nil_of_length_eq_zero h]
  | n + 1, fl, h => by
    have hne : fl ≠ [] := by intro e; rw [e] at h; simp at h
    have h1 : fl.dropLast ++ [fl.getLast hne] = fl := List.dropLast_concat_getLast hne
    have h2 := allF_mem (n := n) (fl := fl.dropLast) (by simp [h])
    simp only [allF, List.mem_flatMap]
    refine ⟨fl.dropLast, h2, ?_⟩
    cases hb : fl.getLast hne with
    | true => rw [hb] at h1; rw [h1]; simp
    | false => rw [hb] at h1; rw [h1]; simp

section
variable (P : Program) (T : Tab) (N : Nat) (own : List Nat) (ops : List Oper) (eff : List Nat) (HS : List Bool → List Blk)
def textF (i : Nat) : List Bool := eff.map fun j => Nat.blt j i
/-- Each operation, where it stands in the text. -/
def ChkA : Nat → List Oper → List AV → St → Prop
  | _, [], [], _ => True
  | i, o :: l, r :: R, σ => XAnd (Chk P T own ops eff HS i o σ r (textF eff i)) (ChkA (i + 1) l R (putX N σ o.dst r))
  | _, _, _, _ => False
/-- Each operation, with just these carried out of those that change memory. -/
def ChkF (fl : List Bool) : Nat → List Oper → List AV → St → Prop
  | i, o :: l, r :: R, σ => match compat ops eff i fl && !sameF fl (textF eff i) with
    | true => XAnd (Chk P T own ops eff HS i o σ r fl) (ChkF fl (i + 1) l R (putX N σ o.dst r))
    | false => ChkF fl (i + 1) l R (putX N σ o.dst r)
  | _, _, _, _ => True
def ChkB (R : List AV) (σ : St) : List (List Bool) → Prop
  | [] => True
  | fl :: fls => XAnd (ChkF P T N own ops eff HS fl 0 ops R σ) (ChkB R σ fls)
end
section
variable {P : Program} {T : Tab} {N : Nat} {own : List Nat} {ops : List Oper} {eff : List Nat} {HS : List Bool → List Blk}
theorem ChkF.all : ∀ {l : List Oper} {R : List AV} {i : Nat} {σ : St}, ChkA P T N own ops eff HS i l R σ → (∀ fl, fl.length = eff.length → ChkF P T N own ops eff HS fl i l R σ) → ChkAll P T N own ops eff HS i l R σ
  | [], [], _, _, _, _ => trivial
  | o :: l, r :: R, i, σ, hA, hB => by
    refine ⟨fun fl hf hc => ?_, ChkF.all hA.r fun fl hf => ?_⟩
    · cases hs : sameF fl (textF eff i) with
      | true => rw [sameF_eq hs]; exact hA.l
      | false =>
        have := hB fl hf
        simp only [ChkF, hc, hs] at this
        exact this.l
    · have := hB fl hf
      simp only [ChkF] at this
      split at this
      · exact this.r
      · exact this
  | [], _ :: _, _, _, h, _ => h.elim
  | _ :: _, [], _, _, h, _ => h.elim
theorem ChkB.get {R : List AV} {σ : St} : ∀ {fls : List (List Bool)}, ChkB P T N own ops eff HS R σ fls → ∀ fl ∈ fls, ChkF P T N own ops eff HS fl 0 ops R σ
  | fl :: fls, h, f, hf => by
    rcases List.mem_cons.1 hf with rfl | hf
    · exact h.l
    · exact ChkB.get h.r f hf

/-- Memory, by how many operations have changed it, one after the other. -/
def hsC (l : List (List Blk)) (fl : List Bool) : List Blk := match lget l (fl.countP id) with | some H => H | none => []
/-- Memory, by which operations have changed it. -/
def bin : List Bool → Nat
  | [] => 0
  | true :: l => 2 * bin l + 1
  | false :: l => 2 * bin l
def hsB (l : List (List Blk)) (fl : List Bool) : List Blk := match lget l (bin fl) with | some H => H | none => []

theorem Walk.drawX {ρ : Option Nat} {id : Nat} {Q : Post} {D : List Nat} {σ : St} {H : List Blk} (ok : TabOk P T) (hm : P.follows .mixedOrders = true) (own : List Nat) (eff : List Nat) (HS : List Bool → List Blk) (R : List AV) (hs : Region.lexB .any ops.toArray = true)
    (hH : HS (eff.map fun _ => false) = H) (hA : ChkA P T N own ops eff HS 0 ops R σ) (hB : ChkB P T N own ops eff HS R σ (allF eff.length)) (hk : Q .normal D (xFold N ops R σ) (HS (eff.map fun j => Nat.blt j ops.length))) : Walk P N ρ (.region id ops.toArray true) Q D σ H :=
  .draw ok hm own eff HS R hs hH (ChkF.all hA fun fl hf => hB.get fl (allF_mem hf)) hk
theorem ChkA.go {i : Nat} {l : List Oper} {R : List AV} {σ : St} (h : ChkA P T N own ops eff HS i l R σ) : ChkA P T N own ops eff HS i l R σ := h
theorem ChkF.go {fl : List Bool} {i : Nat} {l : List Oper} {R : List AV} {σ : St} (h : ChkF P T N own ops eff HS fl i l R σ) : ChkF P T N own ops eff HS fl i l R σ := h
theorem ChkB.go {R : List AV} {σ : St} {fls : List (List Bool)} (h : ChkB P T N own ops eff HS R σ fls) : ChkB P T N own ops eff HS R σ fls := h
theorem Chk.go {i : Nat} {o : Oper} {σ : St} {r : AV} {fl : List Bool} (h : Chk P T own ops eff HS i o σ r fl) : Chk P T own ops eff HS i o σ r fl := h
end
end GA
