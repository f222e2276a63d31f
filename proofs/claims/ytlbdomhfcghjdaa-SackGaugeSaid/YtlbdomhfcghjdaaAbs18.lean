/- How the table of types is shown right. -/
import Derived.Test.YtlbdomhfcghjdaaAbs17
namespace GA
open Go Go.RowKit
section
variable {P : Program} {t : TypeId} {ag : Bool} {n : Nat} {z : Option AV} {q : Option Nat}
def FldOk (P : Program) (t : TypeId) : Nat → List (Nat × Bool × Nat) → Prop
  | _, [] => True
  | i, x :: l => fldK P t i = some x ∧ FldOk P t (i + 1) l
theorem FldOk.get : ∀ {fs : List (Nat × Bool × Nat)} {j i : Nat} {x : Nat × Bool × Nat}, FldOk P t j fs → lget fs i = some x → fldK P t (j + i) = some x
  | _ :: _, j, 0, x, h, e => by cases e; exact h.1
  | _ :: l, j, i + 1, x, h, e => by
    have := FldOk.get (fs := l) (j := j + 1) (i := i) h.2 e
    rwa [show j + 1 + i = j + (i + 1) by omega] at this
def isStT (P : Program) (t : TypeId) : Bool := match P.underlying t with | some (.struct _) => true | _ => false
theorem place_st (hu : isStT P t = true) {i : Nat} {x : Nat × Bool × Nat} (h : fldK P t i = some x) : placeK P t i = some (x.1, x.2.2) := by
  unfold isStT at hu; split at hu
  · rename_i e; unfold placeK; rw [e]; simp [h]
  · cases hu
theorem TeOk.st {fs : List (Nat × Bool × Nat)} (h1 : tyK P t = some (ag, n)) (h2 : sz P t = n) (h3 : ∀ z', z = some z' → zeroA P t = some z') (hu : isStT P t = true) (hf : FldOk P t 0 fs) (ha : allK P t = true) (hq : ∀ n, q = some n → intsT P t = some n) : TeOk P t ⟨ag, n, z, .st fs, q⟩ :=
  ⟨h1, h2, h3, ⟨fun i x e => by have := hf.get e; rw [Nat.zero_add] at this; exact ⟨this, place_st hu this⟩, ha⟩, hq⟩
theorem TeOk.ar {m : Nat} {el : TypeId} {ag' : Bool} {w : Nat} (h1 : tyK P t = some (ag, n)) (h2 : sz P t = n) (h3 : ∀ z', z = some z' → zeroA P t = some z') (hu : P.underlying t = some (.array m el)) (hf : arK P t = some (m, ag', w)) (ha : allK P t = true) (hq : ∀ n, q = some n → intsT P t = some n) : TeOk P t ⟨ag, n, z, .ar m ag' w, q⟩ :=
  ⟨h1, h2, h3, ⟨hf, ha, fun i => by unfold placeK; rw [hu]; simp [hf]⟩, hq⟩
theorem qsome {n n' : Nat} (h : intsT P t = some n) : some n = some n' → intsT P t = some n' := fun e => e ▸ h
theorem qnone {n' : Nat} : none = some n' → intsT P t = some n' := nofun
theorem zsome {z z' : AV} (h : zeroA P t = some z) : some z = some z' → zeroA P t = some z' := fun e => e ▸ h
theorem znone {z' : AV} : none = some z' → zeroA P t = some z' := nofun
end
end GA
