/- Regions that draw their order. -/
import Derived.Test.YtlbdomhfcghjdaaAbs20
import Derived.OrdersIn
namespace GA
open Go Go.RowKit
set_option linter.unusedVariables false

section
variable {P : Program} {T : Tab} {N : Nat} {ρ : Option Nat} {own : List Nat} {E : Env} {h : Nat → Option Obj} {β : Nat → Value} {H : List Blk} {w : World} {σ σ' : St} {a : Act}

/-! ### an operation looks at its operands alone -/
def Knows (σ σ' : St) (l : List Operand) : Prop := ∀ t, Operand.tmp t ∈ l → ∀ r, σ t = some r → σ' t = some r
theorem Knows.ev {l : List Operand} (k : Knows σ σ' l) {x : Operand} (hx : x ∈ l) {r : AV} (e : ev σ x = some r) : ev σ' x = some r := by
  cases x with
  | tmp t => exact k t hx r e
  | _ => exact e
theorem Knows.evL {l : List Operand} (k : Knows σ σ' l) : ∀ {xs : List Operand} {rs : List AV}, (∀ x ∈ xs, x ∈ l) → evL σ xs = some rs → evL σ' xs = some rs
  | [], _, _, e => e
  | x :: xs, rs, hx, e => by
    unfold GA.evL at e ⊢
    split at e <;> cases e
    rename_i h1 h2
    rw [k.ev (hx x (by simp)) h1, k.evL (fun y hy => hx y (by simp [hy])) h2]
theorem Knows.evP {l : List Operand} (k : Knows σ σ' l) : ∀ {xs : List (Nat × Operand)} {rs : List (Nat × AV)}, (∀ x ∈ xs.map (·.2), x ∈ l) → evP σ xs = some rs → evP σ' xs = some rs
  | [], _, _, e => e
  | (i, x) :: xs, rs, hx, e => by
    unfold GA.evP at e ⊢
    split at e <;> cases e
    rename_i h1 h2
    rw [k.ev (hx x (by simp)) h1, k.evP (fun y hy => hx y (by simp at hy ⊢; exact .inr hy)) h2]
theorem Knows.evO {l : List Operand} (k : Knows σ σ' l) {x : Option Operand} {r : Option AV} (hx : ∀ y, x = some y → y ∈ l) (e : evO σ x = some r) : evO σ' x = some r := by
  cases x with
  | none => exact e
  | some y =>
    simp only [GA.evO] at e ⊢
    cases h1 : GA.ev σ y with
    | none => rw [h1] at e; cases e
    | some z => rw [h1] at e; rw [k.ev (hx y rfl) h1]; exact e

theorem Knows.b {l : List Operand} (k : Knows σ σ' l) {x : Operand} (hx : x ∈ l) {K : AV → Prop} (e : bnd (GA.ev σ x) K) : bnd (GA.ev σ' x) K := by
  obtain ⟨r, h1, h2⟩ := bnd_elim e; rw [k.ev hx h1]; exact h2
theorem AOp_look {op : Op} {d : Option Nat} {K : AV → List Blk → Prop} (k : Knows σ σ' op.operands.toList) (x : AOp P own d σ H K op) : AOp P own d σ' H K op := by
  cases op with
  | move a => exact k.b (by simp [Op.operands]) x
  | assign a => exact k.b (by simp [Op.operands]) x
  | pick c a b =>
    refine bnd_mono (k.b (x := c) (by simp [Op.operands]) x) fun r _ h => ?_
    split at h
    · exact ⟨fun e => k.b (by simp [Op.operands]) (h.1 e), fun e => k.b (by simp [Op.operands]) (h.2 e)⟩
    · exact h
  | alloc t => exact x
  | box t a => exact k.b (by simp [Op.operands]) x
  | build t ps => obtain ⟨r, h1, h2⟩ := bnd_elim x; show bnd _ _; rw [k.evP (by simp [Op.operands]) h1]; exact h2
  | buildSlice t n ps => obtain ⟨r, h1, h2⟩ := bnd_elim x; show bnd _ _; rw [k.evP (by simp [Op.operands]) h1]; exact h2
  | load t a => exact k.b (by simp [Op.operands]) x
  | store t a v => exact bnd_mono (k.b (x := a) (by simp [Op.operands]) x) fun r _ h => k.b (by simp [Op.operands]) h
  | nilCheck a => exact k.b (by simp [Op.operands]) x
  | binOp op t a b y => exact bnd_mono (k.b (x := a) (by simp [Op.operands]) x) fun r _ h => k.b (by simp [Op.operands]) h
  | unOp op t a => exact k.b (by simp [Op.operands]) x
  | convert s d a => exact k.b (by simp [Op.operands]) x
  | makeFunc fn first caps =>
    cases fn with
    | func f =>
      obtain ⟨h0, h⟩ := x
      obtain ⟨r, h1, h2⟩ := bnd_elim h
      refine ⟨h0, ?_⟩
      rw [k.evL (by simp [Op.operands]; exact fun _ h => .inr h) h1]; exact h2
    | _ => exact x
  | makeSlice t a b => exact bnd_mono (k.b (x := a) (by simp [Op.operands]) x) fun r _ h => k.b (by simp [Op.operands]) h
  | slice t a lo hi mx =>
    refine bnd_mono (k.b (x := a) (by simp [Op.operands]) x) fun r _ h => ?_
    obtain ⟨l1, g1, h⟩ := bnd_elim h
    obtain ⟨l2, g2, h⟩ := bnd_elim h
    obtain ⟨l3, g3, h⟩ := bnd_elim h
    rw [k.evO (by rintro y rfl; simp [Op.operands]) g1, bnd_some, k.evO (by rintro y rfl; simp [Op.operands]) g2, bnd_some, k.evO (by rintro y rfl; simp [Op.operands]) g3, bnd_some]
    exact h
  | fieldAddr t a f => exact k.b (by simp [Op.operands]) x
  | field t a f => exact k.b (by simp [Op.operands]) x
  | indexAddr t a b => exact bnd_mono (k.b (x := a) (by simp [Op.operands]) x) fun r _ h => k.b (by simp [Op.operands]) h
  | index t a b => exact bnd_mono (k.b (x := a) (by simp [Op.operands]) x) fun r _ h => k.b (by simp [Op.operands]) h
  | extract a i => exact k.b (by simp [Op.operands]) x
  | makeMap t r => exact x
  | lookup t a b ok => exact bnd_mono (k.b (x := a) (by simp [Op.operands]) x) fun r _ h => k.b (by simp [Op.operands]) h
  | mapUpdate t m a b => exact bnd_mono (k.b (x := m) (by simp [Op.operands]) x) fun r _ h => bnd_mono (k.b (x := a) (by simp [Op.operands]) h) fun r _ h => k.b (by simp [Op.operands]) h
  | insert t m a b => exact bnd_mono (k.b (x := m) (by simp [Op.operands]) x) fun r _ h => bnd_mono (k.b (x := a) (by simp [Op.operands]) h) fun r _ h => k.b (by simp [Op.operands]) h
  | call c =>
    obtain ⟨callee, args, argTypes⟩ := c
    change opCall P σ H _ K at x
    change opCall P σ' H _ K
    unfold opCall at x ⊢
    cases callee with
    | value f =>
      refine bnd_mono (k.b (x := f) (by simp [Op.operands, Call.operands]) x) fun fv _ h => ?_
      obtain ⟨rs, h1, h2⟩ := bnd_elim h
      rw [k.evL (by simp [Op.operands, Call.operands]; exact fun _ h => .inr h) h1]; exact h2
    | builtin b =>
      obtain ⟨rs, h1, h2⟩ := bnd_elim x
      simp only
      rw [k.evL (by simp [Op.operands, Call.operands]) h1]; exact h2
    | invoke r m => exact x
  | _ => exact x
end
end GA
