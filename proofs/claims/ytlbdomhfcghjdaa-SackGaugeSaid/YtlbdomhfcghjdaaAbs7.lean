/- Structs, arrays and slices that are built; lengths; numbers. -/
import Derived.Test.YtlbdomhfcghjdaaAbs6
namespace GA
open Go Go.RowKit

def placeK (P : Program) (t : TypeId) (i : Nat) : Option (Nat × Nat) :=
  match P.underlying t with
  | some (.struct _) => (fldK P t i).map fun x => (x.1, x.2.2)
  | some (.array _ _) => (arK P t).map fun y => (i * y.2.2, y.2.2)
  | _ => none
def allK (P : Program) (t : TypeId) : Bool :=
  match P.underlying t with
  | some (.struct fs) => fs.all fun f => (P.info? f.type).isSome
  | some (.array _ el) => (P.info? el).isSome
  | _ => false

def fillA (place : Nat → Option (Nat × Nat)) (cells : List AV) : List (Nat × AV) → Option (List AV)
  | [] => some cells
  | (i, v) :: rest =>
    match place i with
    | none => none
    | some (off, n) => if v.cells.length = n ∧ off + n ≤ cells.length ∧ v.isTup = false then fillA place (splice cells off v.cells) rest else none

def evP (σ : St) : List (Nat × Operand) → Option (List (Nat × AV))
  | [] => some []
  | (i, x) :: l => match ev σ x, evP σ l with | some a, some r => some ((i, a) :: r) | _, _ => none

def opBuild (P : Program) (t : TypeId) (ps : List (Nat × AV)) (k : AV → Prop) : Prop :=
  allK P t = true ∧ bnd (zeroA P t) fun z => match z with | .agg zc => bnd (fillA (placeK P t) zc ps) fun cs => k (.agg cs) | _ => False

section
variable {P : Program} {E : Env} {h : Nat → Option Obj} {β : Nat → Value} {H : List Blk} {w : World} {σ : St} {a : Act}

theorem foldl_set_size (off : Nat) : ∀ (l : List Value) (n : Nat) (cells : Array Value), ((l.zipIdx n).foldl (fun cs (x : Value × Nat) => cs.setIfInBounds (off + x.2) x.1) cells).size = cells.size
  | [], _, _ => rfl
  | v :: l, n, cells => by simp only [List.zipIdx_cons, List.foldl_cons]; rw [foldl_set_size off l]; simp
theorem foldl_set_get (off : Nat) : ∀ (l : List Value) (n : Nat) (cells : Array Value), off + n + l.length ≤ cells.size → ∀ k, k < cells.size →
    ((l.zipIdx n).foldl (fun cs (x : Value × Nat) => cs.setIfInBounds (off + x.2) x.1) cells)[k]? = if off + n ≤ k ∧ k < off + n + l.length then l[k - (off + n)]? else cells[k]?
  | [], n, cells, _, k, hk => by simp; omega
  | v :: l, n, cells, hl, k, hk => by
    simp only [List.zipIdx_cons, List.foldl_cons]
    rw [foldl_set_get off l (n + 1) (cells.setIfInBounds (off + n) v) (by simp at hl ⊢; omega) k (by simpa using hk)]
    by_cases h1 : off + n = k
    · subst h1
      rw [if_neg (by omega), if_pos (by simp)]
      simp [hk]
    · rw [Array.getElem?_setIfInBounds_ne h1]
      by_cases h2 : off + (n + 1) ≤ k ∧ k < off + (n + 1) + l.length
      · rw [if_pos h2, if_pos (by simp; omega)]
        rw [show k - (off + n) = (k - (off + (n + 1))) + 1 by omega]; simp
      · rw [if_neg h2, if_neg (by simp; omega)]

theorem fill_ok {place : Nat → Option (Nat × Nat)} {place' : Nat → Option (Nat × Nat)} (hp : ∀ i x, place i = some x → place' i = some x) (s : SR P E h β H w) :
    ∀ {ps : List (Nat × AV)} {vs : List (Nat × Value)} {z cs : List AV} {cells : Array Value}, vs.length = ps.length → (∀ (j : Nat) x, ps[j]? = some x → ∃ v, vs[j]? = some (x.1, v) ∧ Rep P h β H x.2 v) →
      cells.size = z.length → (∀ x ∈ z, x.one = true) → CellsOk P h β H z cells → fillA place z ps = some cs →
      ∃ cells', Instr.fill place' cells vs = some cells' ∧ cells'.size = cs.length ∧ (∀ x ∈ cs, x.one = true) ∧ CellsOk P h β H cs cells'
  | [], vs, z, cs, cells, hl, _, hs, ho, hc, e => by
    cases e
    have : vs = [] := List.eq_nil_of_length_eq_zero hl
    subst this
    exact ⟨cells, rfl, hs, ho, hc⟩
  | (i, r) :: ps, vs, z, cs, cells, hl, hv, hs, ho, hc, e => by
    obtain ⟨v, h1, h2⟩ := hv 0 _ rfl
    cases vs with
    | nil => simp at hl
    | cons x vs =>
      simp at h1; subst h1
      simp only at h2
      simp only [fillA] at e
      split at e
      · cases e
      · rename_i off n hpl
        split at e
        · rename_i hcond
          obtain ⟨c1, c2, c3⟩ := hcond
          obtain ⟨g1, g2, g3, us, g4, g5⟩ := cells_of s h2 c3
          have hle : off + r.cells.length ≤ z.length := by omega
          let cells1 : Array Value := v.cells.zipIdx.foldl (fun cs (x : Value × Nat) => cs.setIfInBounds (off + x.2) x.1) cells
          have q : cells1 = (v.cells.toList.zipIdx 0).foldl (fun cs (x : Value × Nat) => cs.setIfInBounds (off + x.2) x.1) cells := by
            simp only [cells1]; rw [← Array.foldl_toList, Array.toList_zipIdx]
          have qs : cells1.size = cells.size := by rw [q]; exact foldl_set_size _ _ _ _
          have qg : ∀ k, k < cells.size → cells1[k]? = if off ≤ k ∧ k < off + r.cells.length then v.cells[k - off]? else cells[k]? := by
            intro k hk
            have g1' : v.cells.size = r.cells.length := g1
            rw [q, foldl_set_get off _ 0 cells (by simp; omega) k hk]
            simp [g1']
          have hc1 : CellsOk P h β H (splice z off r.cells) cells1 := by
            obtain ⟨vs0, a1, a2⟩ := hc
            refine ⟨fun j => if off ≤ j ∧ j < off + r.cells.length then us (j - off) else vs0 j, fun j x e => ?_, fun j x e => ?_⟩
            · have hj : j < z.length := by have := (List.getElem?_eq_some_iff.1 e).1; rwa [splice_length hle] at this
              rw [qg j (by omega)]
              rw [splice_get hle] at e
              by_cases b1 : j < off
              · have b2 : ¬ (off ≤ j ∧ j < off + r.cells.length) := by omega
                simp only [b1, b2, if_true, if_false] at e ⊢; exact a1 j x e
              · by_cases b2 : j < off + r.cells.length
                · have b3 : off ≤ j ∧ j < off + r.cells.length := by omega
                  simp only [b1, b2, b3, if_true, if_false] at e ⊢; exact g4 _ x e
                · have b3 : ¬ (off ≤ j ∧ j < off + r.cells.length) := by omega
                  show _ = some (if off ≤ j ∧ j < off + r.cells.length then _ else _)
                  rw [if_neg b3, if_neg b3]; simp only [b1, b2, if_false] at e; exact a1 j x e
            · rw [splice_get hle] at e
              by_cases b1 : j < off
              · have b2 : ¬ (off ≤ j ∧ j < off + r.cells.length) := by omega
                simp only [b1, b2, if_true, if_false] at e ⊢; exact a2 j x e
              · by_cases b2 : j < off + r.cells.length
                · have b3 : off ≤ j ∧ j < off + r.cells.length := by omega
                  simp only [b1, b2, b3, if_true, if_false] at e ⊢; exact g5 _ x e
                · have b3 : ¬ (off ≤ j ∧ j < off + r.cells.length) := by omega
                  show Rep P h β H x (if off ≤ j ∧ j < off + r.cells.length then _ else _)
                  rw [if_neg b3]; simp only [b1, b2, if_false] at e; exact a2 j x e
          obtain ⟨cells', e1, e2, e3, e4⟩ := fill_ok hp s (ps := ps) (vs := vs) (z := splice z off r.cells) (cells := cells1) (by simpa using hl) (fun j x ex => by simpa using hv (j + 1) x (by simpa using ex))
            (by rw [qs, splice_length hle]; exact hs) (fun x hx => by rcases mem_splice hx with hx | hx; exact ho x hx; exact g2 x hx) hc1 e
          refine ⟨cells', ?_, e2, e3, e4⟩
          simp only [Instr.fill, hp _ _ hpl]
          have g1' : v.cells.size = r.cells.length := g1
          have c1' : r.cells.length = n := c1
          rw [if_neg (by simp only [ne_eq, Bool.or_eq_true, decide_eq_true_eq]; omega)]
          exact e1
        · cases e

theorem run_mapM_list {α γ : Type} (f : α → Sem γ) (g : α → γ) : ∀ (l : List α), (∀ x ∈ l, (f x).run P w = .ok (g x) w) → (l.mapM f).run P w = .ok (l.map g) w
  | [], _ => rfl
  | x :: l, hx => by
    rw [List.mapM_cons, Sem.run_bind, hx x (by simp)]
    simp [run_mapM_list f g l (fun y hy => hx y (by simp [hy]))]

theorem run_fields (fs : Array Field) (ha : (fs.all fun f => (P.info? f.type).isSome) = true) :
    (fs.mapM (fun f : Field => (do pure (f.offset, ← Go.sizeOf f.type) : Sem (Nat × Nat)))).run P w = .ok (fs.map fun f => (f.offset, P.cellsOf f.type)) w := by
  have h1 := run_mapM_list (P := P) (w := w) (fun f : Field => (do pure (f.offset, ← Go.sizeOf f.type) : Sem (Nat × Nat))) (fun f => (f.offset, P.cellsOf f.type)) fs.toList (fun f hf => by
    have := (Array.all_eq_true'.1 ha) f (Array.mem_toList_iff.1 hf)
    cases hi : P.info? f.type with
    | none => simp [hi] at this
    | some i => simp [Go.sizeOf, typeInfo, hi, Program.cellsOf])
  rw [Array.mapM_eq_mapM_toList, Sem.run_map, h1]
  simp only [Result.andThen_ok]
  rw [← List.map_toArray, Array.toArray_toList]

theorem evP_ok (F : Fits P h β H σ a) : ∀ {l : List (Nat × Operand)} {rs : List (Nat × AV)}, evP σ l = some rs → (l.map fun x => (x.1, a.eval x.2)).length = rs.length ∧
    ∀ (j : Nat) x, rs[j]? = some x → ∃ v, (l.map fun x => (x.1, a.eval x.2))[j]? = some (x.1, v) ∧ Rep P h β H x.2 v
  | [], rs, e => by cases e; simp
  | (i, x) :: l, rs, e => by
    unfold evP at e
    split at e <;> cases e
    rename_i r rs h1 h2
    obtain ⟨i1, i2⟩ := evP_ok F h2
    refine ⟨by simpa using i1, fun j x e => ?_⟩
    cases j with
    | zero => simp at e; subst e; exact ⟨_, rfl, F.ev h1⟩
    | succ j => simp only [List.getElem?_cons_succ] at e; simpa using i2 j x e

theorem zeroA_spec {t : TypeId} {z : AV} (hz : zeroA P t = some z) : ∃ i zv, P.info? t = some i ∧ i.zero = some zv ∧ toAV zv = some z := by
  unfold zeroA at hz
  cases h1 : P.info? t with
  | none => simp [h1] at hz
  | some i =>
    cases h2 : i.zero with
    | none => simp [h1, h2] at hz
    | some zv => simp [h1, h2] at hz; exact ⟨i, zv, rfl, h2, hz⟩

theorem opBuild_sound (s : SR P E h β H w) {t : TypeId} {ps : List (Nat × AV)} {vs : List (Nat × Value)} (hl : vs.length = ps.length) (hv : ∀ (j : Nat) x, ps[j]? = some x → ∃ v, vs[j]? = some (x.1, v) ∧ Rep P h β H x.2 v)
    {k : AV → Prop} (hk : opBuild P t ps k) : Yields P E h β H (Instr.build t vs.toArray) w (fun r H' => H' = H ∧ k r) := by
  obtain ⟨ha, hk⟩ := hk
  obtain ⟨z, h1, hk⟩ := bnd_elim hk
  split at hk
  case h_2 => exact hk.elim
  rename_i zc
  obtain ⟨cs, h2, hk⟩ := bnd_elim hk
  obtain ⟨i, zv, h3, h4, h5⟩ := zeroA_spec h1
  have hzr := toAV_rep (P := P) (h := h) (β := β) (H := H) h5
  have htup : (AV.agg zc).isTup = false := rfl
  obtain ⟨g1, g2, g3, us, g4, g5⟩ := cells_of s hzr htup
  have hz : (zeroValue t).run P w = .ok zv w := by simp [zeroValue, typeInfo, h3, h4]
  unfold allK at ha
  split at ha
  · rename_i fs hu
    obtain ⟨cells', e1, e2, e3, us', e4, e5⟩ := fill_ok (place := placeK P t) (place' := fun i => (fs.map fun f => (f.offset, P.cellsOf f.type))[i]?) (fun i x e => by
      unfold placeK at e; rw [hu] at e
      cases hf : fldK P t i with
      | none => simp [hf] at e
      | some y =>
        obtain ⟨fs', fd, i', d, q1, q2, q3, q4, rfl⟩ := fldK_spec hf
        rw [hu] at q1; cases q1
        simp [hf] at e; subst e
        simp [q2, Program.cellsOf, q3]) s hl hv (by simpa using g1) g2 ⟨us, g4, g5⟩ h2
    refine Yields.pure s (v := .agg cells') ?_ (.agg us' e2 e3 e4 e5) ⟨rfl, hk⟩
    have e1' : Instr.fill (fun x => (fs.map fun f => (f.offset, P.cellsOf f.type))[x]?) zv.cells vs = some cells' := e1
    unfold Instr.build
    simp only [Sem.run_bind, hz, Result.andThen_ok, run_underlying hu, run_fields fs ha]
    rw [e1']; rfl
  · rename_i n el hu
    have : (arK P t).isSome = true ∨ ps = [] := by
      cases ps with
      | nil => exact .inr rfl
      | cons x l =>
        left
        cases har : arK P t with
        | some y => rfl
        | none => simp [fillA, placeK, hu, har] at h2
    obtain ⟨cells', e1, e2, e3, us', e4, e5⟩ := fill_ok (place := placeK P t) (place' := fun i => some (i * P.cellsOf el, P.cellsOf el)) (fun i x e => by
      unfold placeK at e; rw [hu] at e
      cases hf : arK P t with
      | none => simp [hf] at e
      | some y =>
        obtain ⟨n', el', i', d, q1, q2, q3, rfl⟩ := arK_spec hf
        rw [hu] at q1; cases q1
        simp [hf] at e; subst e
        simp [Program.cellsOf, q2]) s hl hv (by simpa using g1) g2 ⟨us, g4, g5⟩ h2
    refine Yields.pure s (v := .agg cells') ?_ (.agg us' e2 e3 e4 e5) ⟨rfl, hk⟩
    cases hi : P.info? el with
    | none => simp [hi] at ha
    | some ie => simp [Instr.build, hz, run_underlying hu, Go.sizeOf, typeInfo, hi, show ie.size = P.cellsOf el from by simp [Program.cellsOf, hi], e1]
  · cases ha
end
end GA
