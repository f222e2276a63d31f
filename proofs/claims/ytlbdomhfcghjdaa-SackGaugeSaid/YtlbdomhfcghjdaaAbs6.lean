/- Addresses of fields and elements, parts, structs and slices that are built. -/
import Derived.Test.YtlbdomhfcghjdaaAbs5
import Derived.Laws.MakeOwn
namespace GA
open Go Go.RowKit

/-- Of a struct's field: where it begins, is it a struct or an array, its cells. -/
def fldK (P : Program) (s : TypeId) (f : Nat) : Option (Nat × Bool × Nat) :=
  match P.underlying s with
  | some (.struct fs) => match fs[f]? with | some fd => (tyK P fd.type).map fun x => (fd.offset, x.1, x.2) | none => none
  | _ => none
/-- The cells of a slice type's elements. -/
def slK (P : Program) (t : TypeId) : Option Nat :=
  match P.underlying t with
  | some (.slice e) => (tyK P e).map (·.2)
  | _ => none
/-- An array type's length, and its elements' form and cells. -/
def arK (P : Program) (t : TypeId) : Option (Nat × Bool × Nat) :=
  match P.underlying t with
  | some (.array n e) => (tyK P e).map fun x => (n, x.1, x.2)
  | _ => none

def addP (p : AV) (off : Nat) : Option AV :=
  match p with
  | .pim cs => some (.pim (cs.drop off))
  | .ptr i o => some (.ptr i (o + off))
  | .gp i n e o => some (.gp i n e (o + off))
  | _ => none

def nth (els : List AV) (i : Int) : AV := els.getD i.toNat default

def opFieldAddr (P : Program) (s : TypeId) (p : AV) (f : Nat) (k : AV → Prop) : Prop :=
  bnd (fldK P s f) fun x => x.2.2 ≠ 0 ∧ bnd (addP p x.1) k
def partA (cs : List AV) (ag : Bool) (off n : Nat) (k : AV → Prop) : Prop :=
  if ag = true then off + n ≤ cs.length ∧ k (.agg ((cs.drop off).take n)) else bnd cs[off]? k
def opField (P : Program) (s : TypeId) (x : AV) (f : Nat) (k : AV → Prop) : Prop :=
  match x with
  | .agg cs => bnd (fldK P s f) fun y => partA cs y.2.1 y.1 y.2.2 k
  | _ => False
def opIndex (P : Program) (t : TypeId) (x i : AV) (k : AV → Prop) : Prop :=
  match x, i with
  | .agg cs, .int _ n => bnd (arK P t) fun y => 0 ≤ n ∧ n < y.1 ∧ partA cs y.2.1 (n.toNat * y.2.2) y.2.2 k
  | _, _ => False
def opIndexAddr (P : Program) (t : TypeId) (H : List Blk) (x i : AV) (k : AV → Prop) : Prop :=
  match i with
  | .int _ n => match x with
    | .sl _ els => bnd (slK P t) fun w => 0 ≤ n ∧ n < els.length ∧ (nth els n).cells.length = w ∧ k (.pim (nth els n).cells)
    | .gr b m => bnd (slK P t) fun w => match H[b]? with | some (.grow te _ els) => els.length = m ∧ w = sz P te ∧ 0 ≤ n ∧ n < m ∧ k (.gp b m n.toNat 0) | _ => False
    | p => bnd (arK P t) fun y => 0 ≤ n ∧ n < y.1 ∧ bnd (addP p (n.toNat * y.2.2)) k
  | _ => False

section
variable {P : Program} {E : Env} {h : Nat → Option Obj} {β : Nat → Value} {H : List Blk} {w : World}

theorem add_eq (b o n : Nat) : (⟨b, o, none⟩ : Addr).add n = ⟨b, o + n, none⟩ := addr_add b o n

/-- A pointer that can be moved on. -/
theorem addP_ok {p r : AV} {v : Value} (hp : Rep P h β H p v) {off : Nat} (e : addP p off = some r) : ∃ b o, v = .pointer (some ⟨b, o, none⟩) ∧ Rep P h β H r (.pointer (some ⟨b, o + off, none⟩)) := by
  cases hp with
  | @pim b o c t fz cs us hone hb hc hr =>
    cases e
    exact ⟨b, o, rfl, .pim (fun j => us (off + j)) (fun x hx => hone x (List.mem_of_mem_drop hx)) hb (fun j x ex => by rw [List.getElem?_drop] at ex; rw [Nat.add_assoc]; exact hc _ _ ex) (fun j x ex => by rw [List.getElem?_drop] at ex; exact hr _ _ ex)⟩
  | @ptr i o b hi hb => cases e; exact ⟨b, o, rfl, .ptr hi hb⟩
  | @gp i n e' o b q hi hv =>
    cases e
    exact ⟨b, q, rfl, .gp hi fun t nl els e => ⟨(hv t nl els e).1, fun hl => ⟨by have := ((hv t nl els e).2 hl).1; omega, ((hv t nl els e).2 hl).2⟩⟩⟩
  | _ => cases e

theorem fldK_spec {s : TypeId} {f : Nat} {x : Nat × Bool × Nat} (e : fldK P s f = some x) : ∃ fs fd i d, P.underlying s = some (.struct fs) ∧ fs[f]? = some fd ∧ P.info? fd.type = some i ∧ P.underlying fd.type = some d ∧ x = (fd.offset, isAggD d, i.size) := by
  unfold fldK at e
  split at e
  · rename_i fs h1
    split at e
    · rename_i fd h2
      cases h3 : tyK P fd.type with
      | none => simp [h3] at e
      | some y =>
        obtain ⟨i, d, h4, h5, rfl⟩ := tyK_spec h3
        simp [h3] at e
        exact ⟨fs, fd, i, d, h1, h2, h4, h5, e.symm⟩
    · cases e
  · cases e

theorem slK_spec {t : TypeId} {n : Nat} (e : slK P t = some n) : ∃ el i d, P.underlying t = some (.slice el) ∧ P.info? el = some i ∧ P.underlying el = some d ∧ n = i.size := by
  unfold slK at e
  split at e
  · rename_i el h1
    cases h3 : tyK P el with
    | none => simp [h3] at e
    | some y =>
      obtain ⟨i, d, h4, h5, rfl⟩ := tyK_spec h3
      simp [h3] at e
      exact ⟨el, i, d, h1, h4, h5, e.symm⟩
  · cases e

theorem arK_spec {t : TypeId} {x : Nat × Bool × Nat} (e : arK P t = some x) : ∃ n el i d, P.underlying t = some (.array n el) ∧ P.info? el = some i ∧ P.underlying el = some d ∧ x = (n, isAggD d, i.size) := by
  unfold arK at e
  split at e
  · rename_i n el h1
    cases h3 : tyK P el with
    | none => simp [h3] at e
    | some y =>
      obtain ⟨i, d, h4, h5, rfl⟩ := tyK_spec h3
      simp [h3] at e
      exact ⟨n, el, i, d, h1, h4, h5, e.symm⟩
  · cases e

theorem run_isAgg_of {t : TypeId} {d : TypeDesc} (hd : P.underlying t = some d) : (isAgg t).run P w = .ok (isAggD d) w := by
  unfold isAgg; rw [Sem.run_bind, run_underlying hd]; cases d <;> rfl

theorem opFieldAddr_sound (s : SR P E h β H w) {t : TypeId} {p : AV} {v : Value} (hp : Rep P h β H p v) {f : Nat} {k : AV → Prop} (hk : opFieldAddr P t p f k) :
    Yields P E h β H (Instr.fieldAt t v f) w (fun r H' => H' = H ∧ k r) := by
  obtain ⟨x, h1, hne, hk⟩ := bnd_elim hk
  obtain ⟨r, h2, hk'⟩ := bnd_elim hk
  obtain ⟨fs, fd, i, d, h3, h4, h5, h6, rfl⟩ := fldK_spec h1
  obtain ⟨b, o, rfl, hr⟩ := addP_ok hp h2
  refine Yields.pure s ?_ hr ⟨rfl, hk'⟩
  have hz : i.size ≠ 0 := hne
  simp [Instr.fieldAt, run_underlying h3, h4, Instr.sureAddr, fieldPlace, Go.sizeOf, typeInfo, h5, hz, add_eq]

theorem agg_part {cs : List AV} {vs : Array Value} (hr : Rep P h β H (.agg cs) (.agg vs)) {t : TypeId} {i : TypeInfo} {d : TypeDesc} (hi : P.info? t = some i) (hd : P.underlying t = some d) {off : Nat} {k : AV → Prop}
    (hk : partA cs (isAggD d) off i.size k) : ∃ v r, (part t vs off).run P w = .ok v w ∧ Rep P h β H r v ∧ k r := by
  cases hr with
  | agg us hs hone hc hr =>
    unfold partA at hk
    by_cases hg : isAggD d = true
    · simp only [hg, if_true] at hk
      refine ⟨.agg (vs.extract off (off + i.size)), .agg ((cs.drop off).take i.size), ?_, .agg (fun j => us (off + j)) ?_ (fun x hx => hone x (List.mem_of_mem_drop (List.mem_of_mem_take hx))) (fun j x e => ?_) (fun j x e => ?_), hk.2⟩
      · unfold part; rw [Sem.run_bind, run_isAgg_of hd]; simp [hg, Go.sizeOf, typeInfo, hi]
      · simp; omega
      · rw [List.getElem?_take] at e
        split at e
        · rw [List.getElem?_drop] at e
          rw [Array.getElem?_extract, if_pos (by rw [hs]; omega)]
          exact hc _ _ e
        · cases e
      · rw [List.getElem?_take] at e
        split at e
        · rw [List.getElem?_drop] at e; exact hr _ _ e
        · cases e
    · simp only [hg, if_false, Bool.false_eq_true] at hk
      obtain ⟨r, h1, hk⟩ := bnd_elim hk
      refine ⟨us off, r, ?_, hr _ _ h1, hk⟩
      unfold part; rw [Sem.run_bind, run_isAgg_of hd]; simp [hg, hc _ _ h1]

theorem opField_sound (s : SR P E h β H w) {t : TypeId} {x : AV} {v : Value} (hx : Rep P h β H x v) {f : Nat} {k : AV → Prop} (hk : opField P t x f k) :
    Yields P E h β H (Instr.field t v f) w (fun r H' => H' = H ∧ k r) := by
  unfold opField at hk
  split at hk
  · obtain ⟨y, h1, hk⟩ := bnd_elim hk
    obtain ⟨fs, fd, i, d, h3, h4, h5, h6, rfl⟩ := fldK_spec h1
    have hv : ∃ vs, v = .agg vs := by cases hx; exact ⟨_, rfl⟩
    obtain ⟨vs, rfl⟩ := hv
    obtain ⟨u, r, e1, e2, e3⟩ := agg_part (w := w) hx h5 h6 hk
    refine Yields.pure s ?_ e2 ⟨rfl, e3⟩
    simp [Instr.field, run_underlying h3, h4, asAgg, e1]
  · exact hk.elim

theorem opIndex_sound (s : SR P E h β H w) {t : TypeId} {x i : AV} {v u : Value} (hx : Rep P h β H x v) (hi : Rep P h β H i u) {k : AV → Prop} (hk : opIndex P t x i k) :
    Yields P E h β H (Instr.index t v u) w (fun r H' => H' = H ∧ k r) := by
  unfold opIndex at hk
  split at hk
  · obtain ⟨y, h1, h2, h3, hk⟩ := bnd_elim hk
    obtain ⟨n, el, i, d, h4, h5, h6, rfl⟩ := arK_spec h1
    cases rep_int hi
    have hv : ∃ vs, v = .agg vs := by cases hx; exact ⟨_, rfl⟩
    obtain ⟨vs, rfl⟩ := hv
    obtain ⟨u, r, e1, e2, e3⟩ := agg_part (w := w) hx h5 h6 hk
    refine Yields.pure s ?_ e2 ⟨rfl, e3⟩
    have h3' : _ < (n : Int) := h3
    simp [Instr.index, asIntOf, run_underlying h4, h2, h3', Go.sizeOf, typeInfo, h5, e1]
  · exact hk.elim

theorem opIndexAddr_sound (s : SR P E h β H w) {t : TypeId} {x i : AV} {v u : Value} (hx : Rep P h β H x v) (hi : Rep P h β H i u) {k : AV → Prop} (hk : opIndexAddr P t H x i k) :
    Yields P E h β H (Instr.indexAt t v u) w (fun r H' => H' = H ∧ k r) := by
  unfold opIndexAddr at hk
  split at hk
  · rename_i n
    cases rep_int hi
    split at hk
    · rename_i nl els
      obtain ⟨wd, h1, h2, h3, h4, hk⟩ := bnd_elim hk
      obtain ⟨el, ie, d, h5, h6, h7, rfl⟩ := slK_spec h1
      cases hx with
      | slnil => simp at h3; omega
      | slemp => simp at h3; omega
      | @sl b off cap c tt fz els w' nn us hn hne hb hw hw0 hone hcap hc hr =>
        subst hn
        have hlt : n.toNat < els.length := by omega
        have hget : els[n.toNat]? = some (nth els n) := by unfold nth; rw [List.getD_eq_getElem?_getD, List.getElem?_eq_getElem hlt]; simp
        have hmem : nth els n ∈ els := List.mem_of_getElem? hget
        have hww : w' = ie.size := (hw _ hmem).symm.trans h4
        have hf := fun j x (ex : (nth els n).cells[j]? = some x) => flat_get hw n.toNat j _ x hget ex
        refine Yields.pure s (v := .pointer (some ⟨b, off + n.toNat * ie.size, none⟩)) ?_ (.pim (fun j => us (n.toNat * w' + j)) (cells_one_of hmem hone) hb (fun j x ex => ?_) (fun j x ex => hr _ _ (hf j x ex))) ⟨rfl, hk⟩
        · simp [Instr.indexAt, asIntOf, run_underlying h5, h2, h3, Go.sizeOf, typeInfo, h6, add_eq]
        · rw [← hww, Nat.add_assoc]; exact hc _ _ (hf j x ex)
    · rename_i b m
      obtain ⟨wd, h1, hk⟩ := bnd_elim hk
      obtain ⟨el, ie, d, h5, h6, h7, rfl⟩ := slK_spec h1
      split at hk
      · rename_i te nl els e1
        obtain ⟨h8, h9, h10, h11, hk⟩ := hk
        cases hx with
        | gr ho hb hv =>
          obtain ⟨_, h12⟩ := hv _ _ _ e1
          have h13 := h12 h8
          rcases s.blk b _ e1 with ⟨_, h14, _⟩ | ⟨_, h14, _⟩ | ⟨_, bb, cap, c, h15, h16, h17, h18, h19, h20, h21, h22, h23, h24⟩
          · subst h14; simp at h8; omega
          · subst h14; simp at h8; omega
          · rw [h15] at h13
            subst h13
            refine Yields.pure s (v := .pointer (some ⟨bb, 0 + n.toNat * ie.size, none⟩)) ?_ (.gp hb fun t' nl' els' e' => ?_) ⟨rfl, hk⟩
            · have : n < (els.length : Int) := by omega
              simp [Instr.indexAt, asIntOf, run_underlying h5, h10, this, Go.sizeOf, typeInfo, h6, add_eq]
            · rw [e1] at e'; cases e'
              exact ⟨by omega, fun _ => ⟨by rw [h9]; omega, _, _, h15⟩⟩
      · exact hk.elim
    · rename_i p hp1 hp2
      obtain ⟨y, h1, h2, h3, hk⟩ := bnd_elim hk
      obtain ⟨r, h4, hk'⟩ := bnd_elim hk
      obtain ⟨len, el, ie, d, h5, h6, h7, rfl⟩ := arK_spec h1
      obtain ⟨b, o, rfl, hr⟩ := addP_ok hx h4
      refine Yields.pure s ?_ hr ⟨rfl, hk'⟩
      have h3' : n < (len : Int) := h3
      simp [Instr.indexAt, asIntOf, run_underlying h5, Instr.sureAddr, h2, h3', Go.sizeOf, typeInfo, h6, add_eq]
  · exact hk.elim
end
end GA
