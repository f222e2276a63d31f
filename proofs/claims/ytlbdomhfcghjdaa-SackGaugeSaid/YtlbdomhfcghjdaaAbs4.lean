/- Loads, stores, new variables, addresses. -/
import Derived.Test.YtlbdomhfcghjdaaAbs3
namespace GA
open Go Go.RowKit

def isAggD : TypeDesc → Bool
  | .struct _ | .array _ _ => true
  | _ => false
/-- Of a type: is it a struct or an array; how many cells. -/
def tyK (P : Program) (t : TypeId) : Option (Bool × Nat) :=
  match P.info? t, P.underlying t with
  | some i, some d => some (isAggD d, i.size)
  | _, _ => none

/-- The cells from a pointer on. -/
def atP (H : List Blk) : AV → Option (List AV)
  | .pim cs => some cs
  | .ptr i o => match H[i]? with | some (.cells cs) => some (cs.drop o) | _ => none
  | .gp i n e o => match H[i]? with | some (.grow _ _ els) => if n = els.length ∧ e < n then some ((els.getD e default).cells.drop o) else none | _ => none
  | _ => none

def opLoad (P : Program) (t : TypeId) (H : List Blk) (p : AV) (k : AV → Prop) : Prop :=
  bnd (tyK P t) fun ti => bnd (atP H p) fun cs => if ti.1 = true then ti.2 ≤ cs.length ∧ k (.agg (cs.take ti.2)) else bnd cs.head? k

def splice (c : List AV) (o : Nat) (cs : List AV) : List AV := c.take o ++ cs ++ c.drop (o + cs.length)

def setAt (P : Program) (H : List Blk) (p v : AV) : Option (List Blk) :=
  match p with
  | .ptr i o => match H[i]? with | some (.cells c) => if o + v.cells.length ≤ c.length then some (H.set i (.cells (splice c o v.cells))) else none | _ => none
  | .gp i n e o => match H[i]? with
    | some (.grow t nl els) => if n = els.length ∧ e < n then
        if o = 0 ∧ v.cells.length = sz P t then some (H.set i (.grow t nl (els.set e v)))
        else if o + v.cells.length ≤ sz P t ∧ (els.getD e default).one = false then some (H.set i (.grow t nl (els.set e (.agg (splice (els.getD e default).cells o v.cells))))) else none
      else none
    | _ => none
  | _ => none

def AV.isTup : AV → Bool
  | .tup _ => true
  | _ => false

def opStore (P : Program) (t : TypeId) (H : List Blk) (p v : AV) (k : AV → List Blk → Prop) : Prop :=
  bnd (tyK P t) fun ti => (v.cells.length = ti.2 ∧ v.isTup = false) ∧ bnd (setAt P H p v) fun H' => k (.tup []) H'

def opBoxI (v : AV) (H : List Blk) (k : AV → List Blk → Prop) : Prop := v.isTup = false ∧ k (.pim v.cells) H
def opBoxO (v : AV) (H : List Blk) (k : AV → List Blk → Prop) : Prop := v.isTup = false ∧ k (.ptr H.length 0) (H ++ [.cells v.cells])
def zeroA (P : Program) (t : TypeId) : Option AV := ((P.info? t).bind (·.zero)).bind toAV

section
variable {P : Program} {E : Env} {h : Nat → Option Obj} {β : Nat → Value} {H : List Blk} {w : World}

theorem tyK_spec {t : TypeId} {ti : Bool × Nat} (e : tyK P t = some ti) : ∃ i d, P.info? t = some i ∧ P.underlying t = some d ∧ ti = (isAggD d, i.size) := by
  unfold tyK at e; split at e <;> cases e; rename_i i d h1 h2; exact ⟨i, d, h1, h2, rfl⟩

/-- Cells that can be read at an address. -/
structure AtOk (P : Program) (h : Nat → Option Obj) (β : Nat → Value) (H : List Blk) (w : World) (v : Value) (cs : List AV) (b off : Nat) : Prop where
  eq : v = .pointer (some ⟨b, off, none⟩)
  one : ∀ x ∈ cs, x.one = true
  cell : ∃ us : Nat → Value, (∀ (j : Nat) x, cs[j]? = some x → w.cell? ⟨b, off + j, none⟩ = some (us j)) ∧ ∀ (j : Nat) x, cs[j]? = some x → Rep P h β H x (us j)

theorem cell?_of {w : World} {b o : Nat} {c : Array Value} {t : TypeId} {fz : Nat × Nat} (hb : w.heap[b]? = some (.cells c t fz)) : w.cell? ⟨b, o, none⟩ = c[o]? := by simp [World.cell?, hb]

theorem cells_one_of {e : AV} {els : List AV} (he : e ∈ els) (h1 : ∀ x ∈ flat els, x.one = true) : ∀ x ∈ e.cells, x.one = true :=
  fun x hx => h1 x (List.mem_flatMap.2 ⟨e, he, hx⟩)

theorem flat_get {w : Nat} : ∀ {els : List AV}, (∀ e ∈ els, e.cells.length = w) → ∀ (i j : Nat) e x, els[i]? = some e → e.cells[j]? = some x → (flat els)[i * w + j]? = some x
  | [], _, i, j, e, x, h1, _ => by simp at h1
  | a :: l, hw, i, j, e, x, h1, h2 => by
    have ha : a.cells.length = w := hw a (by simp)
    simp only [flat, List.flatMap_cons]
    cases i with
    | zero =>
      simp at h1; subst h1
      rw [List.getElem?_append_left (by have := (List.getElem?_eq_some_iff.1 h2).1; omega)]; simpa using h2
    | succ i =>
      have hs : (i + 1) * w = i * w + w := Nat.succ_mul i w
      rw [List.getElem?_append_right (by omega)]
      have := flat_get (w := w) (els := l) (fun e he => hw e (by simp [he])) i j e x (by simpa using h1) h2
      rw [ha, show (i + 1) * w + j - w = i * w + j by omega]
      exact this

theorem atP_ok (s : SR P E h β H w) {p : AV} {v : Value} {cs : List AV} (hp : Rep P h β H p v) (e : atP H p = some cs) : ∃ b off, AtOk P h β H w v cs b off := by
  cases hp with
  | @pim b off c t fz cs' us hone hb hc hr =>
    cases e
    exact ⟨b, off, rfl, hone, us, fun j x ex => by rw [cell?_of (s.imm _ _ hb)]; exact hc j x ex, hr⟩
  | @ptr i o b hi hb =>
    simp only [atP] at e
    split at e <;> cases e
    rename_i cs0 h1
    obtain ⟨b', c, t, h2, h3, h4, h5, us, h6, h7⟩ := s.blk i _ h1
    have h8 := hb cs0 h1
    rw [h2] at h8; cases h8
    refine ⟨b, o, rfl, fun x hx => h5 x (List.mem_of_mem_drop hx), fun j => us (o + j), fun j x ex => ?_, fun j x ex => ?_⟩
    · rw [List.getElem?_drop] at ex
      rw [cell?_of h3]; exact h6 _ _ ex
    · rw [List.getElem?_drop] at ex
      exact h7 _ _ ex
  | @gp i n e' o b q hi hv =>
    simp only [atP] at e
    split at e
    · rename_i t nl els h1
      split at e <;> cases e
      rename_i h2
      obtain ⟨h3, h4⟩ := hv _ _ _ h1
      obtain ⟨h6, len, cap, h5⟩ := h4 h2.1.symm
      subst h6
      rcases s.blk i _ h1 with ⟨_, _, h7⟩ | ⟨_, _, a, h7⟩ | ⟨_, b', cap', c, h7, h8, h9, h10, h11, h12, h13, h14, h15, us, h16, h17⟩
      · rw [h7] at h5; cases h5
      · have : els = [] := by assumption
        subst this; simp at h2; omega
      · rw [h7] at h5; cases h5
        have hlt : e' < els.length := by omega
        have hmem : els.getD e' default ∈ els := by rw [List.getD_eq_getElem?_getD, List.getElem?_eq_getElem hlt]; simp
        have hget : els[e']? = some (els.getD e' default) := by rw [List.getD_eq_getElem?_getD, List.getElem?_eq_getElem hlt]; simp
        have hf := fun j x (ex : ((els.getD e' default).cells.drop o)[j]? = some x) =>
          flat_get h14 e' (o + j) _ x hget (by rw [List.getElem?_drop] at ex; exact ex)
        refine ⟨b, e' * sz P t + o, rfl, fun x hx => cells_one_of hmem h15 x (List.mem_of_mem_drop hx), fun j => us (e' * sz P t + (o + j)), fun j x ex => ?_, fun j x ex => ?_⟩
        · rw [cell?_of h9, Nat.add_assoc]; exact h16 _ _ (hf j x ex)
        · exact h17 _ _ (hf j x ex)
    · cases e
  | _ => cases e

theorem addr_add (b o j : Nat) : (⟨b, o, none⟩ : Addr).add j = ⟨b, o + j, none⟩ := by unfold Addr.add; split <;> simp_all

theorem opLoad_pure (s : SR P E h β H w) {t : TypeId} {p : AV} {v : Value} (hp : Rep P h β H p v) {k : AV → Prop} (hk : opLoad P t H p k) :
    ∃ ad u r, v = .pointer (some ad) ∧ (loadVar t ad).run P w = .ok u w ∧ Rep P h β H r u ∧ k r := by
  obtain ⟨ti, h1, hk⟩ := bnd_elim hk
  obtain ⟨cs, h2, hk⟩ := bnd_elim hk
  obtain ⟨i, d, h3, h4, rfl⟩ := tyK_spec h1
  obtain ⟨b, off, A⟩ := atP_ok s hp h2
  obtain ⟨us, hu1, hu2⟩ := A.cell
  refine ⟨⟨b, off, none⟩, ?_⟩
  by_cases hd : isAggD d = true
  · simp only [hd, if_true] at hk
    obtain ⟨hl, hk⟩ := hk
    have hlen : ((List.range i.size).map us).length = i.size := by simp
    have hcells : ∀ (j : Nat) u, ((List.range i.size).map us)[j]? = some u → w.cell? ((⟨b, off, none⟩ : Addr).add j) = some u := by
      intro j u hj
      rw [addr_add]
      have hjl : j < i.size := by have := (List.getElem?_eq_some_iff.1 hj).1; simpa using this
      simp [hjl] at hj
      subst hj
      exact hu1 j (cs[j]'(by omega)) (List.getElem?_eq_getElem (by omega))
    have hl2 := run_loadCells_list (P := P) w ⟨b, off, none⟩ _ hcells
    rw [hlen] at hl2
    refine ⟨.agg ((List.range i.size).map us).toArray, .agg (cs.take i.size), A.eq, ?_, ?_, hk⟩
    · have hag : (isAgg t).run P w = .ok true w := by
        unfold isAgg; rw [Sem.run_bind, run_underlying h4]; cases d <;> first | rfl | simp [isAggD] at hd
      simp [loadVar, hag, Go.sizeOf, typeInfo, h3, hl2]
    · refine .agg us (by simp; omega) (fun x hx => A.one x (List.mem_of_mem_take hx)) (fun j x ex => ?_) (fun j x ex => ?_)
      · have hjl : j < i.size := by have := (List.getElem?_eq_some_iff.1 ex).1; simp at this; omega
        simp [hjl]
      · rw [List.getElem?_take] at ex
        split at ex
        · exact hu2 j x ex
        · cases ex
  · simp only [hd, if_false, Bool.false_eq_true] at hk
    obtain ⟨x, h5, hk⟩ := bnd_elim hk
    have hx0 : cs[0]? = some x := by rw [← List.head?_eq_getElem?]; exact h5
    have h6 := hu1 0 x hx0
    refine ⟨us 0, x, A.eq, ?_, hu2 0 x hx0, hk⟩
    have hag : (isAgg t).run P w = .ok false w := by
      unfold isAgg; rw [Sem.run_bind, run_underlying h4]; cases d <;> first | rfl | (simp [isAggD] at hd)
    simp [loadVar, hag, show w.cell? ⟨b, off, none⟩ = some (us 0) from h6]

theorem opLoad_sound (s : SR P E h β H w) {t : TypeId} {p : AV} {v : Value} (hp : Rep P h β H p v) {k : AV → Prop} (hk : opLoad P t H p k) :
    Yields P E h β H (Instr.loadAt t v) w (fun r H' => H' = H ∧ k r) := by
  obtain ⟨ad, u, r, rfl, h1, h2, h3⟩ := opLoad_pure s hp hk
  refine Yields.pure s (v := u) (r := r) ?_ h2 ⟨rfl, h3⟩
  simp [Instr.loadAt, Instr.sureAddr, h1]

/-- The cells of a value. -/
theorem cells_of (s : SR P E h β H w) {r : AV} {v : Value} (hr : Rep P h β H r v) (ht : r.isTup = false) : v.cells.size = r.cells.length ∧ (∀ x ∈ r.cells, x.one = true) ∧ (∀ u ∈ v.cells.toList, u.oneCell' = true) ∧
    ∃ us : Nat → Value, (∀ (j : Nat) x, r.cells[j]? = some x → v.cells[j]? = some (us j)) ∧ ∀ (j : Nat) x, r.cells[j]? = some x → Rep P h β H x (us j) := by
  by_cases h1 : r.one = true
  · have hv := hr.one h1
    have hc : r.cells = [r] := by cases r <;> first | rfl | simp [AV.one] at h1
    have hvc : v.cells = #[v] := by cases v <;> first | rfl | simp [Value.oneCell'] at hv
    rw [hc, hvc]
    refine ⟨rfl, by simpa using h1, by simpa using hv, fun _ => v, fun j x e => ?_, fun j x e => ?_⟩
    · cases j <;> simp at e; simp
    · cases j <;> simp at e; subst e; exact hr
  · cases hr with
    | agg us hs hone hc hr' =>
      refine ⟨hs, hone, fun u hu => ?_, us, hc, hr'⟩
      obtain ⟨j, hj, he⟩ := List.getElem_of_mem hu
      rename_i cs vs
      have hj' : j < vs.size := by simpa [Value.cells] using hj
      have hx : cs[j]? = some (cs[j]'(by omega)) := List.getElem?_eq_getElem (by omega)
      have h2 := hc j _ hx
      have h3 : us j = u := by
        rw [Array.getElem?_eq_getElem hj'] at h2
        simp only [Option.some.injEq] at h2
        rw [← h2, ← he]; simp [Value.cells]
      rw [← h3]
      exact (hr' j _ hx).one (hone _ (List.getElem_mem _))
    | tup => simp [AV.isTup] at ht
    | _ => simp [AV.one] at h1

theorem run_newVar (t : TypeId) (v : Value) : (newVar t v).run P w = .ok ⟨w.heap.size, 0, none⟩ (w.alloc (.cells v.cells t)) := by
  simp [newVar, newRow]

theorem boxI_sound (s : SR P E h β H w) {t : TypeId} {r : AV} {v : Value} (hr : Rep P h β H r v) {k : AV → List Blk → Prop} (hk : opBoxI r H k) : Yields P E h β H (Instr.box t v) w k := by
  obtain ⟨ht, hk⟩ := hk
  obtain ⟨h1, h2, h3, us, h4, h5⟩ := cells_of s hr ht
  obtain ⟨s', X⟩ := s.alloc_imm (.cells v.cells t)
  refine ⟨_, _, _, H, _, β, ?_, hk, X, s', .pim (b := w.heap.size) (off := 0) (c := v.cells) (t := t) (fz := (0, 0)) us h2 (by simp) (fun j x e => by rw [Nat.zero_add]; exact h4 j x e) (fun j x e => X.rep (h5 j x e))⟩
  simp [Instr.box, run_newVar]

theorem boxO_sound (s : SR P E h β H w) {t : TypeId} {r : AV} {v : Value} (hr : Rep P h β H r v) {k : AV → List Blk → Prop} (hk : opBoxO r H k) : Yields P E h β H (Instr.box t v) w k := by
  obtain ⟨ht, hk⟩ := hk
  obtain ⟨h1, h2, h3, us, h4, h5⟩ := cells_of s hr ht
  obtain ⟨s', X⟩ := s.push (w' := w.alloc (.cells v.cells t)) s.env (fun k hk => Below.heap_alloc _ _ _ hk) (.pointer (some ⟨w.heap.size, 0, none⟩)) (.cells r.cells) (by simp [anchor])
    (fun X => ⟨w.heap.size, v.cells, t, by simp [upb], heap_alloc_new w _, h1, h2, us, h4, fun j x e => X.rep (h5 j x e)⟩)
  refine ⟨_, _, _, _, h, _, ?_, hk, X, s', .ptr (b := w.heap.size) (.push rfl) (fun _ _ => by simp [upb])⟩
  simp [Instr.box, run_newVar]

theorem alloc_eq_box (t : TypeId) {z : Value} (hz : (P.info? t).bind (·.zero) = some z) : (Instr.alloc t true (.tuple #[])).run P w = (Instr.box t z).run P w := by
  cases hi : P.info? t with
  | none => simp [hi] at hz
  | some i =>
    simp [hi] at hz
    simp [Instr.alloc, Instr.box, zeroValue, typeInfo, hi, hz, run_newVar]

theorem alloc_sound (s : SR P E h β H w) {t : TypeId} {k : AV → List Blk → Prop} {z : AV} (hz : zeroA P t = some z) (hk : opBoxO z H k) : Yields P E h β H (Instr.alloc t true (.tuple #[])) w k := by
  unfold zeroA at hz
  cases h1 : (P.info? t).bind (·.zero) with
  | none => simp [h1] at hz
  | some zv =>
    simp [h1] at hz
    obtain ⟨v, w', r, H', h', β', e, rest⟩ := boxO_sound s (t := t) (toAV_rep (P := P) (h := h) (β := β) (H := H) hz) hk
    exact ⟨v, w', r, H', h', β', by rw [alloc_eq_box t h1]; exact e, rest⟩
end
end GA
