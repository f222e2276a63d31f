/- The state of a run: what is known of the world's memory, and that it is kept when memory changes. -/
import Derived.Test.YtlbdomhfcghjdaaAbs1
namespace GA
open Go Go.RowKit

def anchor : Value → Option Nat
  | .pointer (some a) => some a.block
  | .slice (some a) _ cap => if cap = 0 then none else some a.block
  | .map (some r) => some r
  | _ => none

structure Env0 where
  os : Os
  tape : Nat → Question → Nat
  out : Array (Nat × ByteArray)
/-- What stays: the outside, and the memory that belongs to others. -/
structure Env where
  b : Env0
  fr : Nat → Option Obj
  en : Nat → Option Obj
def World.env (w : World) : Env0 := ⟨w.os, w.tape, w.output⟩

def CellsOk (P : Program) (h : Nat → Option Obj) (β : Nat → Value) (H : List Blk) (cs : List AV) (c : Array Value) : Prop :=
  ∃ us : Nat → Value, (∀ (j : Nat) x, cs[j]? = some x → c[j]? = some (us j)) ∧ (∀ (j : Nat) x, cs[j]? = some x → Rep P h β H x (us j))

def EntsOk (P : Program) (h : Nat → Option Obj) (β : Nat → Value) (H : List Blk) (es : List (Int × AV)) (ents : Array Go.MapEntry) : Prop :=
  ents.size = es.length ∧ ∃ us : Nat → Value, ∀ (j : Nat) k x, es[j]? = some (k, x) → Rep P h β H x (us j) ∧ ∃ born, ents[j]? = some { key := .int .i64 k, val := us j, born := born }

def BlkOk (P : Program) (h : Nat → Option Obj) (β : Nat → Value) (H : List Blk) (heap : Array Obj) (i : Nat) : Blk → Prop
  | .dead => True
  | .free => True
  | .cells cs => ∃ b c t, β i = .pointer (some ⟨b, 0, none⟩) ∧ heap[b]? = some (.cells c t (0, 0)) ∧ c.size = cs.length ∧ (∀ x ∈ cs, x.one = true) ∧ CellsOk P h β H cs c
  | .grow t nl els => (nl = true ∧ els = [] ∧ β i = .slice none 0 0) ∨ (nl = false ∧ els = [] ∧ ∃ a, β i = .slice (some a) 0 0) ∨
      (nl = false ∧ ∃ b cap c, β i = .slice (some ⟨b, 0, none⟩) els.length cap ∧ 0 < cap ∧ heap[b]? = some (.cells c t (0, 0)) ∧ els.length ≤ cap ∧ cap ≤ maxLen ∧ c.size = cap * sz P t ∧ 0 < sz P t ∧
        (∀ e ∈ els, e.cells.length = sz P t) ∧ (∀ x ∈ flat els, x.one = true) ∧ CellsOk P h β H (flat els) c)
  | .raw o => ∃ b, β i = .pointer (some ⟨b, 0, none⟩) ∧ heap[b]? = some o
  | .lp st pend f tm ps x y n => ∃ b dfr tmps, β i = .pointer (some ⟨b, 0, none⟩) ∧ heap[b]? = some (.loop { state := st, pending := pend, fn := f, tmps := tmps, params := ps, assign := x, body := y, defers := dfr }) ∧ tmps.size = n ∧
      ∀ (t : Nat) r, (t, r) ∈ tm → ∃ v, tmps[t]? = some v ∧ Rep P h β H r v
  | .map es => ∃ r ents clock, β i = .map (some r) ∧ heap[r]? = some (.map ents clock) ∧ (es.map (·.1)).Nodup ∧ EntsOk P h β H es ents

def blkOf (β : Nat → Value) (H : List Blk) (i : Nat) : Option Nat :=
  match H[i]? with
  | none | some .dead | some .free => none
  | some _ => anchor (β i)

structure SR (P : Program) (E : Env) (h : Nat → Option Obj) (β : Nat → Value) (H : List Blk) (w : World) : Prop where
  env : World.env w = E.b
  imm : ∀ b o, h b = some o → w.heap[b]? = some o
  blk : ∀ (i : Nat) x, H[i]? = some x → BlkOk P h β H w.heap i x
  own : ∀ i j x, blkOf β H i = some x → blkOf β H j = some x → i = j
  fresh : ∀ i x, blkOf β H i = some x → h x = none
  frm : ∀ b o, E.fr b = some o → w.heap[b]? = some o ∧ h b = none
  fro : ∀ i x, blkOf β H i = some x → E.fr x = none

section
variable {P : Program} {E : Env} {h h' : Nat → Option Obj} {β β' : Nat → Value} {H H' : List Blk} {w w' : World}

theorem SR.en (s : SR P E h β H w) (x : Nat → Option Obj) : SR P ⟨E.b, E.fr, x⟩ h β H w := ⟨s.env, s.imm, s.blk, s.own, s.fresh, s.frm, s.fro⟩
theorem SR.unen {x : Nat → Option Obj} (s : SR P ⟨E.b, E.fr, x⟩ h β H w) : SR P E h β H w := ⟨s.env, s.imm, s.blk, s.own, s.fresh, s.frm, s.fro⟩
theorem CellsOk.ext (X : Ext h β H h' β' H') {cs : List AV} {c : Array Value} (k : CellsOk P h β H cs c) : CellsOk P h' β' H' cs c :=
  let ⟨us, a, b⟩ := k
  ⟨us, a, fun j x e => X.rep (b j x e)⟩
theorem EntsOk.ext (X : Ext h β H h' β' H') {es : List (Int × AV)} {c : Array Go.MapEntry} (k : EntsOk P h β H es c) : EntsOk P h' β' H' es c :=
  let ⟨s, us, a⟩ := k
  ⟨s, us, fun j q x e => let ⟨r, b⟩ := a j q x e; ⟨X.rep r, b⟩⟩

theorem BlkOk.keep (X : Ext h β H h' β' H') {heap heap' : Array Obj} {i : Nat} {x : Blk} (hb : β' i = β i) (hh : x ≠ .dead → x ≠ .free → ∀ b, anchor (β i) = some b → heap'[b]? = heap[b]?)
    (k : BlkOk P h β H heap i x) : BlkOk P h' β' H' heap' i x := by
  cases x with
  | dead => trivial
  | free => trivial
  | lp st pend f tm ps x y n =>
    obtain ⟨b, dfr, tmps, h1, h2, h3, h4⟩ := k
    exact ⟨b, dfr, tmps, hb.trans h1, by rw [hh (by simp) (by simp) b (by rw [h1]; rfl)]; exact h2, h3, fun t r e => let ⟨v, a, c⟩ := h4 t r e; ⟨v, a, X.rep c⟩⟩
  | cells cs =>
    obtain ⟨b, c, t, h1, h2, h3, h4, h5⟩ := k
    exact ⟨b, c, t, hb.trans h1, by rw [hh (by simp) (by simp) b (by rw [h1]; rfl)]; exact h2, h3, h4, h5.ext X⟩
  | grow t nl els =>
    rcases k with ⟨h1, h2, h3⟩ | ⟨h1, h2, a, h3⟩ | ⟨h1, b, cap, c, h2, h3, h4, h5, h6, h7, h8, h9, h10, h11⟩
    · exact .inl ⟨h1, h2, hb.trans h3⟩
    · exact .inr (.inl ⟨h1, h2, a, hb.trans h3⟩)
    · exact .inr (.inr ⟨h1, b, cap, c, hb.trans h2, h3, by rw [hh (by simp) (by simp) b (by rw [h2]; simp [anchor]; omega)]; exact h4, h5, h6, h7, h8, h9, h10, h11.ext X⟩)
  | map es =>
    obtain ⟨r, ents, clock, h1, h2, h3, h4⟩ := k
    exact ⟨r, ents, clock, hb.trans h1, by rw [hh (by simp) (by simp) r (by rw [h1]; rfl)]; exact h2, h3, h4.ext X⟩
  | raw o =>
    obtain ⟨b, h1, h2⟩ := k
    exact ⟨b, hb.trans h1, by rw [hh (by simp) (by simp) b (by rw [h1]; rfl)]; exact h2⟩

/-- The anchor's block of a block that is there lies in the heap. -/
theorem SR.lt (s : SR P E h β H w) {i b : Nat} (hb : blkOf β H i = some b) : b < w.heap.size := by
  unfold blkOf at hb
  cases hx : H[i]? with
  | none => simp [hx] at hb
  | some x =>
    have k := s.blk i x hx
    cases x with
    | dead => simp [hx] at hb
    | free => simp [hx] at hb
    | lp st pend f tm ps x y n =>
      obtain ⟨b', dfr, tmps, h1, h2, _⟩ := k
      simp [hx, h1, anchor] at hb; subst hb; exact (Array.getElem?_eq_some_iff.1 h2).1
    | cells cs =>
      obtain ⟨b', c, t, h1, h2, _⟩ := k
      simp [hx, h1, anchor] at hb; subst hb; exact (Array.getElem?_eq_some_iff.1 h2).1
    | grow t nl els =>
      rcases k with ⟨h1, h2, h3⟩ | ⟨h1, h2, a, h3⟩ | ⟨h1, b', cap, c, h2, h3, h4, _⟩
      · simp [hx, h3, anchor] at hb
      · simp [hx, h3, anchor] at hb
      · simp [hx, h2, anchor] at hb; obtain ⟨_, hb⟩ := hb; subst hb; exact (Array.getElem?_eq_some_iff.1 h4).1
    | map es =>
      obtain ⟨r, ents, clock, h1, h2, _⟩ := k
      simp [hx, h1, anchor] at hb; subst hb; exact (Array.getElem?_eq_some_iff.1 h2).1
    | raw o =>
      obtain ⟨r, h1, h2⟩ := k
      simp [hx, h1, anchor] at hb; subst hb; exact (Array.getElem?_eq_some_iff.1 h2).1

theorem SR.fr_lt (s : SR P E h β H w) {b : Nat} {o : Obj} (hb : E.fr b = some o) : b < w.heap.size := (Array.getElem?_eq_some_iff.1 (s.frm b o hb).1).1
theorem SR.imm_lt (s : SR P E h β H w) {b : Nat} {o : Obj} (hb : h b = some o) : b < w.heap.size := (Array.getElem?_eq_some_iff.1 (s.imm b o hb)).1

/-- A world with the same memory. -/
theorem SR.same (s : SR P E h β H w) (he : World.env w' = World.env w) (hh : w'.heap = w.heap) : SR P E h β H w' :=
  ⟨he.trans s.env, by rw [hh]; exact s.imm, by rw [hh]; exact s.blk, s.own, s.fresh, by rw [hh]; exact s.frm, s.fro⟩

theorem SR.drew (s : SR P E h β H w) : SR P E h β H w.drew := s.same rfl rfl

/-- The old part of the state, when memory grows: more that stays, and numbers that are new. -/
theorem SR.grown (s : SR P E h β H w) (X : Ext h β H h' β' H') (he : World.env w' = E.b) (himm : ∀ b o, h' b = some o → w'.heap[b]? = some o)
    (hold : ∀ (i : Nat) x, H'[i]? = some x → (H[i]? = some x ∧ β' i = β i ∧ ∀ b, blkOf β H i = some b → w'.heap[b]? = w.heap[b]?) ∨ BlkOk P h' β' H' w'.heap i x)
    (hown : ∀ i j x, blkOf β' H' i = some x → blkOf β' H' j = some x → i = j) (hfresh : ∀ i x, blkOf β' H' i = some x → h' x = none)
    (hfrm : ∀ b o, E.fr b = some o → w'.heap[b]? = some o ∧ h' b = none) (hfro : ∀ i x, blkOf β' H' i = some x → E.fr x = none) : SR P E h' β' H' w' :=
  ⟨he, himm, fun i x e => by
    rcases hold i x e with ⟨h1, h2, h3⟩ | h1
    · exact (s.blk i x h1).keep X h2 fun hd hd' b hb => h3 b (by unfold blkOf; rw [h1]; cases x <;> first | exact absurd rfl hd | exact absurd rfl hd' | exact hb)
    · exact h1, hown, hfresh, hfrm, hfro⟩

/-- A new block that stays as it is. -/
theorem SR.alloc_imm (s : SR P E h β H w) (o : Obj) :
    SR P E (fun b => if b = w.heap.size then some o else h b) β H (w.alloc o) ∧ Ext h β H (fun b => if b = w.heap.size then some o else h b) β H := by
  have hn : h w.heap.size = none := by
    cases hx : h w.heap.size with
    | none => rfl
    | some o' => have := s.imm_lt hx; omega
  have X : Ext h β H (fun b => if b = w.heap.size then some o else h b) β H := by
    refine ⟨fun b o' e => ?_, Nat.le_refl _, fun i x x' e e' => by rw [e] at e'; cases e'; exact Blk.to_refl _ _ _⟩
    by_cases hb : b = w.heap.size
    · subst hb; rw [hn] at e; cases e
    · simp [hb, e]
  refine ⟨s.grown X s.env ?_ ?_ s.own ?_ (fun b o e => ?_) s.fro, X⟩
  · intro b o' e
    by_cases hb : b = w.heap.size
    · subst hb; simp at e; subst e; exact heap_alloc_new w o
    · simp [hb] at e; have := s.imm_lt e; rw [Below.heap_alloc _ _ _ this]; exact s.imm _ _ e
  · intro i x e
    exact .inl ⟨e, rfl, fun b hb => Below.heap_alloc _ _ _ (s.lt hb)⟩
  · intro i x e
    have := s.lt e
    rw [if_neg (by omega)]
    exact s.fresh i x e
  · have := s.fr_lt e
    exact ⟨by rw [Below.heap_alloc _ _ _ this]; exact (s.frm b o e).1, by rw [if_neg (by omega)]; exact (s.frm b o e).2⟩

def upb (β : Nat → Value) (i : Nat) (v : Value) : Nat → Value := fun j => if j = i then v else β j

theorem blkOf_congr {i : Nat} (hb : β' i = β i) (hx : H'[i]? = H[i]?) : blkOf β' H' i = blkOf β H i := by
  unfold blkOf; rw [hx, hb]

theorem blkOf_some {i b : Nat} (h1 : blkOf β H i = some b) : i < H.length ∧ anchor (β i) = some b := by
  unfold blkOf at h1
  cases hx : H[i]? with
  | none => simp [hx] at h1
  | some x => exact ⟨(List.getElem?_eq_some_iff.1 hx).1, by cases x <;> simp_all⟩

/-- A new block of one's own. -/
theorem SR.push (s : SR P E h β H w) (he : World.env w' = E.b) (hk : ∀ k, k < w.heap.size → w'.heap[k]? = w.heap[k]?) (v : Value) (x : Blk) (hv : ∀ b, anchor v = some b → w.heap.size ≤ b)
    (hx : Ext h β H h (upb β H.length v) (H ++ [x]) → BlkOk P h (upb β H.length v) (H ++ [x]) w'.heap H.length x) :
    SR P E h (upb β H.length v) (H ++ [x]) w' ∧ Ext h β H h (upb β H.length v) (H ++ [x]) := by
  have hβ : ∀ i, i < H.length → upb β H.length v i = β i := fun i hi => by simp [upb, show i ≠ H.length by omega]
  have hg : ∀ i, i < H.length → (H ++ [x])[i]? = H[i]? := fun i hi => List.getElem?_append_left hi
  have X : Ext h β H h (upb β H.length v) (H ++ [x]) := by
    refine ⟨fun _ _ h => h, by simp, fun i y y' e e' => ?_⟩
    have hi := (List.getElem?_eq_some_iff.1 e).1
    rw [hg i hi, e] at e'; cases e'
    cases y with
    | dead => rfl
    | free => trivial
    | lp st pend f tm ps x y n => exact .inr ⟨_, _, rfl, hβ i hi⟩
    | cells cs => exact .inr ⟨_, rfl, hβ i hi⟩
    | grow t nl els => exact .inr ⟨_, _, rfl, Nat.le_refl _, fun _ => hβ i hi⟩
    | map es => exact .inr ⟨_, rfl, hβ i hi⟩
    | raw o => exact .inr ⟨_, rfl, hβ i hi⟩
  have hbo : ∀ i b, blkOf (upb β H.length v) (H ++ [x]) i = some b → (i < H.length ∧ blkOf β H i = some b) ∨ (i = H.length ∧ w.heap.size ≤ b) := by
    intro i b hb
    rcases Nat.lt_or_ge i H.length with hi | hi
    · exact .inl ⟨hi, by rw [← hb]; exact (blkOf_congr (hβ i hi) (hg i hi)).symm⟩
    · have h2 := blkOf_some hb
      have : i = H.length := by have := h2.1; simp at this; omega
      subst this
      exact .inr ⟨rfl, hv b (by have := h2.2; simpa [upb] using this)⟩
  refine ⟨s.grown X he (fun b o e => by rw [hk b (s.imm_lt e)]; exact s.imm _ _ e) (fun i y e => ?_) (fun i j b hi hj => ?_) (fun i b hi => ?_) (fun b o e => ⟨by rw [hk b (s.fr_lt e)]; exact (s.frm b o e).1, (s.frm b o e).2⟩) (fun i b hi => ?_), X⟩
  · rcases Nat.lt_or_ge i H.length with hi | hi
    · rw [hg i hi] at e
      exact .inl ⟨e, hβ i hi, fun b hb => hk b (s.lt hb)⟩
    · have h2 := (List.getElem?_eq_some_iff.1 e).1
      have : i = H.length := by simp at h2; omega
      subst this
      simp at e; subst e
      exact .inr (hx X)
  · rcases hbo i b hi with ⟨h1, h2⟩ | ⟨h1, h2⟩ <;> rcases hbo j b hj with ⟨h3, h4⟩ | ⟨h3, h4⟩
    · exact s.own _ _ _ h2 h4
    · have := s.lt h2; omega
    · have := s.lt h4; omega
    · omega
  · rcases hbo i b hi with ⟨h1, h2⟩ | ⟨h1, h2⟩
    · exact s.fresh _ _ h2
    · cases hx : h b with
      | none => rfl
      | some o => have := s.imm_lt hx; omega
  · rcases hbo i b hi with ⟨h1, h2⟩ | ⟨h1, h2⟩
    · exact s.fro _ _ h2
    · cases hx : E.fr b with
      | none => rfl
      | some o => have := s.fr_lt hx; omega

/-- One block of one's own is written, or grows. -/
theorem SR.modify (s : SR P E h β H w) {i : Nat} {x x' : Blk} (hi : H[i]? = some x) (hβ : ∀ j, j ≠ i → β' j = β j) (hto : x.to β β' i x') (he : World.env w' = E.b)
    (hk : ∀ k, k < w.heap.size → blkOf β H i ≠ some k → w'.heap[k]? = w.heap[k]?)
    (ha : ∀ b, anchor (β' i) = some b → blkOf β H i = some b ∨ w.heap.size ≤ b)
    (hx : Ext h β H h β' (H.set i x') → BlkOk P h β' (H.set i x') w'.heap i x') : SR P E h β' (H.set i x') w' ∧ Ext h β H h β' (H.set i x') := by
  have hlt := (List.getElem?_eq_some_iff.1 hi).1
  have hg : ∀ j, j ≠ i → (H.set i x')[j]? = H[j]? := fun j hj => by rw [List.getElem?_set_ne (Ne.symm hj)]
  have hgi : (H.set i x')[i]? = some x' := by simp [hlt]
  have X : Ext h β H h β' (H.set i x') := by
    refine ⟨fun _ _ h => h, by simp, fun j y y' e e' => ?_⟩
    by_cases hj : j = i
    · subst hj; rw [hgi] at e'; cases e'; rw [hi] at e; cases e; exact hto
    · rw [hg j hj, e] at e'; cases e'
      cases y with
      | dead => rfl
      | free => trivial
      | lp st pend f tm ps x y n => exact .inr ⟨_, _, rfl, hβ j hj⟩
      | cells cs => exact .inr ⟨_, rfl, hβ j hj⟩
      | grow t nl els => exact .inr ⟨_, _, rfl, Nat.le_refl _, fun _ => hβ j hj⟩
      | map es => exact .inr ⟨_, rfl, hβ j hj⟩
      | raw o => exact .inr ⟨_, rfl, hβ j hj⟩
  have hbo : ∀ j b, blkOf β' (H.set i x') j = some b → (j ≠ i ∧ blkOf β H j = some b) ∨ (j = i ∧ (blkOf β H i = some b ∨ w.heap.size ≤ b)) := by
    intro j b hb
    by_cases hj : j = i
    · subst hj; exact .inr ⟨rfl, ha b (blkOf_some hb).2⟩
    · exact .inl ⟨hj, by rw [← hb]; exact (blkOf_congr (hβ j hj) (hg j hj)).symm⟩
  refine ⟨s.grown X he (fun b o e => ?_) (fun j y e => ?_) (fun j k b hj hk' => ?_) (fun j b hj => ?_) (fun b o e => ⟨?_, (s.frm b o e).2⟩) (fun j b hj => ?_), X⟩
  · rw [hk b (s.imm_lt e) (fun hh => by rw [s.fresh _ _ hh] at e; cases e)]; exact s.imm _ _ e
  · by_cases hj : j = i
    · subst hj; rw [hgi] at e; cases e; exact .inr (hx X)
    · rw [hg j hj] at e
      exact .inl ⟨e, hβ j hj, fun b hb => hk b (s.lt hb) (fun hh => hj (s.own _ _ _ hb hh))⟩
  · rcases hbo j b hj with ⟨h1, h2⟩ | ⟨h1, h2⟩ <;> rcases hbo k b hk' with ⟨h3, h4⟩ | ⟨h3, h4⟩
    · exact s.own _ _ _ h2 h4
    · rcases h4 with h4 | h4
      · rw [s.own _ _ _ h2 h4, h3]
      · have := s.lt h2; omega
    · rcases h2 with h2 | h2
      · rw [s.own _ _ _ h4 h2, h1]
      · have := s.lt h4; omega
    · rw [h1, h3]
  · rcases hbo j b hj with ⟨h1, h2⟩ | ⟨h1, h2 | h2⟩
    · exact s.fresh _ _ h2
    · exact s.fresh _ _ h2
    · cases hx : h b with
      | none => rfl
      | some o => have := s.imm_lt hx; omega
  · rw [hk b (s.fr_lt e) (fun hh => by rw [s.fro _ _ hh] at e; cases e)]; exact (s.frm b o e).1
  · rcases hbo j b hj with ⟨h1, h2⟩ | ⟨h1, h2 | h2⟩
    · exact s.fro _ _ h2
    · exact s.fro _ _ h2
    · cases hx : E.fr b with
      | none => rfl
      | some o => have := s.fr_lt hx; omega

/-- A block of one's own is from now on memory that stays. -/
theorem SR.freeze (s : SR P E h β H w) {i : Nat} {x : Blk} (hi : H[i]? = some x) :
    ∃ h', SR P E h' β (H.set i .dead) w ∧ Ext h β H h' β (H.set i .dead) ∧ (∀ b o, blkOf β H i = some b → w.heap[b]? = some o → h' b = some o) := by
  have hlt := (List.getElem?_eq_some_iff.1 hi).1
  have hg : ∀ j, j ≠ i → (H.set i .dead)[j]? = H[j]? := fun j hj => by rw [List.getElem?_set_ne (Ne.symm hj)]
  have hgi : (H.set i .dead)[i]? = some .dead := by simp [hlt]
  let h' : Nat → Option Obj := fun b => if blkOf β H i = some b then w.heap[b]? else h b
  have X : Ext h β H h' β (H.set i .dead) := by
    refine ⟨fun b o e => ?_, by simp, fun j y y' e e' => ?_⟩
    · by_cases hb : blkOf β H i = some b
      · rw [s.fresh _ _ hb] at e; cases e
      · simp only [h', if_neg hb]; exact e
    · by_cases hj : j = i
      · subst hj; rw [hgi] at e'; cases e'
        cases y <;> first | rfl | trivial | exact .inl rfl
      · rw [hg j hj, e] at e'; cases e'; exact Blk.to_refl _ _ _
  have hbo : ∀ j b, blkOf β (H.set i .dead) j = some b → j ≠ i ∧ blkOf β H j = some b := by
    intro j b hb
    by_cases hj : j = i
    · subst hj; simp [blkOf, hgi] at hb
    · exact ⟨hj, by rw [← hb]; exact (blkOf_congr rfl (hg j hj)).symm⟩
  refine ⟨h', s.grown X s.env (fun b o e => ?_) (fun j y e => ?_) (fun j k b hj hk' => s.own _ _ _ (hbo j b hj).2 (hbo k b hk').2) (fun j b hj => ?_) (fun b o e => ⟨(s.frm b o e).1, ?_⟩) (fun j b hj => s.fro _ _ (hbo j b hj).2), X, fun b o hb ho => by simp only [h', if_pos hb]; exact ho⟩
  · by_cases hb : blkOf β H i = some b
    · simp only [h', if_pos hb] at e; exact e
    · simp only [h', if_neg hb] at e; exact s.imm _ _ e
  · by_cases hj : j = i
    · subst hj; rw [hgi] at e; cases e; exact .inr trivial
    · rw [hg j hj] at e
      exact .inl ⟨e, rfl, fun _ _ => rfl⟩
  · obtain ⟨h1, h2⟩ := hbo j b hj
    simp only [h']
    rw [if_neg (fun hh => h1 (s.own _ _ _ h2 hh))]
    exact s.fresh _ _ h2
  · simp only [h']
    rw [if_neg (fun hh => by rw [s.fro _ _ hh] at e; cases e)]
    exact (s.frm b o e).2

end
end GA
