/- Memory under other numbers: values and blocks renamed; a call that knows of some blocks alone. -/
import Derived.Test.YtlbdomhfcghjdaaAbs25
namespace GA
open Go Go.RowKit
set_option linter.unusedVariables false

mutual
def AV.ren (ρ : Nat → Nat) : AV → AV
  | .ptr i o => .ptr (ρ i) o
  | .gr i n => .gr (ρ i) n
  | .gp i n e o => .gp (ρ i) n e o
  | .mp i => .mp (ρ i)
  | .yld i => .yld (ρ i)
  | .pim cs => .pim (renL ρ cs)
  | .sl nl cs => .sl nl (renL ρ cs)
  | .fn f cs => .fn f (renL ρ cs)
  | .agg cs => .agg (renL ρ cs)
  | .tup cs => .tup (renL ρ cs)
  | .bool b => .bool b
  | .int k n => .int k n
  | .nilp => .nilp
  | .se => .se
  | .nilm => .nilm
  | .nilf => .nilf
def renL (ρ : Nat → Nat) : List AV → List AV
  | [] => []
  | x :: l => x.ren ρ :: renL ρ l
end
theorem renL_eq (ρ : Nat → Nat) : ∀ l : List AV, renL ρ l = l.map (AV.ren ρ)
  | [] => rfl
  | x :: l => by rw [renL, renL_eq ρ l]; rfl
def Blk.ren (ρ : Nat → Nat) : Blk → Blk
  | .dead => .dead
  | .free => .free
  | .cells cs => .cells (renL ρ cs)
  | .grow t nl els => .grow t nl (renL ρ els)
  | .map es => .map (es.map fun p => (p.1, p.2.ren ρ))
  | .raw o => .raw o
  | .lp st pend f tm ps x y n => .lp st pend f (tm.map fun p => (p.1, p.2.ren ρ)) ps x y n

theorem AV.ren_one (ρ : Nat → Nat) (a : AV) : (a.ren ρ).one = a.one := by cases a <;> rfl
theorem AV.ren_cells (ρ : Nat → Nat) (a : AV) : (a.ren ρ).cells = a.cells.map (AV.ren ρ) := by
  cases a <;> first | rfl | (simp only [AV.ren, AV.cells, renL_eq]; rfl) | simp only [AV.ren, AV.cells, renL_eq]
theorem flat_ren (ρ : Nat → Nat) (l : List AV) : flat (l.map (AV.ren ρ)) = (flat l).map (AV.ren ρ) := by
  induction l with
  | nil => rfl
  | cons x l ih =>
    simp only [flat, List.map_cons, List.flatMap_cons, List.map_append] at ih ⊢
    rw [ih, AV.ren_cells]
theorem Blk.ren_free (ρ : Nat → Nat) (x : Blk) : (x.ren ρ).isFree = x.isFree := by cases x <;> rfl
theorem Blk.ren_rec (ρ : Nat → Nat) (x : Blk) : (x.ren ρ).isRec = x.isRec := by cases x <;> rfl

/-- A value that speaks of blocks alone that keep their numbers. -/
theorem AV.ren_low {ρ : Nat → Nat} {n : Nat} (h : ∀ i, i < n → ρ i = i) : ∀ {a : AV}, a.low n = true → a.ren ρ = a := by
  intro a
  refine AV.rec (motive_1 := fun a => a.low n = true → a.ren ρ = a) (motive_2 := fun l => lowL n l = true → renL ρ l = l) ?_ ?_ ?_ ?_ ?_ ?_ ?_ ?_ ?_ ?_ ?_ ?_ ?_ ?_ ?_ ?_ ?_ ?_ a
  all_goals try (intros; rfl)
  · intro i o hl; simp only [AV.low, decide_eq_true_eq] at hl; rw [AV.ren, h i hl]
  · intro cs ih hl; rw [AV.ren, ih hl]
  · intro nl cs ih hl; rw [AV.ren, ih hl]
  · intro i o hl; simp only [AV.low, decide_eq_true_eq] at hl; rw [AV.ren, h i hl]
  · intro i o e f hl; simp only [AV.low, decide_eq_true_eq] at hl; rw [AV.ren, h i hl]
  · intro i hl; simp only [AV.low, decide_eq_true_eq] at hl; rw [AV.ren, h i hl]
  · intro f cs ih hl; rw [AV.ren, ih hl]
  · intro i hl; simp only [AV.low, decide_eq_true_eq] at hl; rw [AV.ren, h i hl]
  · intro cs ih hl; rw [AV.ren, ih hl]
  · intro cs ih hl; rw [AV.ren, ih hl]
  · intro x l ih1 ih2 hl; simp only [lowL, Bool.and_eq_true] at hl; rw [renL, ih1 hl.1, ih2 hl.2]
theorem renL_low {ρ : Nat → Nat} {n : Nat} (h : ∀ i, i < n → ρ i = i) {l : List AV} (hl : lowL n l = true) : renL ρ l = l := by
  have := AV.ren_low h (a := .agg l) hl
  simpa [AV.ren] using this
theorem AV.ren_low0 {ρ : Nat → Nat} {a : AV} (hl : a.low 0 = true) : a.ren ρ = a := AV.ren_low (n := 0) (fun i hi => by omega) hl
theorem renL_low0 {ρ : Nat → Nat} {l : List AV} (hl : lowL 0 l = true) : renL ρ l = l := renL_low (n := 0) (fun i hi => by omega) hl

structure Ren (ρ : Nat → Nat) (β1 : Nat → Value) (H1 : List Blk) (β : Nat → Value) (H : List Blk) : Prop where
  m : ∀ (i : Nat) x1, H1[i]? = some x1 → H[ρ i]? = some (x1.ren ρ)
  b : ∀ i, i < H1.length → β (ρ i) = β1 i

section
variable {P : Program} {E : Env} {h : Nat → Option Obj} {β β1 : Nat → Value} {H H1 : List Blk} {w : World} {ρ : Nat → Nat}

theorem live.lt' {i : Nat} (h : live H i) : i < H.length := h.lt
theorem Ren.live (R : Ren ρ β1 H1 β H) {i : Nat} (l : live H1 i) : live H (ρ i) := let ⟨x, h1, h2⟩ := l; ⟨x.ren ρ, R.m i x h1, by rw [Blk.ren_free]; exact h2⟩
theorem Ren.unlive (R : Ren ρ β1 H1 β H) {i : Nat} (l : GA.live H (ρ i)) (hi : i < H1.length) : GA.live H1 i := by
  obtain ⟨x, h1, h2⟩ := l
  have h3 := R.m i _ (List.getElem?_eq_getElem hi)
  rw [h3] at h1; cases h1
  exact ⟨_, List.getElem?_eq_getElem hi, by rw [Blk.ren_free] at h2; exact h2⟩

theorem Ren.rep (R : Ren ρ β1 H1 β H) {a : AV} {v : Value} (x : Rep P h β1 H1 a v) : Rep P h β H (a.ren ρ) v := by
  induction x with
  | bool b => exact .bool b
  | int k n => exact .int k n
  | nilp => exact .nilp
  | @ptr i o b hi hb =>
    refine .ptr (R.live hi) fun cs e => ?_
    obtain ⟨x, hx, hf⟩ := hi
    rw [R.m i x hx] at e; rw [R.b i (List.getElem?_eq_some_iff.1 hx).1]
    cases x <;> simp only [Blk.ren, Option.some.injEq, reduceCtorEq] at e
    exact hb _ hx
  | pim us hone hb hc _ ih =>
    rw [AV.ren, renL_eq]
    refine .pim us (fun x hx => ?_) hb (fun j x e => ?_) (fun j x e => ?_)
    · obtain ⟨y, hy, rfl⟩ := List.mem_map.1 hx; rw [AV.ren_one]; exact hone y hy
    · rw [List.getElem?_map] at e; cases hq : ‹List AV›[j]? with | none => simp [hq] at e | some y => exact hc j y hq
    · rw [List.getElem?_map] at e
      cases hq : ‹List AV›[j]? with
      | none => simp [hq] at e
      | some y => simp only [hq, Option.map_some, Option.some.injEq] at e; subst e; exact ih j y hq
  | slnil => exact .slnil
  | slemp => exact .slemp
  | @sl b off cap c t fz els w n us hn hne hb hw hw0 hone hcap hc _ ih =>
    rw [AV.ren, renL_eq]
    refine .sl (w := w) us (by rw [List.length_map]; exact hn) (by simpa using hne) hb (fun e he => ?_) hw0 (fun x hx => ?_) (by rw [List.length_map]; exact hcap) (fun j x e => ?_) (fun j x e => ?_)
    · obtain ⟨y, hy, rfl⟩ := List.mem_map.1 he; rw [AV.ren_cells, List.length_map]; exact hw y hy
    · rw [flat_ren] at hx; obtain ⟨y, hy, rfl⟩ := List.mem_map.1 hx; rw [AV.ren_one]; exact hone y hy
    · rw [flat_ren, List.getElem?_map] at e; cases hq : (flat els)[j]? with | none => simp [hq] at e | some y => exact hc j y hq
    · rw [flat_ren, List.getElem?_map] at e
      cases hq : (flat els)[j]? with
      | none => simp [hq] at e
      | some y => simp only [hq, Option.map_some, Option.some.injEq] at e; subst e; exact ih j y hq
  | se => exact .se
  | @gr i n v ho hi hv =>
    refine .gr ho (R.live hi) fun t nl els e => ?_
    obtain ⟨x, hx, hf⟩ := hi
    rw [R.m i x hx] at e; rw [R.b i (List.getElem?_eq_some_iff.1 hx).1]
    cases x <;> simp only [Blk.ren, Option.some.injEq, Blk.grow.injEq, reduceCtorEq] at e
    obtain ⟨rfl, rfl, rfl⟩ := e
    rw [renL_eq, List.length_map]; exact hv _ _ _ hx
  | @gp i n e o b q hi hv =>
    refine .gp (R.live hi) fun t nl els e => ?_
    obtain ⟨x, hx, hf⟩ := hi
    rw [R.m i x hx] at e; rw [R.b i (List.getElem?_eq_some_iff.1 hx).1]
    cases x <;> simp only [Blk.ren, Option.some.injEq, Blk.grow.injEq, reduceCtorEq] at e
    obtain ⟨rfl, rfl, rfl⟩ := e
    rw [renL_eq, List.length_map]; exact hv _ _ _ hx
  | nilm => exact .nilm
  | @mp i r hi hb =>
    refine .mp (R.live hi) fun es e => ?_
    obtain ⟨x, hx, hf⟩ := hi
    rw [R.m i x hx] at e; rw [R.b i (List.getElem?_eq_some_iff.1 hx).1]
    cases x <;> simp only [Blk.ren, Option.some.injEq, reduceCtorEq] at e
    exact hb _ hx
  | nilf => exact .nilf
  | @yld i b hi hb =>
    refine .yld (R.live hi) fun y e hy => ?_
    obtain ⟨x, hx, hf⟩ := hi
    rw [R.m i x hx] at e; rw [R.b i (List.getElem?_eq_some_iff.1 hx).1]
    cases e
    rw [Blk.ren_rec] at hy
    exact hb _ hx hy
  | @fn f caps vs us hs hc _ ih =>
    rw [AV.ren, renL_eq]
    refine .fn us (by rw [List.length_map]; exact hs) (fun j x e => ?_) (fun j x e => ?_)
    · rw [List.getElem?_map] at e; cases hq : caps[j]? with | none => simp [hq] at e | some y => exact hc j y hq
    · rw [List.getElem?_map] at e
      cases hq : caps[j]? with
      | none => simp [hq] at e
      | some y => simp only [hq, Option.map_some, Option.some.injEq] at e; subst e; exact ih j y hq
  | @agg caps vs us hs hone hc _ ih =>
    rw [AV.ren, renL_eq]
    refine .agg us (by rw [List.length_map]; exact hs) (fun x hx => ?_) (fun j x e => ?_) (fun j x e => ?_)
    · obtain ⟨y, hy, rfl⟩ := List.mem_map.1 hx; rw [AV.ren_one]; exact hone y hy
    · rw [List.getElem?_map] at e; cases hq : caps[j]? with | none => simp [hq] at e | some y => exact hc j y hq
    · rw [List.getElem?_map] at e
      cases hq : caps[j]? with
      | none => simp [hq] at e
      | some y => simp only [hq, Option.map_some, Option.some.injEq] at e; subst e; exact ih j y hq
  | @tup caps vs us hs hc _ ih =>
    rw [AV.ren, renL_eq]
    refine .tup us (by rw [List.length_map]; exact hs) (fun j x e => ?_) (fun j x e => ?_)
    · rw [List.getElem?_map] at e; cases hq : caps[j]? with | none => simp [hq] at e | some y => exact hc j y hq
    · rw [List.getElem?_map] at e
      cases hq : caps[j]? with
      | none => simp [hq] at e
      | some y => simp only [hq, Option.map_some, Option.some.injEq] at e; subst e; exact ih j y hq

theorem lowL_get {n : Nat} {l : List AV} (hl : lowL n l = true) {j : Nat} {x : AV} (e : l[j]? = some x) : x.low n = true := lowL_iff.1 hl x (List.mem_of_getElem? e)
theorem map_get {l : List AV} {j : Nat} {x : AV} (e : l[j]? = some x) : (l.map (AV.ren ρ))[j]? = some (x.ren ρ) := by rw [List.getElem?_map, e]; rfl

theorem Ren.unrep (R : Ren ρ β1 H1 β H) {r : AV} {v : Value} (x : Rep P h β H r v) : ∀ {a : AV}, a.ren ρ = r → a.low H1.length = true → Rep P h β1 H1 a v := by
  induction x with
  | bool b => intro a e hl; cases a <;> simp only [AV.ren, AV.bool.injEq, reduceCtorEq] at e; subst e; exact .bool _
  | int k n => intro a e hl; cases a <;> simp only [AV.ren, AV.int.injEq, reduceCtorEq] at e; obtain ⟨rfl, rfl⟩ := e; exact .int _ _
  | nilp => intro a e hl; cases a <;> simp only [AV.ren, reduceCtorEq] at e; exact .nilp
  | @ptr i o b hi hb =>
    intro a e hl; cases a <;> simp only [AV.ren, AV.ptr.injEq, reduceCtorEq] at e
    rename_i i0 o0
    obtain ⟨rfl, rfl⟩ := e
    simp only [AV.low, decide_eq_true_eq] at hl
    refine .ptr (R.unlive hi hl) fun cs e => ?_
    rw [← R.b i0 hl]; exact hb _ (R.m _ _ e)
  | @pim b off c t fz cs us hone hb hc _ ih =>
    intro a e hl; cases a <;> simp only [AV.ren, AV.pim.injEq, reduceCtorEq] at e
    rename_i cs0
    rw [renL_eq] at e; subst e
    refine .pim us (fun x hx => ?_) hb (fun j x e => ?_) (fun j x e => ?_)
    · rw [← AV.ren_one ρ]; exact hone _ (List.mem_map.2 ⟨x, hx, rfl⟩)
    · exact hc j _ (map_get e)
    · exact ih j _ (map_get e) rfl (lowL_get hl e)
  | slnil => intro a e hl; cases a <;> simp only [AV.ren, AV.sl.injEq, reduceCtorEq] at e; obtain ⟨rfl, e⟩ := e; rw [renL_eq, List.map_eq_nil_iff] at e; subst e; exact .slnil
  | slemp => intro a e hl; cases a <;> simp only [AV.ren, AV.sl.injEq, reduceCtorEq] at e; obtain ⟨rfl, e⟩ := e; rw [renL_eq, List.map_eq_nil_iff] at e; subst e; exact .slemp
  | @sl b off cap c t fz els w n us hn hne hb hw hw0 hone hcap hc _ ih =>
    intro a e hl; cases a <;> simp only [AV.ren, AV.sl.injEq, reduceCtorEq] at e
    rename_i nl cs0
    obtain ⟨rfl, e⟩ := e
    rw [renL_eq] at e; subst e
    rw [List.length_map] at hn hcap
    rw [flat_ren] at hone hc
    refine .sl (w := w) us hn (by simpa using hne) hb (fun e he => ?_) hw0 (fun x hx => ?_) hcap (fun j x e => hc j _ (map_get e)) (fun j x e => ?_)
    · have := hw _ (List.mem_map.2 ⟨e, he, rfl⟩); rwa [AV.ren_cells, List.length_map] at this
    · rw [← AV.ren_one ρ]; exact hone _ (List.mem_map.2 ⟨x, hx, rfl⟩)
    · exact ih j _ (by rw [flat_ren]; exact map_get e) rfl (low_flat.1 hl x (List.mem_of_getElem? e))
  | se => intro a e hl; cases a <;> simp only [AV.ren, reduceCtorEq] at e; exact .se
  | @gr i n v ho hi hv =>
    intro a e hl; cases a <;> simp only [AV.ren, AV.gr.injEq, reduceCtorEq] at e
    rename_i i0 o0
    obtain ⟨rfl, rfl⟩ := e
    simp only [AV.low, decide_eq_true_eq] at hl
    refine .gr ho (R.unlive hi hl) fun t nl els e => ?_
    rw [← R.b i0 hl]; have := hv _ _ _ (R.m _ _ e); rwa [renL_eq, List.length_map] at this
  | @gp i n e o b q hi hv =>
    intro a e hl; cases a <;> simp only [AV.ren, AV.gp.injEq, reduceCtorEq] at e
    rename_i i0 n0 e0 o0
    obtain ⟨rfl, rfl, rfl, rfl⟩ := e
    simp only [AV.low, decide_eq_true_eq] at hl
    refine .gp (R.unlive hi hl) fun t nl els e => ?_
    rw [← R.b i0 hl]; have := hv _ _ _ (R.m _ _ e); rwa [renL_eq, List.length_map] at this
  | nilm => intro a e hl; cases a <;> simp only [AV.ren, reduceCtorEq] at e; exact .nilm
  | @mp i r hi hb =>
    intro a e hl; cases a <;> simp only [AV.ren, AV.mp.injEq, reduceCtorEq] at e
    subst e
    simp only [AV.low, decide_eq_true_eq] at hl
    refine .mp (R.unlive hi hl) fun cs e => ?_
    rw [← R.b _ hl]; exact hb _ (R.m _ _ e)
  | nilf => intro a e hl; cases a <;> simp only [AV.ren, reduceCtorEq] at e; exact .nilf
  | @yld i b hi hb =>
    intro a e hl; cases a <;> simp only [AV.ren, AV.yld.injEq, reduceCtorEq] at e
    subst e
    simp only [AV.low, decide_eq_true_eq] at hl
    refine .yld (R.unlive hi hl) fun x e hx => ?_
    rw [← R.b _ hl]; exact hb _ (R.m _ _ e) (by rw [Blk.ren_rec]; exact hx)
  | @fn f caps vs us hs hc _ ih =>
    intro a e hl; cases a <;> simp only [AV.ren, AV.fn.injEq, reduceCtorEq] at e
    rename_i f0 cs0
    obtain ⟨rfl, e⟩ := e
    rw [renL_eq] at e; subst e
    exact .fn us (by rw [hs, List.length_map]) (fun j x e => hc j _ (map_get e)) (fun j x e => ih j _ (map_get e) rfl (lowL_get hl e))
  | @agg caps vs us hs hone hc _ ih =>
    intro a e hl; cases a <;> simp only [AV.ren, AV.agg.injEq, reduceCtorEq] at e
    rename_i cs0
    rw [renL_eq] at e; subst e
    exact .agg us (by rw [hs, List.length_map]) (fun x hx => by rw [← AV.ren_one ρ]; exact hone _ (List.mem_map.2 ⟨x, hx, rfl⟩)) (fun j x e => hc j _ (map_get e)) (fun j x e => ih j _ (map_get e) rfl (lowL_get hl e))
  | @tup caps vs us hs hc _ ih =>
    intro a e hl; cases a <;> simp only [AV.ren, AV.tup.injEq, reduceCtorEq] at e
    rename_i cs0
    rw [renL_eq] at e; subst e
    exact .tup us (by rw [hs, List.length_map]) (fun j x e => hc j _ (map_get e)) (fun j x e => ih j _ (map_get e) rfl (lowL_get hl e))

theorem Ren.cells (R : Ren ρ β1 H1 β H) {cs : List AV} {c : Array Value} (k : CellsOk P h β1 H1 cs c) : CellsOk P h β H (cs.map (AV.ren ρ)) c := by
  obtain ⟨us, a, b⟩ := k
  refine ⟨us, fun j x e => ?_, fun j x e => ?_⟩ <;> (rw [List.getElem?_map] at e; cases hq : cs[j]? with | none => simp [hq] at e | some y => ?_)
  · exact a j y hq
  · simp only [hq, Option.map_some, Option.some.injEq] at e; subst e; exact R.rep (b j y hq)
theorem Ren.uncells (R : Ren ρ β1 H1 β H) {cs : List AV} {c : Array Value} (hl : lowL H1.length cs = true) (k : CellsOk P h β H (cs.map (AV.ren ρ)) c) : CellsOk P h β1 H1 cs c := by
  obtain ⟨us, a, b⟩ := k
  exact ⟨us, fun j x e => a j _ (map_get e), fun j x e => R.unrep (b j _ (map_get e)) rfl (lowL_get hl e)⟩

theorem Ren.blk (R : Ren ρ β1 H1 β H) {heap : Array Obj} {i : Nat} (hi : i < H1.length) {x : Blk} (k : BlkOk P h β1 H1 heap i x) : BlkOk P h β H heap (ρ i) (x.ren ρ) := by
  have hb := R.b i hi
  cases x with
  | dead => trivial
  | free => trivial
  | cells cs =>
    obtain ⟨b, c, t, h1, h2, h3, h4, h5⟩ := k
    rw [Blk.ren, renL_eq]
    refine ⟨b, c, t, hb.trans h1, h2, by rw [h3, List.length_map], fun x hx => ?_, R.cells h5⟩
    obtain ⟨y, hy, rfl⟩ := List.mem_map.1 hx; rw [AV.ren_one]; exact h4 y hy
  | grow t nl els =>
    rw [Blk.ren, renL_eq]
    rcases k with ⟨h1, h2, h3⟩ | ⟨h1, h2, a, h3⟩ | ⟨h1, b, cap, c, h2, h3, h4, h5, h6, h7, h8, h9, h10, h11⟩
    · exact .inl ⟨h1, by rw [h2]; rfl, hb.trans h3⟩
    · exact .inr (.inl ⟨h1, by rw [h2]; rfl, a, hb.trans h3⟩)
    · refine .inr (.inr ⟨h1, b, cap, c, by rw [hb, h2, List.length_map], h3, h4, by rw [List.length_map]; exact h5, h6, h7, h8, fun e he => ?_, fun x hx => ?_, by rw [flat_ren]; exact R.cells h11⟩)
      · obtain ⟨y, hy, rfl⟩ := List.mem_map.1 he; rw [AV.ren_cells, List.length_map]; exact h9 y hy
      · rw [flat_ren] at hx; obtain ⟨y, hy, rfl⟩ := List.mem_map.1 hx; rw [AV.ren_one]; exact h10 y hy
  | map es =>
    obtain ⟨r, ents, clock, h1, h2, h3, h4, us, h5⟩ := k
    refine ⟨r, ents, clock, hb.trans h1, h2, ?_, by rw [h4, List.length_map], us, fun j q x e => ?_⟩
    · rw [List.map_map]; exact h3
    · rw [List.getElem?_map] at e
      cases hq : es[j]? with
      | none => simp [hq] at e
      | some y =>
        obtain ⟨a, b⟩ := y
        simp only [hq, Option.map_some, Option.some.injEq, Prod.mk.injEq] at e
        obtain ⟨rfl, rfl⟩ := e
        obtain ⟨h6, h7⟩ := h5 j _ _ hq
        exact ⟨R.rep h6, h7⟩
  | raw o => obtain ⟨b, h1, h2⟩ := k; exact ⟨b, hb.trans h1, h2⟩
  | lp st pend f tm ps x y n =>
    obtain ⟨b, dfr, tmps, h1, h2, h3, h4⟩ := k
    refine ⟨b, dfr, tmps, hb.trans h1, h2, h3, fun t r e => ?_⟩
    obtain ⟨⟨t', r'⟩, hm, he⟩ := List.mem_map.1 e
    simp only [Prod.mk.injEq] at he; obtain ⟨rfl, rfl⟩ := he
    obtain ⟨v, h5, h6⟩ := h4 _ _ hm
    exact ⟨v, h5, R.rep h6⟩

theorem Ren.unblk (R : Ren ρ β1 H1 β H) {heap : Array Obj} {i : Nat} (hi : i < H1.length) {x : Blk} (hl : x.low H1.length = true) (k : BlkOk P h β H heap (ρ i) (x.ren ρ)) : BlkOk P h β1 H1 heap i x := by
  have hb := R.b i hi
  cases x with
  | dead => trivial
  | free => trivial
  | cells cs =>
    rw [Blk.ren, renL_eq] at k
    obtain ⟨b, c, t, h1, h2, h3, h4, h5⟩ := k
    exact ⟨b, c, t, hb.symm.trans h1, h2, by rw [h3, List.length_map], fun x hx => by rw [← AV.ren_one ρ]; exact h4 _ (List.mem_map.2 ⟨x, hx, rfl⟩), R.uncells hl h5⟩
  | grow t nl els =>
    rw [Blk.ren, renL_eq] at k
    rcases k with ⟨h1, h2, h3⟩ | ⟨h1, h2, a, h3⟩ | ⟨h1, b, cap, c, h2, h3, h4, h5, h6, h7, h8, h9, h10, h11⟩
    · exact .inl ⟨h1, List.map_eq_nil_iff.1 h2, hb.symm.trans h3⟩
    · exact .inr (.inl ⟨h1, List.map_eq_nil_iff.1 h2, a, hb.symm.trans h3⟩)
    · rw [List.length_map] at h2 h5
      rw [flat_ren] at h10 h11
      refine .inr (.inr ⟨h1, b, cap, c, hb.symm.trans h2, h3, h4, h5, h6, h7, h8, fun e he => ?_, fun x hx => ?_, R.uncells ?_ h11⟩)
      · have := h9 _ (List.mem_map.2 ⟨e, he, rfl⟩); rwa [AV.ren_cells, List.length_map] at this
      · rw [← AV.ren_one ρ]; exact h10 _ (List.mem_map.2 ⟨x, hx, rfl⟩)
      · exact lowL_iff.2 (low_flat.1 hl)
  | map es =>
    obtain ⟨r, ents, clock, h1, h2, h3, h4, us, h5⟩ := k
    refine ⟨r, ents, clock, hb.symm.trans h1, h2, ?_, by rw [h4, List.length_map], us, fun j q x e => ?_⟩
    · rw [List.map_map] at h3; exact h3
    · obtain ⟨h6, h7⟩ := h5 j q (x.ren ρ) (by rw [List.getElem?_map, e]; rfl)
      refine ⟨R.unrep h6 rfl ?_, h7⟩
      exact lowL_iff.1 hl x (List.mem_map.2 ⟨(q, x), List.mem_of_getElem? e, rfl⟩)
  | raw o => obtain ⟨b, h1, h2⟩ := k; exact ⟨b, hb.symm.trans h1, h2⟩
  | lp st pend f tm ps x y n =>
    obtain ⟨b, dfr, tmps, h1, h2, h3, h4⟩ := k
    refine ⟨b, dfr, tmps, hb.symm.trans h1, h2, h3, fun t r e => ?_⟩
    obtain ⟨v, h5, h6⟩ := h4 t (r.ren ρ) (List.mem_map.2 ⟨(t, r), e, rfl⟩)
    exact ⟨v, h5, R.unrep h6 rfl (lowL_iff.1 hl r (List.mem_map.2 ⟨(t, r), e, rfl⟩))⟩

theorem Ren.blkOf (R : Ren ρ β1 H1 β H) {i : Nat} (hi : i < H1.length) : GA.blkOf β H (ρ i) = GA.blkOf β1 H1 i := by
  have h1 := R.m i _ (List.getElem?_eq_getElem hi)
  unfold GA.blkOf
  rw [h1, List.getElem?_eq_getElem hi, R.b i hi]
  generalize H1[i] = x
  cases x <;> rfl
theorem Ren.to {x x' : Blk} {β' β1' : Nat → Value} {i : Nat} (h1 : β (ρ i) = β1 i) (h2 : β' (ρ i) = β1' i) (k : x.to β1 β1' i x') : (x.ren ρ).to β β' (ρ i) (x'.ren ρ) := by
  cases x with
  | dead => simp only [Blk.to] at k; subst k; rfl
  | free => trivial
  | cells cs =>
    rcases k with rfl | ⟨cs', rfl, hb⟩
    · exact .inl rfl
    · exact .inr ⟨_, rfl, by rw [h1, h2]; exact hb⟩
  | grow t nl els =>
    rcases k with rfl | ⟨nl', els', rfl, hl, hb⟩
    · exact .inl rfl
    · exact .inr ⟨_, _, rfl, by simp only [renL_eq, List.length_map]; exact hl, fun e => by rw [h1, h2]; simp only [renL_eq, List.length_map] at e; exact hb e⟩
  | map es =>
    rcases k with rfl | ⟨cs', rfl, hb⟩
    · exact .inl rfl
    · exact .inr ⟨_, rfl, by rw [h1, h2]; exact hb⟩
  | raw o =>
    rcases k with rfl | ⟨cs', rfl, hb⟩
    · exact .inl rfl
    · exact .inr ⟨_, rfl, by rw [h1, h2]; exact hb⟩
  | lp st pend f tm ps x y n =>
    rcases k with rfl | ⟨st', pend', rfl, hb⟩
    · exact .inl rfl
    · exact .inr ⟨_, _, rfl, by rw [h1, h2]; exact hb⟩

/-- What is known of some blocks alone. -/
theorem Ren.sr (R : Ren ρ β1 H1 β H) (s : SR P E h β H w) (inj : ∀ i j, i < H1.length → j < H1.length → ρ i = ρ j → i = j) (lo : ∀ x ∈ H1, x.low H1.length = true) : SR P E h β1 H1 w := by
  have hlt : ∀ {i x}, GA.blkOf β1 H1 i = some x → i < H1.length := fun e => (blkOf_some e).1
  refine ⟨s.env, s.imm, fun i x e => ?_, fun i j x e1 e2 => ?_, fun i x e => ?_, s.frm, fun i x e => ?_⟩
  · have hi := (List.getElem?_eq_some_iff.1 e).1
    exact R.unblk hi (lo x (List.mem_of_getElem? e)) (s.blk _ _ (R.m i x e))
  · exact inj i j (hlt e1) (hlt e2) (s.own _ _ x (by rw [R.blkOf (hlt e1)]; exact e1) (by rw [R.blkOf (hlt e2)]; exact e2))
  · exact s.fresh (ρ i) x (by rw [R.blkOf (hlt e)]; exact e)
  · exact s.fro (ρ i) x (by rw [R.blkOf (hlt e)]; exact e)

/-- A call that knows of some blocks alone: the others are memory of others. -/
noncomputable def othE (E : Env) (β : Nat → Value) (H : List Blk) (w : World) (im : Nat → Prop) : Env := by
  classical exact ⟨E.b, fun b => if ∃ j, ¬ im j ∧ GA.blkOf β H j = some b then w.heap[b]? else E.fr b, E.en⟩
theorem othE_hit {im : Nat → Prop} {b j : Nat} (hj : ¬ im j) (hb : GA.blkOf β H j = some b) : (othE E β H w im).fr b = w.heap[b]? := by
  simp only [othE]; rw [if_pos ⟨j, hj, hb⟩]
theorem othE_miss {im : Nat → Prop} {b : Nat} (hn : ∀ j, ¬ im j → GA.blkOf β H j ≠ some b) : (othE E β H w im).fr b = E.fr b := by
  simp only [othE]; rw [if_neg (fun ⟨j, h1, h2⟩ => hn j h1 h2)]

theorem Ren.srE (R : Ren ρ β1 H1 β H) (s : SR P E h β H w) (inj : ∀ i j, i < H1.length → j < H1.length → ρ i = ρ j → i = j) (lo : ∀ x ∈ H1, x.low H1.length = true) :
    SR P (othE E β H w fun j => ∃ i, i < H1.length ∧ ρ i = j) h β1 H1 w := by
  have s1 := R.sr s inj lo
  refine ⟨s1.env, s1.imm, s1.blk, s1.own, s1.fresh, fun b o e => ?_, fun i x e => ?_⟩
  · by_cases hh : ∃ j, ¬ (∃ i, i < H1.length ∧ ρ i = j) ∧ GA.blkOf β H j = some b
    · obtain ⟨j, h1, h2⟩ := hh
      rw [othE_hit h1 h2] at e
      exact ⟨e, s.fresh _ _ h2⟩
    · rw [othE_miss (fun j h1 h2 => hh ⟨j, h1, h2⟩)] at e; exact s.frm b o e
  · have hi := (blkOf_some e).1
    have hb := R.blkOf hi
    rw [othE_miss]
    · exact s.fro (ρ i) x (by rw [hb]; exact e)
    · intro j h1 h2
      exact h1 ⟨i, hi, s.own _ _ x (by rw [hb]; exact e) h2⟩

theorem ACall.frame {f : FuncId} {rs1 : List AV} {k1 k : AV → List Blk → Prop} (x : ACall P f rs1 H1 k1)
    (inj : ∀ i j, i < H1.length → j < H1.length → ρ i = ρ j → i = j) (hm : ∀ (i : Nat) x1, H1[i]? = some x1 → H[ρ i]? = some (x1.ren ρ))
    (lo : ∀ x ∈ H1, x.low H1.length = true) (lor : lowL H1.length rs1 = true)
    (hk : ∀ r1 H1', k1 r1 H1' → H1'.length = H1.length ∧ ∃ H', H'.length = H.length ∧ (∀ (i : Nat) x1, H1'[i]? = some x1 → H'[ρ i]? = some (x1.ren ρ)) ∧ (∀ j, (∀ i, i < H1.length → ρ i ≠ j) → H'[j]? = H[j]?) ∧ k (r1.ren ρ) H') :
    ACall P f (rs1.map (AV.ren ρ)) H k := by
  refine ⟨x.1, fun E h β w vs s hr => ?_⟩
  have R : Ren ρ (fun i => β (ρ i)) H1 β H := ⟨hm, fun _ _ => rfl⟩
  have s1 := R.srE s inj lo
  have hr1 : RepL P h (fun i => β (ρ i)) H1 rs1 vs := ⟨by rw [hr.1, List.length_map], fun j r e => by
    obtain ⟨v, h1, h2⟩ := hr.2 j _ (map_get e)
    exact ⟨v, h1, R.unrep h2 rfl (lowL_get lor e)⟩⟩
  refine (x.2 _ h _ w vs s1 hr1).mono ?_
  rintro e w' ⟨r1, H1', h', β1', v, rfl, q, X, s', hv⟩
  obtain ⟨hlen, H', hlen', hm', ho, hk'⟩ := hk r1 H1' q
  classical
  let β' : Nat → Value := fun j => if hj : ∃ i, i < H1.length ∧ ρ i = j then β1' (Classical.choose hj) else β j
  have hβ1 : ∀ i, i < H1.length → β' (ρ i) = β1' i := by
    intro i hi
    have hj : ∃ i', i' < H1.length ∧ ρ i' = ρ i := ⟨i, hi, rfl⟩
    simp only [β', dif_pos hj]
    rw [inj _ _ (Classical.choose_spec hj).1 hi (Classical.choose_spec hj).2]
  have hβ2 : ∀ j, (∀ i, i < H1.length → ρ i ≠ j) → β' j = β j := by
    intro j hj
    have hn : ¬ ∃ i, i < H1.length ∧ ρ i = j := fun ⟨i, h1, h2⟩ => hj i h1 h2
    simp only [β', dif_neg hn]
  have R' : Ren ρ β1' H1' β' H' := ⟨hm', fun i hi => hβ1 i (by omega)⟩
  have im : ∀ j, (∃ i, i < H1.length ∧ ρ i = j) ∨ ∀ i, i < H1.length → ρ i ≠ j := by
    intro j
    by_cases hj : ∃ i, i < H1.length ∧ ρ i = j
    · exact .inl hj
    · exact .inr fun i hi e => hj ⟨i, hi, e⟩
  have X' : Ext h β H h' β' H' := by
    refine ⟨X.imm, by omega, fun j y y' e e' => ?_⟩
    rcases im j with ⟨i, hi, rfl⟩ | hj
    · have h1 : H1[i]? = some H1[i] := List.getElem?_eq_getElem hi
      have h2 : H1'[i]? = some (H1'[i]'(by omega)) := List.getElem?_eq_getElem (by omega)
      rw [hm i _ h1] at e; cases e
      rw [hm' i _ h2] at e'; cases e'
      exact Ren.to (β1 := fun i => β (ρ i)) rfl (hβ1 i hi) (X.to i _ _ h1 h2)
    · rw [ho j hj, e] at e'; cases e'
      have := Blk.to_refl β j y
      cases y with
      | dead => rfl
      | free => trivial
      | cells cs => exact .inr ⟨_, rfl, hβ2 j hj⟩
      | grow t nl els => exact .inr ⟨_, _, rfl, Nat.le_refl _, fun _ => hβ2 j hj⟩
      | map es => exact .inr ⟨_, rfl, hβ2 j hj⟩
      | raw o => exact .inr ⟨_, rfl, hβ2 j hj⟩
      | lp st pend f tm ps x y n => exact .inr ⟨_, _, rfl, hβ2 j hj⟩
  have hb1 : ∀ i, i < H1.length → GA.blkOf β' H' (ρ i) = GA.blkOf β1' H1' i := fun i hi => R'.blkOf (by omega)
  have hb2 : ∀ j, (∀ i, i < H1.length → ρ i ≠ j) → GA.blkOf β' H' j = GA.blkOf β H j := fun j hj => blkOf_congr (hβ2 j hj) (ho j hj)
  have hsome : ∀ j b, GA.blkOf β H j = some b → ∃ o, w.heap[b]? = some o := fun j b e => ⟨_, Array.getElem?_eq_getElem (s.lt e)⟩
  have hfr : ∀ j b o, (∀ i, i < H1.length → ρ i ≠ j) → GA.blkOf β H j = some b → w.heap[b]? = some o → w'.heap[b]? = some o ∧ h' b = none := by
    intro j b o hj e eo
    refine s'.frm b o ?_
    rw [othE_hit (j := j) (fun ⟨i, h1, h2⟩ => hj i h1 h2) e]; exact eo
  have hE : ∀ b o, E.fr b = some o → (othE E β H w fun j => ∃ i, i < H1.length ∧ ρ i = j).fr b = some o := by
    intro b o e
    rw [othE_miss]
    · exact e
    · intro j _ h2; rw [s.fro j b h2] at e; cases e
  refine ⟨r1.ren ρ, H', h', β', v, rfl, hk', X', ?_, R'.rep hv⟩
  refine ⟨s'.env, s'.imm, fun j y e => ?_, fun i j b e1 e2 => ?_, fun j b e => ?_, fun b o e => s'.frm b o (hE b o e), fun j b e => ?_⟩
  · rcases im j with ⟨i, hi, rfl⟩ | hj
    · have h2 : H1'[i]? = some (H1'[i]'(by omega)) := List.getElem?_eq_getElem (by omega)
      rw [hm' i _ h2] at e; cases e
      exact R'.blk (by omega) (s'.blk i _ h2)
    · rw [ho j hj] at e
      refine (s.blk j y e).keep X' (hβ2 j hj) fun hd hd' b hb => ?_
      have hbo : GA.blkOf β H j = some b := by unfold GA.blkOf; rw [e]; cases y <;> first | exact absurd rfl hd | exact absurd rfl hd' | exact hb
      obtain ⟨o, ho'⟩ := hsome j b hbo
      rw [ho', (hfr j b o hj hbo ho').1]
  · rcases im i with ⟨i0, hi, rfl⟩ | hi <;> rcases im j with ⟨j0, hj, rfl⟩ | hj
    · rw [hb1 i0 hi] at e1; rw [hb1 j0 hj] at e2
      rw [s'.own _ _ b e1 e2]
    · rw [hb1 i0 hi] at e1; rw [hb2 j hj] at e2
      obtain ⟨o, ho'⟩ := hsome j b e2
      have h3 := s'.fro _ _ e1
      rw [othE_hit (j := j) (fun ⟨i, h1, h2⟩ => hj i h1 h2) e2, ho'] at h3; cases h3
    · rw [hb2 i hi] at e1; rw [hb1 j0 hj] at e2
      obtain ⟨o, ho'⟩ := hsome i b e1
      have h3 := s'.fro _ _ e2
      rw [othE_hit (j := i) (fun ⟨i', h1, h2⟩ => hi i' h1 h2) e1, ho'] at h3; cases h3
    · rw [hb2 i hi] at e1; rw [hb2 j hj] at e2
      exact s.own _ _ b e1 e2
  · rcases im j with ⟨i, hi, rfl⟩ | hj
    · rw [hb1 i hi] at e; exact s'.fresh _ _ e
    · rw [hb2 j hj] at e
      obtain ⟨o, ho'⟩ := hsome j b e
      exact (hfr j b o hj e ho').2
  · rcases im j with ⟨i, hi, rfl⟩ | hj
    · rw [hb1 i hi] at e
      have h3 := s'.fro _ _ e
      cases hx : E.fr b with
      | none => rfl
      | some o => rw [hE b o hx] at h3; cases h3
    · rw [hb2 j hj] at e; exact s.fro _ _ e
end
end GA
