/- Part 6 of a proof: Abs30, Abs31, S19, S20, S23, S25, S26, S27, S28. -/
import Derived.Test.YtlbdomhfcghjdaaP5
import Derived.WalkKit
import Derived.ProofKit
import Derived.OpenShut
import Derived.ChangeArms
import Derived.WideKeyArgs
import Derived.Deep.Slices
import Derived.Test.YtlbdomhfcghjdaaRows
section
namespace GA
open Go Go.RowKit Go.ChangeShapes Go.WideShapes
set_option linter.unusedVariables false

section
variable {P : Program} {W : World}

/-- Cells that read as some values, all memory being memory that stays. -/
def RepC (P : Program) (W : World) (qs : List AV) (cs : List Value) : Prop :=
  qs.length = cs.length ∧ (∀ a ∈ qs, a.one = true) ∧ ∀ (j : Nat) a, qs[j]? = some a → ∃ v, cs[j]? = some v ∧ Rep P (fun b => W.heap[b]?) (fun _ => undef) [] a v
theorem RepC.nil : RepC P W [] [] := ⟨rfl, by simp, by simp⟩
theorem RepC.app {qs bs : List AV} {cs ds : List Value} (h1 : RepC P W qs cs) (h2 : RepC P W bs ds) : RepC P W (qs ++ bs) (cs ++ ds) := by
  refine ⟨by simp [h1.1, h2.1], fun a ha => ?_, fun j a e => ?_⟩
  · rcases List.mem_append.1 ha with h | h
    · exact h1.2.1 a h
    · exact h2.2.1 a h
  · rcases Nat.lt_or_ge j qs.length with hj | hj
    · rw [List.getElem?_append_left hj] at e
      obtain ⟨v, e1, e2⟩ := h1.2.2 j a e
      exact ⟨v, by rw [List.getElem?_append_left (by rw [← h1.1]; exact hj)]; exact e1, e2⟩
    · rw [List.getElem?_append_right hj] at e
      obtain ⟨v, e1, e2⟩ := h2.2.2 _ a e
      exact ⟨v, by rw [List.getElem?_append_right (by rw [← h1.1]; exact hj), ← h1.1]; exact e1, e2⟩
theorem RepC.single {a : AV} {v : Value} (h0 : a.one = true) (h : Rep P (fun b => W.heap[b]?) (fun _ => undef) [] a v) : RepC P W [a] [v] := by
  refine ⟨rfl, by simpa using h0, fun j x e => ?_⟩
  cases j with
  | zero => simp at e; subst e; exact ⟨v, rfl, h⟩
  | succ j => simp at e

/-- What is read of a type's cells are cells of such values. -/
structure Opens (P : Program) (t : TypeId) (n : Nat) {A : Type} (f : A → List AV) : Prop where
  size : P.cellsOf t = n
  len : ∀ a, (f a).length = n
  go : ∀ (H : Type) (enc : TypeId × Value → H) (W : World) (fuel : Nat) (cs : List Value) (x : DataW H × List MemPlace), cs.length = n → DataW.trod enc P W 0 (fun _ => true) true fuel t cs = some x → ∃ a : A, RepC P W (f a) cs

theorem Opens.as {t : TypeId} {n : Nat} {A B : Type} {f : A → List AV} {g : B → List AV} (o : Opens P t n f) (h : ∀ a, ∃ b, g b = f a) (hl : ∀ b, (g b).length = n) : Opens P t n g :=
  ⟨o.size, hl, fun H enc W fuel cs x h1 h2 => let ⟨a, h3⟩ := o.go H enc W fuel cs x h1 h2; let ⟨b, h4⟩ := h a; ⟨b, h4 ▸ h3⟩⟩
theorem Opens.int {t : TypeId} {k : IntKind} (hu : P.underlying t = some (.int k)) (hc : P.cellsOf t = 1) : Opens P t 1 (fun a : {n : Int // k.min ≤ n ∧ n ≤ k.max} => [AV.int k a.1]) :=
  ⟨hc, fun _ => rfl, fun H enc W fuel cs x h1 h2 => by
    obtain ⟨n, rfl, _, hw⟩ := DataW.trod_int hu h2
    simp only [Lit.wf, Bool.and_eq_true, decide_eq_true_eq] at hw
    exact ⟨⟨n, hw⟩, .single rfl (.int k n)⟩⟩

theorem flat_un {els : List AV} {n : Nat} (h0 : 0 < n) (hw : ∀ e ∈ els, e.cells.length = n) : ∀ (k : Nat) x, (flat els)[k]? = some x → ∃ e, els[k / n]? = some e ∧ e.cells[k % n]? = some x := by
  induction els with
  | nil => intro k x e; simp [flat] at e
  | cons y els ih =>
    intro k x e
    have hy := hw y List.mem_cons_self
    have hfl : flat (y :: els) = y.cells ++ flat els := by simp [flat]
    rw [hfl] at e
    rcases Nat.lt_or_ge k n with hk | hk
    · rw [List.getElem?_append_left (by omega)] at e
      exact ⟨y, by rw [Nat.div_eq_of_lt hk]; rfl, by rw [Nat.mod_eq_of_lt hk]; exact e⟩
    · rw [List.getElem?_append_right (by omega), hy] at e
      obtain ⟨z, h1, h2⟩ := ih (fun e he => hw e (List.mem_cons_of_mem _ he)) (k - n) x e
      have e1 : k / n = (k - n) / n + 1 := Nat.div_eq_sub_div h0 hk
      have e2 : k % n = (k - n) % n := by rw [Nat.mod_eq_sub_mod hk]
      exact ⟨z, by rw [e1]; exact h1, by rw [e2]; exact h2⟩

theorem cell_heap {a : Addr} {v : Value} (h : W.cell? a = some v) : ∃ c t fz, W.heap[a.block]? = some (.cells c t fz) ∧ a.spot = none ∧ c[a.off]? = some v := by
  unfold World.cell? at h
  split at h
  · rename_i c t fz hh
    split at h
    · cases h
    · rename_i hs; exact ⟨c, t, fz, hh, by simpa using hs, h⟩
  · cases h
theorem add_block (a : Addr) (i : Nat) : (a.add i).block = a.block := by unfold Addr.add; split <;> rfl
theorem add_off (a : Addr) (i : Nat) : (a.add i).off = a.off + i := by
  unfold Addr.add; split
  · rename_i h; simp [h]
  · rfl
theorem add_zero (a : Addr) : a.add 0 = a := by unfold Addr.add; rw [if_pos rfl]
theorem Opens.slice {t e : TypeId} {n : Nat} {A : Type} {f : A → List AV} (hu : P.underlying t = some (.slice e)) (hc : P.cellsOf t = 1) (o : Opens P e n f) (hn : 0 < n) (mk : A → AV) (hmk : ∀ a, (mk a).cells = f a) :
    Opens P t 1 (fun p : {p : Bool × List A // (p.1 = true → p.2 = []) ∧ p.2.length ≤ maxLen} => [AV.sl p.1.1 (p.1.2.map mk)]) := by
  refine ⟨hc, fun _ => rfl, fun H enc W fuel cs x h1 h2 => ?_⟩
  rcases Go.Deep.open_slice hu h2 with ⟨rfl, rfl⟩ | ⟨a, len, cap, m, nf, D, Pl, rfl, hb, hl, hm, hmd, hx, hel⟩
  · exact ⟨⟨(true, []), fun _ => rfl, by simp⟩, .single rfl .slnil⟩
  · rw [if_pos rfl] at hmd
    subst hmd
    rw [o.size] at hel
    rcases Nat.eq_zero_or_pos len with h0 | h0
    · subst h0
      exact ⟨⟨(false, []), fun h => rfl, by simp⟩, .single rfl .slemp⟩
    · have hex : ∀ i, i < len → ∃ (y : A) (cs' : List Value), W.cells? 0 (a.add (i * n)) n = some cs' ∧ RepC P W (f y) cs' := by
        intro i hi
        obtain ⟨cs', h3, h4⟩ := hel i (by omega)
        obtain ⟨y, hy⟩ := o.go H enc W nf cs' _ (World.cells?_some h3).2.1 h4
        exact ⟨y, cs', h3, hy⟩
      classical
      let ys : Nat → A := fun i => if h : i < len then Classical.choose (hex i h) else Classical.choose (hex 0 h0)
      have hys : ∀ i, i < len → ∃ cs', W.cells? 0 (a.add (i * n)) n = some cs' ∧ RepC P W (f (ys i)) cs' := fun i hi => by
        simp only [ys, dif_pos hi]; exact Classical.choose_spec (hex i hi)
      refine ⟨⟨(false, (List.range len).map ys), (fun h => by cases h), (by simp only [List.length_map, List.length_range]; omega)⟩, .single rfl ?_⟩
      dsimp only
      obtain ⟨cs0, hc0, hr0⟩ := hys 0 h0
      have hcell := (World.cells?_some hc0).2.2 0 hn
      have hcl := (World.cells?_some hc0).2.1
      rw [List.getElem?_eq_getElem (by omega), Nat.zero_mul, add_zero, add_zero] at hcell
      obtain ⟨c, ty, fz, hh, hsp, _⟩ := cell_heap hcell
      obtain ⟨b, off, sp⟩ := a
      have hsp : sp = none := hsp
      subst hsp
      have hw : ∀ e ∈ ((List.range len).map ys).map mk, e.cells.length = n := by
        intro e he
        simp only [List.mem_map] at he
        obtain ⟨y, _, rfl⟩ := he
        rw [hmk]; exact o.len y
      have key : ∀ (j : Nat) x, (flat (((List.range len).map ys).map mk))[j]? = some x → ∃ v, c[off + j]? = some v ∧ Rep P (fun b => W.heap[b]?) (fun _ => undef) [] x v ∧ x.one = true := by
        intro j x e
        obtain ⟨el, e1, e2⟩ := flat_un hn hw j x e
        simp only [List.getElem?_map] at e1
        cases hr : (List.range len)[j / n]? with
        | none => simp [hr] at e1
        | some i =>
          obtain ⟨hi, hi2⟩ := List.getElem?_eq_some_iff.1 hr
          have hie : i = j / n := by simpa using hi2.symm
          have hil : j / n < len := by simpa using hi
          simp only [hr, Option.map_some, Option.some.injEq] at e1
          subst e1
          rw [hmk] at e2
          subst hie
          obtain ⟨cs', h3, h4⟩ := hys _ hil
          obtain ⟨v, h5, h6⟩ := h4.2.2 _ _ e2
          have h7 := (World.cells?_some h3).2.2 (j % n) (Nat.mod_lt _ hn)
          rw [h5] at h7
          obtain ⟨c', ty', fz', h8, _, h9⟩ := cell_heap h7
          rw [add_block, add_block] at h8
          rw [add_off, add_off] at h9
          rw [h8] at hh; cases hh
          refine ⟨v, ?_, h6, h4.2.1 x (List.mem_of_getElem? e2)⟩
          have : off + j / n * n + j % n = off + j := by have := Nat.div_add_mod j n; rw [Nat.mul_comm] at this; omega
          rw [this] at h9; exact h9
      refine .sl (w := n) (fun j => (c[off + j]?).getD undef) (by simp) (by simp; omega) hh hw hn (fun x hx => ?_) (by simp; omega) (fun j x e => ?_) (fun j x e => ?_)
      · obtain ⟨j, hj⟩ := mem_get hx
        obtain ⟨v, _, _, h⟩ := key j x hj; exact h
      · obtain ⟨v, h1, _⟩ := key j x e; rw [h1]; rfl
      · obtain ⟨v, h1, h2, _⟩ := key j x e; rw [h1]; exact h2

/-- The fields of a struct, from a place on. -/
structure OpensF (P : Program) (fs : List Field) (off n : Nat) {A : Type} (f : A → List AV) : Prop where
  len : ∀ a, (f a).length = n
  go : ∀ (H : Type) (enc : TypeId × Value → H) (W : World) (fuel : Nat) (cs : List Value), off + n = cs.length →
    (∀ fd ∈ fs, ∃ x, DataW.trod enc P W 0 (fun _ => true) true fuel fd.type ((cs.drop fd.offset).take (P.cellsOf fd.type)) = some x) → ∃ a : A, RepC P W (f a) (cs.drop off)
theorem OpensF.nil {off : Nat} : OpensF P [] off 0 (fun _ : Unit => []) :=
  ⟨fun _ => rfl, fun H enc W fuel cs h _ => ⟨(), by rw [List.drop_eq_nil_of_le (by omega)]; exact .nil⟩⟩
theorem OpensF.cons {fd : Field} {fs : List Field} {off n m : Nat} {A B : Type} {f : A → List AV} {g : B → List AV} (o : Opens P fd.type n f) (ho : fd.offset = off) (r : OpensF P fs (off + n) m g) : OpensF P (fd :: fs) off (n + m) (fun p : A × B => f p.1 ++ g p.2) := by
  refine ⟨fun p => by rw [List.length_append, o.len, r.len], fun H enc W fuel cs h hx => ?_⟩
  obtain ⟨x, h1⟩ := hx fd List.mem_cons_self
  rw [ho, o.size] at h1
  obtain ⟨a, ha⟩ := o.go H enc W fuel _ x (by rw [List.length_take, List.length_drop]; omega) h1
  obtain ⟨b, hb⟩ := r.go H enc W fuel cs (by omega) (fun fd' hf => hx fd' (List.mem_cons_of_mem _ hf))
  refine ⟨(a, b), ?_⟩
  have : cs.drop off = (cs.drop off).take n ++ cs.drop (off + n) := by
    conv => lhs; rw [← List.take_append_drop n (cs.drop off)]
    rw [List.drop_drop]
  rw [this]
  exact ha.app hb
theorem Opens.struct {t : TypeId} {fs : Array Field} {n : Nat} {A : Type} {f : A → List AV} (hu : P.underlying t = some (.struct fs)) (hc : P.cellsOf t = n) (o : OpensF P fs.toList 0 n f) : Opens P t n f := by
  refine ⟨hc, o.len, fun H enc W fuel cs x h1 h2 => ?_⟩
  obtain ⟨xs, k, rfl, rfl, h3, h4, h5⟩ := DataW.trod_struct hu h2
  obtain ⟨a, ha⟩ := o.go H enc W k cs (by omega) (fun fd hf => by
    obtain ⟨i, hi⟩ := List.mem_iff_getElem?.1 hf
    have hi' : fs[i]? = some fd := by simpa using hi
    have hlt := (Array.getElem?_eq_some_iff.1 hi').1
    exact ⟨xs[i]'(by omega), by rw [h5 i fd hi', List.getElem?_eq_getElem]⟩)
  exact ⟨a, by simpa using ha⟩
theorem Opens.array {t e : TypeId} {m n k : Nat} {A : Type} {f : A → List AV} (hu : P.underlying t = some (.array m e)) (hc : P.cellsOf t = k) (hk : k = m * n) (o : Opens P e n f) : Opens P t k (fun l : {l : List A // l.length = m} => l.1.flatMap f) := by
  have hlen : ∀ l : List A, (l.flatMap f).length = l.length * n := fun l => by
    induction l with
    | nil => simp
    | cons x l ih => rw [List.flatMap_cons, List.length_append, o.len, ih, List.length_cons, Nat.add_mul]; omega
  refine ⟨hc, fun l => by rw [hlen, l.2, hk], fun H enc W fuel cs x h1 h2 => ?_⟩
  obtain ⟨xs, q, rfl, rfl, h3, h4, h5⟩ := DataW.trod_array hu h2
  rw [o.size] at h5
  have go : ∀ j, j ≤ m → ∃ l : List A, l.length = j ∧ RepC P W (l.flatMap f) (cs.drop ((m - j) * n)) := by
    intro j
    induction j with
    | zero => intro _; exact ⟨[], rfl, by rw [Nat.sub_zero, List.drop_eq_nil_of_le (by rw [h1, hk]; exact Nat.le_refl _)]; exact .nil⟩
    | succ j ih =>
      intro hj
      obtain ⟨l, hl, hr⟩ := ih (by omega)
      have e1 : (m - j) * n = (m - (j + 1)) * n + n := by rw [show m - j = m - (j + 1) + 1 by omega, Nat.add_mul]; omega
      have hle : (m - (j + 1)) * n + n ≤ cs.length := by
        rw [h1, hk, ← e1]; exact Nat.mul_le_mul_right _ (by omega)
      have h6 := h5 (m - (j + 1)) (by omega)
      rw [List.getElem?_eq_getElem (by omega)] at h6
      obtain ⟨a, ha⟩ := o.go H enc W q _ _ (by rw [List.length_take, List.length_drop]; omega) h6
      refine ⟨a :: l, by simp [hl], ?_⟩
      have : cs.drop ((m - (j + 1)) * n) = (cs.drop ((m - (j + 1)) * n)).take n ++ cs.drop ((m - j) * n) := by
        conv => lhs; rw [← List.take_append_drop n (cs.drop ((m - (j + 1)) * n))]
        rw [List.drop_drop, e1]
      rw [this, List.flatMap_cons]
      exact ha.app hr
  obtain ⟨l, hl, hr⟩ := go m (Nat.le_refl _)
  exact ⟨⟨l, hl⟩, by simpa using hr⟩

/-- An argument of one cell, and one of a struct. -/
theorem Opens.arg {H : Type} {enc : TypeId × Value → H} {t : TypeId} {A : Type} {g : A → AV} {v : Value} {d : DataW H} {ps : List MemPlace} (o : Opens P t 1 (fun a => [g a])) (hv : v.cells = #[v]) (h : DataW.Trod enc P W 0 (fun _ => true) true t v d ps) :
    ∃ a, Rep P (fun b => W.heap[b]?) (fun _ => undef) [] (g a) v := by
  obtain ⟨fuel, hf⟩ := h
  obtain ⟨a, ha⟩ := o.go H enc W fuel v.cells.toList _ (by rw [hv]; rfl) hf
  obtain ⟨u, h1, h2⟩ := ha.2.2 0 (g a) rfl
  rw [hv] at h1; simp at h1; subst h1
  exact ⟨a, h2⟩
/-- What is known of the world at first: all memory stays. -/
theorem SR.start (W : World) : SR P ⟨World.env W, fun _ => none, fun _ => none⟩ (fun b => W.heap[b]?) (fun _ => undef) [] W :=
  ⟨rfl, fun _ _ h => h, by simp, fun i j x e => by simp [blkOf] at e, fun i x e => by simp [blkOf] at e, by simp, fun i x e => by simp [blkOf] at e⟩
/-- A law that holds, run in a world. -/
theorem Comp.law {f : FuncId} {rs : List AV} (x : Comp P f rs (.bool true)) {args : Array Value} (hr : RepL P (fun b => W.heap[b]?) (fun _ => undef) [] rs args.toList) :
    Calls P f args W fun e W' => e = .returned (.bool true) ∧ World.env W' = World.env W ∧ ∀ (b : Nat) o, W.heap[b]? = some o → W'.heap[b]? = some o := by
  have h := (x.o.2 _ _ _ W args.toList (SR.start W) hr).calls (fun _ _ hd => by cases hd)
  have e : args.toList.toArray = args := by simp
  rw [e] at h
  refine h.mono ?_
  rintro e w' ⟨r, H', h', β', v, rfl, ⟨rfl, rfl⟩, X, s', hv⟩
  cases hv
  exact ⟨rfl, s'.env, fun b o hb => s'.imm b o (X.imm b o hb)⟩
theorem keptBut_of {W' : World} {may : MemPlace → Prop} (he : World.env W' = World.env W) (hk : ∀ (b : Nat) o, W.heap[b]? = some o → W'.heap[b]? = some o) : W.keptBut W' may := by
  refine ⟨congrArg Env0.os he, congrArg Env0.out he, fun i hi => ?_⟩
  have h1 : W.heap[i]? = some W.heap[i] := Array.getElem?_eq_getElem hi
  have h2 := hk i _ h1
  rw [h1, h2]
  generalize W.heap[i] = o
  cases o <;> simp
theorem trodAll_stays {H : Type} {enc : TypeId × Value → H} (hl : laidOutB P = true) {W' : World} {sp' : Nat → Bool} (hk : ∀ (b : Nat) o, W.heap[b]? = some o → W'.heap[b]? = some o) (hwt : ∀ p, (∃ o, W.heap[MemPlace.block p]? = some o) → sp' p.block = true) :
    ∀ {ts : List TypeId} {vs : List Value} {ds : List (DataW H)} {ps : List MemPlace}, (∀ t ∈ ts, P.readableRec t = true ∧ t < P.types.size) → (∀ p ∈ ps, ∃ o, W.heap[MemPlace.block p]? = some o) → DataW.TrodAll enc P W 0 (fun _ => true) true ts vs ds ps → DataW.TrodAll enc P W' 0 sp' true ts vs ds ps
  | [], vs, ds, ps, _, _, h => by obtain ⟨rfl, rfl, rfl⟩ := trodAll_nil h; rfl
  | t :: ts, vs, ds, ps, ht, hp, h => by
    obtain ⟨v, vs1, d, ds1, p, q, rfl, rfl, rfl, h1, h2⟩ := trodAll_cons h
    have ht0 := ht t List.mem_cons_self
    refine ⟨p, q, Go.WideElems.Trod_stays hl ht0.1 ht0.2 h1 (fun x hx => ?_) (fun x hx => hwt x (hp x (List.mem_append_left _ hx))), trodAll_stays hl hk hwt (fun t' h' => ht t' (List.mem_cons_of_mem _ h')) (fun x hx => hp x (List.mem_append_right _ hx)) h2, rfl⟩
    obtain ⟨o, ho⟩ := hp x (List.mem_append_left _ hx)
    cases x with
    | cell b off => simp only [World.sameAt, World.cell?, MemPlace.block] at ho ⊢; rw [ho, hk _ _ ho]
    | map b => simp only [World.sameAt, MemPlace.block] at ho ⊢; rw [ho, hk _ _ ho]
/-- A law's promise, when it has returned true and changed nothing. -/
theorem post_true {H : Type} {enc : TypeId × Value → H} {fn : Func} {s : ChangeSpec} {tb : TypeId} {W' : World} {args : Array Value} {ds gs : List (DataW H)} {before : List MemPlace}
    (ht : fn.resultTypes = #[tb]) (hu : P.underlying tb = some .bool) (hl : laidOutB P = true) (hr : ∀ t ∈ fn.params.toList, P.readableRec t = true ∧ t < P.types.size) (hv : s.vars = [])
    (hW : DataW.Whole enc P fn.params.toList s.vars false W args.toList ds gs before) (hs : gs = [] → s.fn H (ds ++ gs) = { results := [.lit (.bool true)], args := ds })
    (he : World.env W' = World.env W) (hk : ∀ (b : Nat) o, W.heap[b]? = some o → W'.heap[b]? = some o) : s.post enc P fn false true false false W args (.bool true) W' := by
  have hW' := hW
  obtain ⟨p, q, hA, hV, hb, hz, _⟩ := hW
  rw [hv] at hV
  obtain ⟨rfl, rfl⟩ := trodVars_none hV
  rw [List.append_nil] at hb
  subst hb
  have hs := hs rfl
  have hlt : ∀ x ∈ before, ∃ o, W.heap[MemPlace.block x]? = some o := fun x hx => ⟨_, Array.getElem?_eq_getElem (hW'.lt x hx)⟩
  refine ⟨ds, [], before, [], before, [], hW', ?_, ?_, ?_, keptBut_of he hk, fun h => by cases h⟩
  · rw [hs, ht]
    exact trodAll_cons_mk (shut_bool hu _) trodAll_mk0
  · rw [hs]
    exact trodAll_stays hl hk (fun x ⟨o, ho⟩ => by simpa using (Array.getElem?_eq_some_iff.1 ho).1) hr hlt hA
  · rw [hv, hs]; rfl
end
end GA
end

section
namespace GA
open Go Go.RowKit
set_option linter.unusedVariables false
set_option linter.unusedSimpArgs false

section
variable {P : Program} {T : Tab} {N : Nat} {ρ : Option Nat} {own : List Nat} {E : Env} {h h' : Nat → Option Obj} {β β' : Nat → Value} {H H' Hn : List Blk} {w w' : World} {σ : St} {D : List Nat}

/-- A function on values that are not its own, that comes to one value in new memory. -/
structure Gives (P : Program) (f : FuncId) (rs : List AV) (r : AV) (Hn : List Blk) : Prop where
  lo : lowL 0 rs = true
  lr : r.low Hn.length = true
  lH : ∀ x ∈ Hn, x.low Hn.length = true
  o : ACall P f rs [] fun r' H' => r' = r ∧ H' = Hn

/-- New memory beside one's own. -/
theorem SR.beside (s : SR P E h β H w) {E' : Env} (hb : E'.b = E.b) (h1 : ∀ i b, blkOf β H i = some b → E'.fr b = w.heap[b]?) (h2 : ∀ b, (∀ i, blkOf β H i ≠ some b) → E'.fr b = E.fr b)
    (X : Ext h β [] h' β' Hn) (s' : SR P E' h' β' Hn w') (lo : ∀ x ∈ Hn, x.low Hn.length = true) :
    ∃ β'', Ren (H.length + ·) β' Hn β'' (H ++ Hn.map (Blk.ren (H.length + ·))) ∧ Ext h β H h' β'' (H ++ Hn.map (Blk.ren (H.length + ·))) ∧ SR P E h' β'' (H ++ Hn.map (Blk.ren (H.length + ·))) w' := by
  let β'' : Nat → Value := fun i => if i < H.length then β i else β' (i - H.length)
  have b1 : ∀ i, i < H.length → β'' i = β i := fun i hi => if_pos hi
  have b2 : ∀ i, β'' (H.length + i) = β' i := fun i => by
    show (if H.length + i < H.length then β (H.length + i) else β' (H.length + i - H.length)) = β' i
    rw [if_neg (by omega)]; congr 1; omega
  have R : Ren (H.length + ·) β' Hn β'' (H ++ Hn.map (Blk.ren (H.length + ·))) := by
    refine ⟨fun i x e => ?_, fun i hi => b2 i⟩
    rw [List.getElem?_append_right (by omega), List.getElem?_map, show H.length + i - H.length = i by omega, e]; rfl
  have hlow : ∀ i, i < H.length → (H ++ Hn.map (Blk.ren (H.length + ·)))[i]? = H[i]? := fun i hi => List.getElem?_append_left hi
  have X' : Ext h β H h' β'' (H ++ Hn.map (Blk.ren (H.length + ·))) := by
    refine ⟨X.imm, by simp, fun i x x' e e' => ?_⟩
    have hi := (List.getElem?_eq_some_iff.1 e).1
    rw [hlow i hi, e] at e'; cases e'
    have := Blk.to_refl β i x
    cases x <;> first | exact rfl | trivial | (simp only [Blk.to, b1 i hi] at this ⊢; exact this)
  have o1 : ∀ i, i < H.length → blkOf β'' (H ++ Hn.map (Blk.ren (H.length + ·))) i = blkOf β H i := fun i hi => by
    unfold blkOf; rw [hlow i hi, b1 i hi]
  have o2 : ∀ i, i < Hn.length → blkOf β'' (H ++ Hn.map (Blk.ren (H.length + ·))) (H.length + i) = blkOf β' Hn i := fun i hi => R.blkOf hi
  have hsplit : ∀ i x, blkOf β'' (H ++ Hn.map (Blk.ren (H.length + ·))) i = some x → (i < H.length ∧ blkOf β H i = some x) ∨ ∃ j, j < Hn.length ∧ i = H.length + j ∧ blkOf β' Hn j = some x := by
    intro i x e
    have hi := (blkOf_some e).1
    simp only [List.length_append, List.length_map] at hi
    by_cases hlt : i < H.length
    · exact .inl ⟨hlt, by rw [← o1 i hlt]; exact e⟩
    · refine .inr ⟨i - H.length, by omega, by omega, ?_⟩
      rw [← o2 _ (by omega), show H.length + (i - H.length) = i by omega]; exact e
  have hclash : ∀ i j b, blkOf β H i = some b → blkOf β' Hn j = some b → False := by
    intro i j b e1 e2
    have h3 := s'.fro j b e2
    rw [h1 i b e1, Array.getElem?_eq_getElem (s.lt e1)] at h3
    cases h3
  have hkeep : ∀ i b, blkOf β H i = some b → w'.heap[b]? = w.heap[b]? ∧ h' b = none := by
    intro i b e
    have hlt := s.lt e
    have e1 : E'.fr b = some w.heap[b] := by rw [h1 i b e, Array.getElem?_eq_getElem hlt]
    obtain ⟨e2, e3⟩ := s'.frm b _ e1
    exact ⟨by rw [e2, Array.getElem?_eq_getElem hlt], e3⟩
  refine ⟨β'', R, X', s'.env.trans hb, s'.imm, fun i x e => ?_, fun i j x e1 e2 => ?_, fun i x e => ?_, fun b o e => ?_, fun i x e => ?_⟩
  · by_cases hlt : i < H.length
    · rw [hlow i hlt] at e
      exact (s.blk i x e).keep X' (b1 i hlt) fun hd hd' b hb => (hkeep i b (by unfold blkOf; rw [e]; cases x <;> first | exact absurd rfl hd | exact absurd rfl hd' | exact hb)).1
    · have hi := (List.getElem?_eq_some_iff.1 e).1
      simp only [List.length_append, List.length_map] at hi
      rw [List.getElem?_append_right (by omega), List.getElem?_map] at e
      obtain ⟨y, hy, rfl⟩ := Option.map_eq_some_iff.1 e
      have := R.blk (i := i - H.length) (by omega) (s'.blk _ _ hy)
      simp only at this
      rwa [show H.length + (i - H.length) = i by omega] at this
  · rcases hsplit i x e1 with ⟨_, a1⟩ | ⟨i', _, rfl, a1⟩ <;> rcases hsplit j x e2 with ⟨_, a2⟩ | ⟨j', _, rfl, a2⟩
    · exact s.own _ _ _ a1 a2
    · exact (hclash _ _ _ a1 a2).elim
    · exact (hclash _ _ _ a2 a1).elim
    · rw [s'.own _ _ _ a1 a2]
  · rcases hsplit i x e with ⟨_, a1⟩ | ⟨i', _, rfl, a1⟩
    · exact (hkeep i x a1).2
    · exact s'.fresh _ _ a1
  · by_cases hh : ∃ i, blkOf β H i = some b
    · obtain ⟨i, hi⟩ := hh
      rw [s.fro _ _ hi] at e; cases e
    · exact s'.frm b o (by rw [h2 b (fun i hi => hh ⟨i, hi⟩)]; exact e)
  · rcases hsplit i x e with ⟨_, a1⟩ | ⟨j, _, rfl, a1⟩
    · exact s.fro _ _ a1
    · have h3 := s'.fro _ _ a1
      rw [h2 x (fun i hi => hclash _ _ _ hi a1)] at h3
      exact h3

/-- What is given may be read alone. -/
theorem Gives.comp {f : FuncId} {rs : List AV} {r r0 : AV} (x : Gives P f rs r Hn) (hf : Froz P Hn r r0) : Comp P f rs r0 := by
  refine ⟨x.lo, x.o.1, fun E h β w vs s hr => ?_⟩
  refine (x.o.2 E h β w vs s hr).mono ?_
  rintro e w' ⟨r1, H1, h', β', v, rfl, ⟨rfl, rfl⟩, X, s', hrep⟩
  refine ⟨r0, [], hall h' β' H1 w', β, v, rfl, ⟨rfl, rfl⟩, ⟨fun b o e => hall_imm s' (X.imm b o e), Nat.le_refl _, fun i x x' e => by simp at e⟩, ?_, (hf _ _ _ _ s' v hrep).none⟩
  have s2 := s'.all
  exact ⟨s2.env, s2.imm, fun i x e => by simp at e, fun i j x e => by simp [blkOf] at e, fun i x e => by simp [blkOf] at e, s2.frm, fun i x e => by simp [blkOf] at e⟩

/-- The end of a function that gives new memory: some of its own blocks, in the order of a list. -/
def SelR (f : Nat → Nat) (H : List Blk) : Nat → List Blk → Prop
  | _, [] => True
  | i, x :: l => lget H (f i) = some (x.ren f) ∧ SelR f H (i + 1) l
theorem SelR.get {f : Nat → Nat} {H : List Blk} : ∀ {l : List Blk} {i : Nat}, SelR f H i l → ∀ (j : Nat) x, l[j]? = some x → lget H (f (i + j)) = some (x.ren f)
  | [], _, _, j, x, e => by simp at e
  | y :: l, i, h, 0, x, e => by simp at e; subst e; exact h.1
  | y :: l, i, h, j + 1, x, e => by
    have := SelR.get h.2 j x (by simpa using e)
    rwa [Nat.add_right_comm] at this
structure XGive (H : List Blk) (r' r : AV) (Hn : List Blk) : Prop where
  o : ∃ l : List Nat, l.length = Hn.length ∧ l.Nodup ∧ SelR (rnF l) H 0 Hn ∧ r' = r.ren (rnF l)
theorem XGive.mk' {H : List Blk} {r' r : AV} {Hn : List Blk} (l : List Nat) (h1 : l.length = Hn.length) (h2 : l.Nodup) (h3 : SelR (rnF l) H 0 Hn) (h4 : r' = r.ren (rnF l)) : XGive H r' r Hn := ⟨l, h1, h2, h3, h4⟩
theorem Gives.body {f : FuncId} {fn : Func} {c : Code} {rs : List AV} {res : List ResultVar} {r : AV} (ok : TabOk P T) (own : List Nat) (hf : P.funcs[f]? = some fn) (hb : fn.body = some c) (hn : (fn.name == "runtime.NumGoroutine") = false)
    (hN : fn.ntmps = N) (hr : fn.results = res.toArray) (hl : rs.length ≤ N) (lo : lowL 0 rs = true) (lr : r.low Hn.length = true) (lH : ∀ x ∈ Hn, x.low Hn.length = true)
    (x : XRun P T N none own c (XIn T res fun r' H' => XGive H' r' r Hn) [] (argX rs) []) : Gives P f rs r Hn := by
  refine ⟨lo, lr, lH, ?_⟩
  obtain ⟨h1, h2⟩ := ACall.inl ok own hf hb hn hN hr hl x
  refine ⟨h1, fun E h β w vs s hrs => (h2 E h β w vs s hrs).mono ?_⟩
  rintro e w' ⟨r', H', h', β', v, rfl, ⟨l, g1, g2, g3, g4⟩, X, s', hrep⟩
  have inj : ∀ i j, i < Hn.length → j < Hn.length → rnF l i = rnF l j → i = j := by
    intro i j hi hj e
    unfold rnF at e
    rw [lget_eq, lget_eq, List.getElem?_eq_getElem (by omega), List.getElem?_eq_getElem (by omega)] at e
    exact (List.getElem_inj g2).1 e
  have R : Ren (rnF l) (fun i => β' (rnF l i)) Hn β' H' := ⟨fun i x e => by
    have := g3.get i x e
    rw [Nat.zero_add, lget_eq] at this; exact this, fun _ _ => rfl⟩
  exact ⟨r, Hn, h', _, v, rfl, ⟨rfl, rfl⟩, ⟨X.imm, Nat.zero_le _, fun i x x' e => by simp at e⟩, R.sr s' inj lH, R.unrep hrep g4.symm lr⟩

/-- A slice in a cell that is nil may as well be one of one's own. -/
theorem Walk.nilcell {c : Code} {Q : Post} (j o : Nat) (te : TypeId) {cs : List AV} (hj : lget H j = some (.cells cs)) (hc : lget cs o = some (.sl true [])) (x : Walk P N ρ c Q D σ (H.set j (.cells (cs.set o (.gr H.length 0))) ++ [.grow te true []])) : Walk P N ρ c Q D σ H := by
  constructor
  intro E h β a w s
  rw [lget_eq] at hj hc
  have hlt := (List.getElem?_eq_some_iff.1 hj).1
  have hlo := (List.getElem?_eq_some_iff.1 hc).1
  obtain ⟨s1, X1⟩ := s.sr.push (w' := w) s.sr.env (fun _ _ => rfl) (.slice none 0 0) (.grow te true []) (by intro b hb; simp [anchor] at hb) (fun _ => .inl ⟨rfl, rfl, by simp [upb]⟩)
  have hj1 : (H ++ [Blk.grow te true []])[j]? = some (.cells cs) := by rw [List.getElem?_append_left hlt]; exact hj
  obtain ⟨s2, X2⟩ := s1.modify (β' := upb β H.length (.slice none 0 0)) (w' := w) (x' := .cells (cs.set o (.gr H.length 0))) hj1 (fun _ _ => rfl) (.inr ⟨_, rfl, rfl⟩) s1.env (fun _ _ _ => rfl) (fun b e => .inl (by unfold blkOf; rw [hj1]; exact e)) (fun X => by
    obtain ⟨b, c, t, h1, h2, h3, h4, us, h5, h6⟩ := s1.blk j _ hj1
    refine ⟨b, c, t, h1, h2, by rw [List.length_set]; exact h3, fun y hy => ?_, us, fun i y e => ?_, fun i y e => ?_⟩
    · rcases List.mem_or_eq_of_mem_set hy with hy | rfl
      · exact h4 y hy
      · rfl
    · by_cases hio : o = i
      · subst hio; exact h5 o _ hc
      · rw [List.getElem?_set_ne hio] at e; exact h5 i y e
    · by_cases hio : o = i
      · subst hio
        rw [List.getElem?_set_self hlo] at e; cases e
        have h7 := h6 o _ hc
        cases h : us o <;> rw [h] at h7 <;> cases h7
        refine .gr rfl ⟨_, by rw [List.getElem?_set_ne (by omega), List.getElem?_append_right (Nat.le_refl _), Nat.sub_self]; rfl, rfl⟩ fun t' nl els e => ?_
        rw [List.getElem?_set_ne (by omega), List.getElem?_append_right (Nat.le_refl _), Nat.sub_self] at e
        simp at e; obtain ⟨_, _, rfl⟩ := e
        exact ⟨Nat.le_refl _, fun _ => by simp [upb]⟩
      · rw [List.getElem?_set_ne hio] at e; exact X.rep (h6 i y e))
  rw [List.set_append_left _ _ hlt] at s2 X2
  exact wpIn_mono (x.o E h _ a w ⟨s2, fun u r e => let ⟨v, h1, h2⟩ := s.fits u r e; ⟨v, h1, (X1.trans X2).rep h2⟩, s.size, s.df.ext (X1.trans X2)⟩) fun _ _ _ => Conc.ext (X1.trans X2)

/-- Memory behind the first blocks, as memory that stays. -/
noncomputable def hallN (n : Nat) (h : Nat → Option Obj) (β : Nat → Value) (H : List Blk) (w : World) : Nat → Option Obj := by
  classical exact fun b => if ∃ i, n ≤ i ∧ blkOf β H i = some b then w.heap[b]? else h b
theorem hallN_own {n b i : Nat} (hi : n ≤ i) (e : blkOf β H i = some b) : hallN n h β H w b = w.heap[b]? := by
  unfold hallN; rw [if_pos ⟨i, hi, e⟩]
theorem hallN_imm {n : Nat} (s : SR P E h β H w) {b : Nat} {o : Obj} (e : h b = some o) : hallN n h β H w b = some o := by
  unfold hallN; split
  · rename_i hh; obtain ⟨i, _, hi⟩ := hh; rw [s.fresh _ _ hi] at e; cases e
  · exact e
theorem SR.allN {H1 l : List Blk} (s : SR P E h β (H1 ++ l) w) (lo : ∀ x ∈ H1, x.low H1.length = true) : SR P E (hallN H1.length h β (H1 ++ l) w) β H1 w := by
  have s1 := s.cut lo
  have hb : ∀ i, i < H1.length → blkOf β H1 i = blkOf β (H1 ++ l) i := fun i hi => by unfold blkOf; rw [List.getElem?_append_left hi]
  have hlt : ∀ {i x}, blkOf β H1 i = some x → i < H1.length := fun e => (blkOf_some e).1
  have X : Ext h β H1 (hallN H1.length h β (H1 ++ l) w) β H1 := ⟨fun b o e => hallN_imm s e, Nat.le_refl _, fun i x x' e e' => by rw [e] at e'; cases e'; exact Blk.to_refl _ _ _⟩
  refine ⟨s1.env, fun b o e => ?_, fun i x e => (s1.blk i x e).keep X rfl (fun _ _ _ _ => rfl), s1.own, fun i x e => ?_, fun b o e => ⟨(s.frm b o e).1, ?_⟩, s1.fro⟩
  · unfold hallN at e; split at e
    · exact e
    · exact s.imm b o e
  · have hi := hlt e
    unfold hallN; rw [if_neg]
    · exact s1.fresh i x e
    · rintro ⟨j, hj, hj2⟩
      have := s.own i j x (by rw [← hb i hi]; exact e) hj2
      omega
  · unfold hallN; rw [if_neg]
    · exact (s.frm b o e).2
    · rintro ⟨j, hj, hj2⟩
      rw [s.fro _ _ hj2] at e; cases e
/-- A value as it reads when the memory behind the first blocks stays as it is. -/
def FrozN (P : Program) (n : Nat) (H : List Blk) (r r' : AV) : Prop :=
  ∀ E h β w, SR P E h β H w → ∀ v, Rep P h β H r v → ∀ H1 : List Blk, Rep P (hallN n h β H w) β H1 r' v
def FrozNL (P : Program) (n : Nat) (H : List Blk) (rs rs' : List AV) : Prop := rs'.length = rs.length ∧ ∀ (j : Nat) x, rs'[j]? = some x → ∃ y, rs[j]? = some y ∧ FrozN P n H y x
theorem FrozN.low {n : Nat} {r : AV} (hl : r.low 0 = true) : FrozN P n H r r := by
  intro E h β w s v hr H1
  have h0 : Rep P h β [] r v := Rep.cut (H := []) (l := H) hr hl
  have X : Ext h β [] (hallN n h β H w) β [] := ⟨fun b o e => hallN_imm s e, Nat.le_refl _, by simp⟩
  exact (X.rep h0).none
theorem FrozNL.nil {n : Nat} : FrozNL P n H [] [] := ⟨rfl, by simp⟩
theorem FrozNL.cons {n : Nat} {r r' : AV} {rs rs' : List AV} (h1 : FrozN P n H r r') (h2 : FrozNL P n H rs rs') : FrozNL P n H (r :: rs) (r' :: rs') := by
  refine ⟨by simp [h2.1], fun j x e => ?_⟩
  cases j with
  | zero => simp at e; subst e; exact ⟨r, rfl, h1⟩
  | succ j => exact h2.2 j x (by simpa using e)
theorem FrozN.tup {n : Nat} {rs rs' : List AV} (hs : FrozNL P n H rs rs') : FrozN P n H (.tup rs) (.tup rs') := by
  intro E h β w s v hr H1
  cases hr with
  | tup us h1 h2 h3 =>
    refine .tup us (by rw [h1, hs.1]) (fun j x e => ?_) (fun j x e => ?_)
    · obtain ⟨y, e1, _⟩ := hs.2 j x e; exact h2 j y e1
    · obtain ⟨y, e1, e2⟩ := hs.2 j x e; exact e2 E h β w s _ (h3 j y e1) H1
theorem FrozN.agg {n : Nat} {rs rs' : List AV} (hone : ∀ x ∈ rs', x.one = true) (hs : FrozNL P n H rs rs') : FrozN P n H (.agg rs) (.agg rs') := by
  intro E h β w s v hr H1
  cases hr with
  | agg us h1 h0 h2 h3 =>
    refine .agg us (by rw [h1, hs.1]) hone (fun j x e => ?_) (fun j x e => ?_)
    · obtain ⟨y, e1, _⟩ := hs.2 j x e; exact h2 j y e1
    · obtain ⟨y, e1, e2⟩ := hs.2 j x e; exact e2 E h β w s _ (h3 j y e1) H1
theorem FrozN.grow {n i m : Nat} {t : TypeId} {nl : Bool} {els : List AV} (hi : n ≤ i) (hb : lget H i = some (.grow t nl els)) (hn : els.length = m) (hl : lowL 0 els = true) : FrozN P n H (.gr i m) (.sl nl els) := by
  have hb' := hb; rw [lget_eq] at hb'
  intro E h β w s v hr H1
  cases hr with
  | gr ho hlv hv =>
    obtain ⟨h1, h2⟩ := hv _ _ _ hb'
    have hβ := h2 hn
    subst hβ
    rcases s.blk i _ hb' with ⟨rfl, rfl, h3⟩ | ⟨rfl, rfl, b, h3⟩ | ⟨rfl, b, cap, c, h3, h4, h5, h6, h7, h8, h9, h10, h11, us, h12, h13⟩
    · rw [h3]; exact .slnil
    · rw [h3]; exact .slemp
    · rw [h3]
      cases els with
      | nil => exact .slemp
      | cons e0 l0 =>
        have hbo : blkOf β H i = some b := by simp only [blkOf, hb', h3, anchor]; rw [if_neg (by omega)]
        refine .sl us rfl (by simp) ((hallN_own hi hbo).trans h5) h10 h9 h11 h6 (fun j x e => ?_) (fun j x e => ?_)
        · rw [Nat.zero_add]; exact h12 j x e
        · exact FrozN.low (lowL_iff.1 (by rw [lowL_iff]; exact low_flat.1 hl) x (List.mem_of_getElem? e)) E h β w s _ (h13 j x e) H1

/-- The end of a function that changes the first blocks, which it was lent, and comes to a value in memory that it gives up. -/
structure XEnd (P : Program) (n : Nat) (H : List Blk) (r' r : AV) (H1 : List Blk) : Prop where
  o : H.take n = H1 ∧ H1.length = n ∧ (∀ x ∈ H1, x.low n = true) ∧ FrozN P n H r' r
theorem ACall.bodyN {f : FuncId} {fn : Func} {c : Code} {rs : List AV} {res : List ResultVar} {r : AV} {H1 : List Blk} {k : AV → List Blk → Prop} (ok : TabOk P T) (own : List Nat) (hf : P.funcs[f]? = some fn) (hb : fn.body = some c) (hn : (fn.name == "runtime.NumGoroutine") = false)
    (hN : fn.ntmps = N) (hr : fn.results = res.toArray) (hl : rs.length ≤ N) (hk : k r H1)
    (x : XRun P T N none own c (XIn T res fun r' H' => XEnd P H.length H' r' r H1) [] (argX rs) H) : ACall P f rs H k := by
  obtain ⟨h1, h2⟩ := ACall.inl ok own hf hb hn hN hr hl x
  refine ⟨h1, fun E h β w vs s hrs => (h2 E h β w vs s hrs).mono ?_⟩
  rintro e w' ⟨r', H', h', β', v, rfl, ⟨g1, g2, g3, g4⟩, X, s', hrep⟩
  have hH : H' = H1 ++ H'.drop H.length := by rw [← g1, List.take_append_drop]
  rw [hH] at s' X hrep g4
  have s2 := s'.allN (by rw [g2]; exact g3)
  have X2 : Ext h β H h' β' H1 := X.cut (by omega)
  rw [g2] at s2
  exact ⟨r, H1, _, β', v, rfl, hk, ⟨fun b o e => hallN_imm s' (X2.imm b o e), by omega, X2.to⟩, s2, g4 E h' β' w' s' v hrep H1⟩
end
end GA
end

section
namespace GA
open Go Go.RowKit Go.Proofs
set_option pp.deepTerms true
set_option maxRecDepth 8000
set_option linter.unusedVariables false
set_option linter.unusedSimpArgs false

def quoA (parts out : List Int) (i : Nat) : Int × Int := (parts.getD i 0, 2 * out.getD i 0 + 1)
def pq (parts out : List Int) (st : Nat × (Int × Int)) (i : Nat) : Nat × (Int × Int) :=
  if (st.2 = (0, 1) ∧ 0 < parts.getD i 0) ∨ aboveB (quoA parts out i) st.2 = true then (i, quoA parts out i) else st
def pqI (parts out : List Int) (i : Nat) : Nat × (Int × Int) := (List.range i).foldl (pq parts out) (0, (0, 1))
def whoR (parts out : List Int) : Nat := (pqI parts out 6).1
def shareStep (parts out : List Int) : List Int := out.set (whoR parts out) (out.getD (whoR parts out) 0 + 1)
def shareI (parts : List Int) : Nat → List Int
  | 0 => List.replicate 6 0
  | n + 1 => shareStep parts (shareI parts n)
theorem pqI_succ (parts out : List Int) (i : Nat) : pqI parts out (i + 1) = pq parts out (pqI parts out i) i := by
  unfold pqI; rw [List.range_succ, List.foldl_append]; rfl
def OutOk (n : Nat) (out : List Int) : Prop := out.length = 6 ∧ ∀ i, 0 ≤ out.getD i 0 ∧ out.getD i 0 ≤ n
theorem pqI_ok {parts out : List Int} {k : Nat} (hp : PartsOk 9 parts) (ho : OutOk k out) : ∀ i, i ≤ 6 → (pqI parts out i).1 < 6 ∧ (0 ≤ (pqI parts out i).2.1 ∧ (pqI parts out i).2.1 ≤ 900) ∧ (1 ≤ (pqI parts out i).2.2 ∧ (pqI parts out i).2.2 ≤ 2 * k + 1)
  | 0, _ => by simp [pqI]; omega
  | i + 1, h => by
    have ih := pqI_ok hp ho i (by omega)
    have a := hp.2 i
    have b := ho.2 i
    rw [pqI_succ]; unfold pq
    split
    · simp only [quoA]; omega
    · exact ih
theorem shareI_ok {parts : List Int} (hp : PartsOk 9 parts) : ∀ n, OutOk n (shareI parts n)
  | 0 => ⟨rfl, fun i => by
      show 0 ≤ (List.replicate 6 (0 : Int)).getD i 0 ∧ (List.replicate 6 (0 : Int)).getD i 0 ≤ _
      rw [List.getD_eq_getElem?_getD, List.getElem?_replicate]; split <;> simp⟩
  | n + 1 => by
    have ih := shareI_ok hp n
    refine ⟨by simp [shareI, shareStep, ih.1], fun i => ?_⟩
    have a := ih.2 i
    have b := ih.2 (whoR parts (shareI parts n))
    show 0 ≤ ((shareI parts n).set (whoR parts (shareI parts n)) ((shareI parts n).getD (whoR parts (shareI parts n)) 0 + 1)).getD i 0 ∧ ((shareI parts n).set (whoR parts (shareI parts n)) ((shareI parts n).getD (whoR parts (shareI parts n)) 0 + 1)).getD i 0 ≤ _
    rw [getD_set]
    split <;> omega
def shareE (l : Ld) (pay : Int) : Int := if checkR l ≠ 0 then checkR l else if inB pay 0 500 = false then 3 else if 0 < pay ∧ greatestR (partsR l) = 0 then 6 else 0
def shareG (l : Ld) (pay : Int) : AV × List Blk := if shareE l pay = 0 then (.tup [.gr 0 6, .int .i64 0], [.grow 3 false (ints (shareI (partsR l) pay.toNat))]) else (.tup [.sl true [], .int .i64 (shareE l pay)], [])
theorem shareG_low (l : Ld) (pay : Int) : (shareG l pay).1.low (shareG l pay).2.length = true ∧ ∀ x ∈ (shareG l pay).2, x.low (shareG l pay).2.length = true := by
  unfold shareG; split
  · exact ⟨rfl, fun x hx => by simp only [List.mem_cons, List.not_mem_nil, or_false] at hx; subst hx; exact lowI _⟩
  · exact ⟨rfl, fun x hx => by simp at hx⟩
theorem XGive.err {H : List Blk} {r : AV} (hr : r.low 0 = true) : XGive H r r [] := .mk' [] rfl (by simp) trivial (AV.ren_low0 hr).symm
theorem ren_grow (f : Nat → Nat) (t : TypeId) (nl : Bool) (xs : List Int) : (Blk.grow t nl (ints xs)).ren f = .grow t nl (ints xs) := Blk.ren_low (n := 0) (fun i hi => by omega) (lowI xs)
def shareR (l : Ld) (pay : Int) : AV := if shareE l pay = 0 then .tup [.sl false (ints (shareI (partsR l) pay.toNat)), .int .i64 0] else .tup [.sl true [], .int .i64 (shareE l pay)]
theorem share_g (l : Ld) (pay : Int) (o : LdW l) : Gives Try.prog 33 [ldA l, .int .i64 pay] (shareG l pay).1 (shareG l pay).2 := by
  refine Gives.body (T := tab) (res := [.tmp 4, .tmp 5]) tab_ok [] Try.func33 rfl (by kernel_rfl) Try.ntmps33 rfl (by simp only [List.length_cons, List.length_nil]; decide) (by simp only [lowL, AV.low, ldL]; rfl) (shareG_low l pay).1 (shareG_low l pay).2 ?_; conv => whnf
  refine XCall.ret (check_c l o.w o.h1 o.h2 o.h3) ?_
  conv => whnf
  repeat' first | ((with_reducible apply XBr.tt); conv => whnf) | ((with_reducible apply XBr.ff); conv => whnf) | (with_reducible apply XBr.not) | ((with_reducible apply XBr.dec) <;> (intro h; first | (exfalso; omega) | ((try simp only [List.length_map] at h); first | (exfalso; omega) | (conv => whnf)))) | ((with_reducible apply XBr.beq) <;> (intro h; first | (exfalso; omega) | (conv => whnf))) | ((with_reducible apply XBr.bne) <;> (intro h; first | (exfalso; omega) | (conv => whnf))) | ((with_reducible refine XInt.i64 (by omega) (by omega) ?_); conv => whnf) | ((with_reducible refine XHold.mk ?_ ?_); (first | omega | rfl | decide | exact ⟨rfl, by decide, rfl⟩ | exact wideI _ | exact widePr _ | exact wideSk _ | (unfold Room; constructor <;> ((try simp) <;> omega)) | exact ⟨rfl, by simp only [List.length_map], by unfold Room; constructor <;> ((try simp) <;> omega)⟩ | exact ⟨by omega, by omega, by unfold Room; constructor <;> ((try simp) <;> omega)⟩); conv => whnf) | ((with_reducible refine XIx.nat ?_ ?_ ?_); omega; (intro _; rfl); conv => whnf) | ((with_reducible refine XIx.map ?_ ?_ ?_ ?_); omega; omega; (intro _; rfl); conv => whnf) | (with_reducible apply XAnd.mk) | ((with_reducible apply Chk.go); conv => whnf) | ((with_reducible apply ChkA.go); conv => whnf) | ((with_reducible apply ChkF.go); conv => whnf) | ((with_reducible apply ChkB.go); conv => whnf) | (exact XSame.mk rfl rfl) | (exact XSame.mk (by first | rfl | (simp only [List.map_append, List.length_append, List.length_map]; done) | (simp only [List.map_append, List.length_append, List.length_map]; rfl)) (by first | rfl | (simp only [List.map_append]; done) | (simp only [List.map_append]; rfl))) | (with_reducible exact trivial) | ((with_reducible refine xdrop_app (by rw [List.length_map]; omega) ?_); conv => whnf) | ((with_reducible refine XArr.ints (by omega) (by omega) (by omega) ?_); conv => whnf) | ((with_reducible refine XArr.intsA (by omega) (by omega) (by omega) ?_); conv => whnf) | ((with_reducible refine XArr.nats ?_ ?_ ?_); omega; omega; conv => whnf) | ((with_reducible refine XArr.natsA ?_ ?_ ?_); omega; omega; conv => whnf) | ((with_reducible apply XArr.pim0); conv => whnf) | ((with_reducible apply XArr.pim1); conv => whnf) | ((with_reducible refine XArr.ptr ?_ ?_ ?_); omega; omega; conv => whnf) | (refine XCall.ret (in_c _ _ _) ?_; conv => whnf) | ((with_reducible apply XBr.mk') <;> (intro h; conv => whnf))
  · have he : shareE l pay = checkR l := by unfold shareE; rw [if_pos (by assumption)]
    unfold shareG; rw [if_neg (by rw [he]; assumption), he]; exact XGive.err rfl
  · rename_i h0
    have ok := (checkR_ok l).1 (by omega)
    have pk := parts_ok ok
    have hpart := parts_c l ok
    have hbd := h
    rw [inB_iff] at hbd
    have hres : shareG l pay = if 0 < pay ∧ greatestR (partsR l) = 0 then (.tup [.sl true [], .int .i64 6], []) else (.tup [.gr 0 6, .int .i64 0], [.grow 3 false (ints (shareI (partsR l) pay.toNat))]) := by
      have he : shareE l pay = if 0 < pay ∧ greatestR (partsR l) = 0 then 6 else 0 := by
        unfold shareE
        rw [if_neg (show ¬ checkR l ≠ 0 by omega), if_neg (by rw [h]; simp)]
      unfold shareG; rw [he]
      by_cases hc : 0 < pay ∧ greatestR (partsR l) = 0
      · rw [if_pos hc, if_pos hc]; rfl
      · rw [if_neg hc, if_neg hc]; rfl
    rw [hres]
    clear hres
    generalize partsR l = parts at pk hpart
    apply Walk.drawX tab_ok mixed_ok [] [2] (hsV _ [id, fun H => H ++ [.grow 3 false (ints (List.replicate 6 0))]]) [_, _, _, _, _] (by kernel_rfl) rfl
    · skip
      repeat' first | ((with_reducible apply XBr.tt); conv => whnf) | ((with_reducible apply XBr.ff); conv => whnf) | (with_reducible apply XBr.not) | ((with_reducible apply XBr.dec) <;> (intro h; first | (exfalso; omega) | ((try simp only [List.length_map] at h); first | (exfalso; omega) | (conv => whnf)))) | ((with_reducible apply XBr.beq) <;> (intro h; first | (exfalso; omega) | (conv => whnf))) | ((with_reducible apply XBr.bne) <;> (intro h; first | (exfalso; omega) | (conv => whnf))) | ((with_reducible refine XInt.i64 (by omega) (by omega) ?_); conv => whnf) | ((with_reducible refine XHold.mk ?_ ?_); (first | omega | rfl | decide | exact ⟨rfl, by decide, rfl⟩ | exact wideI _ | exact widePr _ | exact wideSk _ | (unfold Room; constructor <;> ((try simp) <;> omega)) | exact ⟨rfl, by simp only [List.length_map], by unfold Room; constructor <;> ((try simp) <;> omega)⟩ | exact ⟨by omega, by omega, by unfold Room; constructor <;> ((try simp) <;> omega)⟩); conv => whnf) | ((with_reducible refine XIx.nat ?_ ?_ ?_); omega; (intro _; rfl); conv => whnf) | ((with_reducible refine XIx.map ?_ ?_ ?_ ?_); omega; omega; (intro _; rfl); conv => whnf) | (with_reducible apply XAnd.mk) | ((with_reducible apply Chk.go); conv => whnf) | ((with_reducible apply ChkA.go); conv => whnf) | ((with_reducible apply ChkF.go); conv => whnf) | ((with_reducible apply ChkB.go); conv => whnf) | (exact XSame.mk rfl rfl) | (exact XSame.mk (by first | rfl | (simp only [List.map_append, List.length_append, List.length_map]; done) | (simp only [List.map_append, List.length_append, List.length_map]; rfl)) (by first | rfl | (simp only [List.map_append]; done) | (simp only [List.map_append]; rfl))) | (with_reducible exact trivial) | ((with_reducible refine xdrop_app (by rw [List.length_map]; omega) ?_); conv => whnf) | ((with_reducible refine XArr.ints (by omega) (by omega) (by omega) ?_); conv => whnf) | ((with_reducible refine XArr.intsA (by omega) (by omega) (by omega) ?_); conv => whnf) | ((with_reducible refine XArr.nats ?_ ?_ ?_); omega; omega; conv => whnf) | ((with_reducible refine XArr.natsA ?_ ?_ ?_); omega; omega; conv => whnf) | ((with_reducible apply XArr.pim0); conv => whnf) | ((with_reducible apply XArr.pim1); conv => whnf) | ((with_reducible refine XArr.ptr ?_ ?_ ?_); omega; omega; conv => whnf) | (refine XCall.ret hpart ?_; conv => whnf) | ((with_reducible apply XBr.mk') <;> (intro h; conv => whnf))
    · skip
      repeat' first | ((with_reducible apply XBr.tt); conv => whnf) | ((with_reducible apply XBr.ff); conv => whnf) | (with_reducible apply XBr.not) | ((with_reducible apply XBr.dec) <;> (intro h; first | (exfalso; omega) | ((try simp only [List.length_map] at h); first | (exfalso; omega) | (conv => whnf)))) | ((with_reducible apply XBr.beq) <;> (intro h; first | (exfalso; omega) | (conv => whnf))) | ((with_reducible apply XBr.bne) <;> (intro h; first | (exfalso; omega) | (conv => whnf))) | ((with_reducible refine XInt.i64 (by omega) (by omega) ?_); conv => whnf) | ((with_reducible refine XHold.mk ?_ ?_); (first | omega | rfl | decide | exact ⟨rfl, by decide, rfl⟩ | exact wideI _ | exact widePr _ | exact wideSk _ | (unfold Room; constructor <;> ((try simp) <;> omega)) | exact ⟨rfl, by simp only [List.length_map], by unfold Room; constructor <;> ((try simp) <;> omega)⟩ | exact ⟨by omega, by omega, by unfold Room; constructor <;> ((try simp) <;> omega)⟩); conv => whnf) | ((with_reducible refine XIx.nat ?_ ?_ ?_); omega; (intro _; rfl); conv => whnf) | ((with_reducible refine XIx.map ?_ ?_ ?_ ?_); omega; omega; (intro _; rfl); conv => whnf) | (with_reducible apply XAnd.mk) | ((with_reducible apply Chk.go); conv => whnf) | ((with_reducible apply ChkA.go); conv => whnf) | ((with_reducible apply ChkF.go); conv => whnf) | ((with_reducible apply ChkB.go); conv => whnf) | (exact XSame.mk rfl rfl) | (exact XSame.mk (by first | rfl | (simp only [List.map_append, List.length_append, List.length_map]; done) | (simp only [List.map_append, List.length_append, List.length_map]; rfl)) (by first | rfl | (simp only [List.map_append]; done) | (simp only [List.map_append]; rfl))) | (with_reducible exact trivial) | ((with_reducible refine xdrop_app (by rw [List.length_map]; omega) ?_); conv => whnf) | ((with_reducible refine XArr.ints (by omega) (by omega) (by omega) ?_); conv => whnf) | ((with_reducible refine XArr.intsA (by omega) (by omega) (by omega) ?_); conv => whnf) | ((with_reducible refine XArr.nats ?_ ?_ ?_); omega; omega; conv => whnf) | ((with_reducible refine XArr.natsA ?_ ?_ ?_); omega; omega; conv => whnf) | ((with_reducible apply XArr.pim0); conv => whnf) | ((with_reducible apply XArr.pim1); conv => whnf) | ((with_reducible refine XArr.ptr ?_ ?_ ?_); omega; omega; conv => whnf) | (refine XCall.ret hpart ?_; conv => whnf) | ((with_reducible apply XBr.mk') <;> (intro h; conv => whnf))
    · conv => whnf
      repeat' first | ((with_reducible apply XBr.tt); conv => whnf) | ((with_reducible apply XBr.ff); conv => whnf) | (with_reducible apply XBr.not) | ((with_reducible apply XBr.dec) <;> (intro h; first | (exfalso; omega) | ((try simp only [List.length_map] at h); first | (exfalso; omega) | (conv => whnf)))) | ((with_reducible apply XBr.beq) <;> (intro h; first | (exfalso; omega) | (conv => whnf))) | ((with_reducible apply XBr.bne) <;> (intro h; first | (exfalso; omega) | (conv => whnf))) | ((with_reducible refine XInt.i64 (by omega) (by omega) ?_); conv => whnf) | ((with_reducible refine XHold.mk ?_ ?_); (first | omega | rfl | decide | exact ⟨rfl, by decide, rfl⟩ | exact wideI _ | exact widePr _ | exact wideSk _ | (unfold Room; constructor <;> ((try simp) <;> omega)) | exact ⟨rfl, by simp only [List.length_map], by unfold Room; constructor <;> ((try simp) <;> omega)⟩ | exact ⟨by omega, by omega, by unfold Room; constructor <;> ((try simp) <;> omega)⟩); conv => whnf) | ((with_reducible refine XIx.nat ?_ ?_ ?_); omega; (intro _; rfl); conv => whnf) | ((with_reducible refine XIx.map ?_ ?_ ?_ ?_); omega; omega; (intro _; rfl); conv => whnf) | (with_reducible apply XAnd.mk) | ((with_reducible apply Chk.go); conv => whnf) | ((with_reducible apply ChkA.go); conv => whnf) | ((with_reducible apply ChkF.go); conv => whnf) | ((with_reducible apply ChkB.go); conv => whnf) | (exact XSame.mk rfl rfl) | (exact XSame.mk (by first | rfl | (simp only [List.map_append, List.length_append, List.length_map]; done) | (simp only [List.map_append, List.length_append, List.length_map]; rfl)) (by first | rfl | (simp only [List.map_append]; done) | (simp only [List.map_append]; rfl))) | (with_reducible exact trivial) | ((with_reducible refine xdrop_app (by rw [List.length_map]; omega) ?_); conv => whnf) | ((with_reducible refine XArr.ints (by omega) (by omega) (by omega) ?_); conv => whnf) | ((with_reducible refine XArr.intsA (by omega) (by omega) (by omega) ?_); conv => whnf) | ((with_reducible refine XArr.nats ?_ ?_ ?_); omega; omega; conv => whnf) | ((with_reducible refine XArr.natsA ?_ ?_ ?_); omega; omega; conv => whnf) | ((with_reducible apply XArr.pim0); conv => whnf) | ((with_reducible apply XArr.pim1); conv => whnf) | ((with_reducible refine XArr.ptr ?_ ?_ ?_); omega; omega; conv => whnf) | (refine XCall.ret (greatest_c _ parts (by have := pk.1; omega)) ?_; conv => whnf) | ((with_reducible apply XBr.mk') <;> (intro h; conv => whnf))
      · rename_i hg
        rw [if_pos ⟨by assumption, h⟩]; exact XGive.err rfl
      · rw [if_neg (fun hh => h hh.2)]
        have pkl := pk.1
        obtain ⟨pn, rfl⟩ := Int.eq_ofNat_of_zero_le hbd.1
        rw [Int.toNat_natCast]
        refine Walk.loopG tab_ok [] (fun k : Nat => k ≤ pn) (fun k => [(7, .sl false (ints parts)), (8, .gr 0 6), (33, natA pn), (34, natA k)])
          (fun k => [.grow 3 false (ints (shareI parts k))]) (fun k => pn - k) 0 (by omega) rfl ⟨rfl, rfl, rfl, rfl, trivial⟩ ?_ ?_ ?_
        · intro k _
          constructor
          · intro x hx; simp at hx; subst hx; exact lowI _
          · intro p hp; simp at hp; rcases hp with rfl | rfl | rfl | rfl <;> first | exact lowI _ | rfl
        · intro k _; simp
        intro k hk
        have ok := shareI_ok pk k
        have hnx : shareI parts (k + 1) = shareStep parts (shareI parts k) := rfl
        have hfin : k = pn → shareI parts pn = shareI parts k := fun h => by rw [h]
        generalize shareI parts k = out at ok hnx hfin
        have okl := ok.1
        conv => whnf
        repeat' first | ((with_reducible apply XBr.tt); conv => whnf) | ((with_reducible apply XBr.ff); conv => whnf) | (with_reducible apply XBr.not) | ((with_reducible apply XBr.dec) <;> (intro h; first | (exfalso; omega) | ((try simp only [List.length_map] at h); first | (exfalso; omega) | (conv => whnf)))) | ((with_reducible apply XBr.beq) <;> (intro h; first | (exfalso; omega) | (conv => whnf))) | ((with_reducible apply XBr.bne) <;> (intro h; first | (exfalso; omega) | (conv => whnf))) | ((with_reducible refine XInt.i64 (by omega) (by omega) ?_); conv => whnf) | ((with_reducible refine XHold.mk ?_ ?_); (first | omega | rfl | decide | exact ⟨rfl, by decide, rfl⟩ | exact wideI _ | exact widePr _ | exact wideSk _ | (unfold Room; constructor <;> ((try simp) <;> omega)) | exact ⟨rfl, by simp only [List.length_map], by unfold Room; constructor <;> ((try simp) <;> omega)⟩ | exact ⟨by omega, by omega, by unfold Room; constructor <;> ((try simp) <;> omega)⟩); conv => whnf) | ((with_reducible refine XIx.nat ?_ ?_ ?_); omega; (intro _; rfl); conv => whnf) | ((with_reducible refine XIx.map ?_ ?_ ?_ ?_); omega; omega; (intro _; rfl); conv => whnf) | (with_reducible apply XAnd.mk) | ((with_reducible apply Chk.go); conv => whnf) | ((with_reducible apply ChkA.go); conv => whnf) | ((with_reducible apply ChkF.go); conv => whnf) | ((with_reducible apply ChkB.go); conv => whnf) | (exact XSame.mk rfl rfl) | (exact XSame.mk (by first | rfl | (simp only [List.map_append, List.length_append, List.length_map]; done) | (simp only [List.map_append, List.length_append, List.length_map]; rfl)) (by first | rfl | (simp only [List.map_append]; done) | (simp only [List.map_append]; rfl))) | (with_reducible exact trivial) | ((with_reducible refine xdrop_app (by rw [List.length_map]; omega) ?_); conv => whnf) | ((with_reducible refine XArr.ints (by omega) (by omega) (by omega) ?_); conv => whnf) | ((with_reducible refine XArr.intsA (by omega) (by omega) (by omega) ?_); conv => whnf) | ((with_reducible refine XArr.nats ?_ ?_ ?_); omega; omega; conv => whnf) | ((with_reducible refine XArr.natsA ?_ ?_ ?_); omega; omega; conv => whnf) | ((with_reducible apply XArr.pim0); conv => whnf) | ((with_reducible apply XArr.pim1); conv => whnf) | ((with_reducible refine XArr.ptr ?_ ?_ ?_); omega; omega; conv => whnf) | ((with_reducible apply XBr.mk') <;> (intro h; conv => whnf))
        · skip
          refine Walk.loopG tab_ok [] (fun i : Nat => i ≤ 6) (fun i => [(7, .sl false (ints parts)), (8, .gr 0 6), (10, .ptr 1 0), (11, .ptr 2 0), (33, natA pn), (34, natA k), (38, .sl false (ints parts)), (39, .int .i64 6), (9, natA (pqI parts out i).1), (40, natA i)])
            (fun i => [.grow 3 false (ints out), .cells [.int .i64 0, .int .i64 1], .cells [.int .i64 (pqI parts out i).2.1, .int .i64 (pqI parts out i).2.2]]) (fun i => 6 - i) 0 (by omega) rfl
            ⟨rfl, rfl, rfl, rfl, rfl, rfl, rfl, congrArg (fun n : Nat => some (AV.int .i64 n)) (by rw [List.length_map, pkl]), rfl, rfl, trivial⟩ ?_ ?_ ?_
          · intro i _
            constructor
            · intro x hx; simp at hx; rcases hx with rfl | rfl | rfl <;> first | exact lowI _ | rfl
            · intro p hp; simp at hp; rcases hp with rfl | rfl | rfl | rfl | rfl | rfl | rfl | rfl | rfl | rfl <;> first | exact lowI _ | rfl
          · intro i _; simp
          intro i hi
          have sk := pqI_ok pk ok i hi
          have hpn := pqI_succ parts out i
          have hwho : i = 6 → whoR parts out = (pqI parts out i).1 := fun h => by rw [h]; rfl
          generalize pqI parts out i = st at sk hpn hwho
          obtain ⟨who, b1, b2⟩ := st
          dsimp only at sk hwho ⊢
          have hb : ([b1, b2] == [0, 1]) = true ↔ (b1, b2) = ((0 : Int), (1 : Int)) := by simp
          have pv := pk.2 i
          have ov := ok.2 i
          have pv2 : 0 ≤ parts.getD i default ∧ parts.getD i default ≤ 100 * 9 := pv
          have ov2 : 0 ≤ out.getD (i : Int).toNat default ∧ out.getD (i : Int).toNat default ≤ k := ov
          have ow2 : 0 ≤ out.getD (who : Int).toNat default ∧ out.getD (who : Int).toNat default ≤ k := ok.2 who
          have hyes : ((b1, b2) = ((0 : Int), (1 : Int)) ∧ 0 < parts.getD i default) ∨ aboveB (parts.getD i default, 2 * out.getD (i : Int).toNat default + 1) (b1, b2) = true → pqI parts out (i + 1) = (i, parts.getD i default, 2 * out.getD (i : Int).toNat default + 1) := fun h => by rw [hpn]; unfold pq; exact if_pos h
          have hno : ¬ (((b1, b2) = ((0 : Int), (1 : Int)) ∧ 0 < parts.getD i default) ∨ aboveB (parts.getD i default, 2 * out.getD (i : Int).toNat default + 1) (b1, b2) = true) → pqI parts out (i + 1) = (who, b1, b2) := fun h => by rw [hpn]; unfold pq; exact if_neg h
          conv => whnf
          repeat' first | ((with_reducible apply XBr.tt); conv => whnf) | ((with_reducible apply XBr.ff); conv => whnf) | (with_reducible apply XBr.not) | ((with_reducible apply XBr.dec) <;> (intro h; first | (exfalso; omega) | ((try simp only [List.length_map] at h); first | (exfalso; omega) | (conv => whnf)))) | ((with_reducible apply XBr.beq) <;> (intro h; first | (exfalso; omega) | (conv => whnf))) | ((with_reducible apply XBr.bne) <;> (intro h; first | (exfalso; omega) | (conv => whnf))) | ((with_reducible refine XInt.i64 (by omega) (by omega) ?_); conv => whnf) | ((with_reducible refine XHold.mk ?_ ?_); (first | omega | rfl | decide | exact ⟨rfl, by decide, rfl⟩ | exact wideI _ | exact widePr _ | exact wideSk _ | (unfold Room; constructor <;> ((try simp) <;> omega)) | exact ⟨rfl, by simp only [List.length_map], by unfold Room; constructor <;> ((try simp) <;> omega)⟩ | exact ⟨by omega, by omega, by unfold Room; constructor <;> ((try simp) <;> omega)⟩); conv => whnf) | ((with_reducible refine XIx.nat ?_ ?_ ?_); omega; (intro _; rfl); conv => whnf) | ((with_reducible refine XIx.map ?_ ?_ ?_ ?_); omega; omega; (intro _; rfl); conv => whnf) | (with_reducible apply XAnd.mk) | ((with_reducible apply Chk.go); conv => whnf) | ((with_reducible apply ChkA.go); conv => whnf) | ((with_reducible apply ChkF.go); conv => whnf) | ((with_reducible apply ChkB.go); conv => whnf) | (exact XSame.mk rfl rfl) | (exact XSame.mk (by first | rfl | (simp only [List.map_append, List.length_append, List.length_map]; done) | (simp only [List.map_append, List.length_append, List.length_map]; rfl)) (by first | rfl | (simp only [List.map_append]; done) | (simp only [List.map_append]; rfl))) | (with_reducible exact trivial) | ((with_reducible refine xdrop_app (by rw [List.length_map]; omega) ?_); conv => whnf) | ((with_reducible refine XArr.ints (by omega) (by omega) (by omega) ?_); conv => whnf) | ((with_reducible refine XArr.intsA (by omega) (by omega) (by omega) ?_); conv => whnf) | ((with_reducible refine XArr.nats ?_ ?_ ?_); omega; omega; conv => whnf) | ((with_reducible refine XArr.natsA ?_ ?_ ?_); omega; omega; conv => whnf) | ((with_reducible apply XArr.pim0); conv => whnf) | ((with_reducible apply XArr.pim1); conv => whnf) | ((with_reducible refine XArr.ptr ?_ ?_ ?_); omega; omega; conv => whnf) | ((refine XHold.mk ⟨by rw [List.length_map]; exact okl, rfl, by omega, by omega⟩ ?_); conv => whnf) | ((refine XGet.map (by rw [okl]) (by omega) ?_); conv => whnf) | ((refine XEqA.mk ⟨[b1, b2], [0, 1], rfl, rfl, rfl, rfl, ?_⟩); conv => whnf) | ((refine XCall.ret (above_c (parts.getD i default, 2 * out.getD (i : Int).toNat default + 1) (b1, b2) (by dsimp only; omega) (by dsimp only; omega) (by dsimp only; omega) (by dsimp only; omega)) ?_); conv => whnf) | ((with_reducible apply XBr.mk') <;> (intro h; conv => whnf))
          · have hy := hyes (.inl ⟨hb.1 (by assumption), h⟩)
            apply Walk.drawX tab_ok mixed_ok [] [3] (hsV _ [id, fun H => H.set 2 (.cells [.int .i64 (parts.getD i default), .int .i64 (2 * out.getD (i : Int).toNat default + 1)])]) [_, _, _, _] (by kernel_rfl) rfl
            · skip
              repeat' first | ((with_reducible apply XBr.tt); conv => whnf) | ((with_reducible apply XBr.ff); conv => whnf) | (with_reducible apply XBr.not) | ((with_reducible apply XBr.dec) <;> (intro h; first | (exfalso; omega) | ((try simp only [List.length_map] at h); first | (exfalso; omega) | (conv => whnf)))) | ((with_reducible apply XBr.beq) <;> (intro h; first | (exfalso; omega) | (conv => whnf))) | ((with_reducible apply XBr.bne) <;> (intro h; first | (exfalso; omega) | (conv => whnf))) | ((with_reducible refine XInt.i64 (by omega) (by omega) ?_); conv => whnf) | ((with_reducible refine XHold.mk ?_ ?_); (first | omega | rfl | decide | exact ⟨rfl, by decide, rfl⟩ | exact wideI _ | exact widePr _ | exact wideSk _ | (unfold Room; constructor <;> ((try simp) <;> omega)) | exact ⟨rfl, by simp only [List.length_map], by unfold Room; constructor <;> ((try simp) <;> omega)⟩ | exact ⟨by omega, by omega, by unfold Room; constructor <;> ((try simp) <;> omega)⟩); conv => whnf) | ((with_reducible refine XIx.nat ?_ ?_ ?_); omega; (intro _; rfl); conv => whnf) | ((with_reducible refine XIx.map ?_ ?_ ?_ ?_); omega; omega; (intro _; rfl); conv => whnf) | (with_reducible apply XAnd.mk) | ((with_reducible apply Chk.go); conv => whnf) | ((with_reducible apply ChkA.go); conv => whnf) | ((with_reducible apply ChkF.go); conv => whnf) | ((with_reducible apply ChkB.go); conv => whnf) | (exact XSame.mk rfl rfl) | (exact XSame.mk (by first | rfl | (simp only [List.map_append, List.length_append, List.length_map]; done) | (simp only [List.map_append, List.length_append, List.length_map]; rfl)) (by first | rfl | (simp only [List.map_append]; done) | (simp only [List.map_append]; rfl))) | (with_reducible exact trivial) | ((with_reducible refine xdrop_app (by rw [List.length_map]; omega) ?_); conv => whnf) | ((with_reducible refine XArr.ints (by omega) (by omega) (by omega) ?_); conv => whnf) | ((with_reducible refine XArr.intsA (by omega) (by omega) (by omega) ?_); conv => whnf) | ((with_reducible refine XArr.nats ?_ ?_ ?_); omega; omega; conv => whnf) | ((with_reducible refine XArr.natsA ?_ ?_ ?_); omega; omega; conv => whnf) | ((with_reducible apply XArr.pim0); conv => whnf) | ((with_reducible apply XArr.pim1); conv => whnf) | ((with_reducible refine XArr.ptr ?_ ?_ ?_); omega; omega; conv => whnf) | ((with_reducible apply XBr.mk') <;> (intro h; conv => whnf))
            · skip
              repeat' first | ((with_reducible apply XBr.tt); conv => whnf) | ((with_reducible apply XBr.ff); conv => whnf) | (with_reducible apply XBr.not) | ((with_reducible apply XBr.dec) <;> (intro h; first | (exfalso; omega) | ((try simp only [List.length_map] at h); first | (exfalso; omega) | (conv => whnf)))) | ((with_reducible apply XBr.beq) <;> (intro h; first | (exfalso; omega) | (conv => whnf))) | ((with_reducible apply XBr.bne) <;> (intro h; first | (exfalso; omega) | (conv => whnf))) | ((with_reducible refine XInt.i64 (by omega) (by omega) ?_); conv => whnf) | ((with_reducible refine XHold.mk ?_ ?_); (first | omega | rfl | decide | exact ⟨rfl, by decide, rfl⟩ | exact wideI _ | exact widePr _ | exact wideSk _ | (unfold Room; constructor <;> ((try simp) <;> omega)) | exact ⟨rfl, by simp only [List.length_map], by unfold Room; constructor <;> ((try simp) <;> omega)⟩ | exact ⟨by omega, by omega, by unfold Room; constructor <;> ((try simp) <;> omega)⟩); conv => whnf) | ((with_reducible refine XIx.nat ?_ ?_ ?_); omega; (intro _; rfl); conv => whnf) | ((with_reducible refine XIx.map ?_ ?_ ?_ ?_); omega; omega; (intro _; rfl); conv => whnf) | (with_reducible apply XAnd.mk) | ((with_reducible apply Chk.go); conv => whnf) | ((with_reducible apply ChkA.go); conv => whnf) | ((with_reducible apply ChkF.go); conv => whnf) | ((with_reducible apply ChkB.go); conv => whnf) | (exact XSame.mk rfl rfl) | (exact XSame.mk (by first | rfl | (simp only [List.map_append, List.length_append, List.length_map]; done) | (simp only [List.map_append, List.length_append, List.length_map]; rfl)) (by first | rfl | (simp only [List.map_append]; done) | (simp only [List.map_append]; rfl))) | (with_reducible exact trivial) | ((with_reducible refine xdrop_app (by rw [List.length_map]; omega) ?_); conv => whnf) | ((with_reducible refine XArr.ints (by omega) (by omega) (by omega) ?_); conv => whnf) | ((with_reducible refine XArr.intsA (by omega) (by omega) (by omega) ?_); conv => whnf) | ((with_reducible refine XArr.nats ?_ ?_ ?_); omega; omega; conv => whnf) | ((with_reducible refine XArr.natsA ?_ ?_ ?_); omega; omega; conv => whnf) | ((with_reducible apply XArr.pim0); conv => whnf) | ((with_reducible apply XArr.pim1); conv => whnf) | ((with_reducible refine XArr.ptr ?_ ?_ ?_); omega; omega; conv => whnf) | ((with_reducible apply XBr.mk') <;> (intro h; conv => whnf))
            · conv => whnf
              repeat' first | ((with_reducible apply XBr.tt); conv => whnf) | ((with_reducible apply XBr.ff); conv => whnf) | (with_reducible apply XBr.not) | ((with_reducible apply XBr.dec) <;> (intro h; first | (exfalso; omega) | ((try simp only [List.length_map] at h); first | (exfalso; omega) | (conv => whnf)))) | ((with_reducible apply XBr.beq) <;> (intro h; first | (exfalso; omega) | (conv => whnf))) | ((with_reducible apply XBr.bne) <;> (intro h; first | (exfalso; omega) | (conv => whnf))) | ((with_reducible refine XInt.i64 (by omega) (by omega) ?_); conv => whnf) | ((with_reducible refine XHold.mk ?_ ?_); (first | omega | rfl | decide | exact ⟨rfl, by decide, rfl⟩ | exact wideI _ | exact widePr _ | exact wideSk _ | (unfold Room; constructor <;> ((try simp) <;> omega)) | exact ⟨rfl, by simp only [List.length_map], by unfold Room; constructor <;> ((try simp) <;> omega)⟩ | exact ⟨by omega, by omega, by unfold Room; constructor <;> ((try simp) <;> omega)⟩); conv => whnf) | ((with_reducible refine XIx.nat ?_ ?_ ?_); omega; (intro _; rfl); conv => whnf) | ((with_reducible refine XIx.map ?_ ?_ ?_ ?_); omega; omega; (intro _; rfl); conv => whnf) | (with_reducible apply XAnd.mk) | ((with_reducible apply Chk.go); conv => whnf) | ((with_reducible apply ChkA.go); conv => whnf) | ((with_reducible apply ChkF.go); conv => whnf) | ((with_reducible apply ChkB.go); conv => whnf) | (exact XSame.mk rfl rfl) | (exact XSame.mk (by first | rfl | (simp only [List.map_append, List.length_append, List.length_map]; done) | (simp only [List.map_append, List.length_append, List.length_map]; rfl)) (by first | rfl | (simp only [List.map_append]; done) | (simp only [List.map_append]; rfl))) | (with_reducible exact trivial) | ((with_reducible refine xdrop_app (by rw [List.length_map]; omega) ?_); conv => whnf) | ((with_reducible refine XArr.ints (by omega) (by omega) (by omega) ?_); conv => whnf) | ((with_reducible refine XArr.intsA (by omega) (by omega) (by omega) ?_); conv => whnf) | ((with_reducible refine XArr.nats ?_ ?_ ?_); omega; omega; conv => whnf) | ((with_reducible refine XArr.natsA ?_ ?_ ?_); omega; omega; conv => whnf) | ((with_reducible apply XArr.pim0); conv => whnf) | ((with_reducible apply XArr.pim1); conv => whnf) | ((with_reducible refine XArr.ptr ?_ ?_ ?_); omega; omega; conv => whnf) | ((with_reducible apply XBr.mk') <;> (intro h; conv => whnf))
              refine XAgainG.go (i + 1) [.cells [.int .i64 (parts.getD i default), .int .i64 (2 * out.getD (i : Int).toNat default + 1)]] (by omega) (by omega) ?_ ?_
              · rw [hy]; rfl
              · rw [hy]; exact ⟨rfl, rfl, rfl, rfl, rfl, rfl, rfl, rfl, rfl, rfl, trivial⟩
          · have hy := hyes (.inr h)
            apply Walk.drawX tab_ok mixed_ok [] [3] (hsV _ [id, fun H => H.set 2 (.cells [.int .i64 (parts.getD i default), .int .i64 (2 * out.getD (i : Int).toNat default + 1)])]) [_, _, _, _] (by kernel_rfl) rfl
            · skip
              repeat' first | ((with_reducible apply XBr.tt); conv => whnf) | ((with_reducible apply XBr.ff); conv => whnf) | (with_reducible apply XBr.not) | ((with_reducible apply XBr.dec) <;> (intro h; first | (exfalso; omega) | ((try simp only [List.length_map] at h); first | (exfalso; omega) | (conv => whnf)))) | ((with_reducible apply XBr.beq) <;> (intro h; first | (exfalso; omega) | (conv => whnf))) | ((with_reducible apply XBr.bne) <;> (intro h; first | (exfalso; omega) | (conv => whnf))) | ((with_reducible refine XInt.i64 (by omega) (by omega) ?_); conv => whnf) | ((with_reducible refine XHold.mk ?_ ?_); (first | omega | rfl | decide | exact ⟨rfl, by decide, rfl⟩ | exact wideI _ | exact widePr _ | exact wideSk _ | (unfold Room; constructor <;> ((try simp) <;> omega)) | exact ⟨rfl, by simp only [List.length_map], by unfold Room; constructor <;> ((try simp) <;> omega)⟩ | exact ⟨by omega, by omega, by unfold Room; constructor <;> ((try simp) <;> omega)⟩); conv => whnf) | ((with_reducible refine XIx.nat ?_ ?_ ?_); omega; (intro _; rfl); conv => whnf) | ((with_reducible refine XIx.map ?_ ?_ ?_ ?_); omega; omega; (intro _; rfl); conv => whnf) | (with_reducible apply XAnd.mk) | ((with_reducible apply Chk.go); conv => whnf) | ((with_reducible apply ChkA.go); conv => whnf) | ((with_reducible apply ChkF.go); conv => whnf) | ((with_reducible apply ChkB.go); conv => whnf) | (exact XSame.mk rfl rfl) | (exact XSame.mk (by first | rfl | (simp only [List.map_append, List.length_append, List.length_map]; done) | (simp only [List.map_append, List.length_append, List.length_map]; rfl)) (by first | rfl | (simp only [List.map_append]; done) | (simp only [List.map_append]; rfl))) | (with_reducible exact trivial) | ((with_reducible refine xdrop_app (by rw [List.length_map]; omega) ?_); conv => whnf) | ((with_reducible refine XArr.ints (by omega) (by omega) (by omega) ?_); conv => whnf) | ((with_reducible refine XArr.intsA (by omega) (by omega) (by omega) ?_); conv => whnf) | ((with_reducible refine XArr.nats ?_ ?_ ?_); omega; omega; conv => whnf) | ((with_reducible refine XArr.natsA ?_ ?_ ?_); omega; omega; conv => whnf) | ((with_reducible apply XArr.pim0); conv => whnf) | ((with_reducible apply XArr.pim1); conv => whnf) | ((with_reducible refine XArr.ptr ?_ ?_ ?_); omega; omega; conv => whnf) | ((with_reducible apply XBr.mk') <;> (intro h; conv => whnf))
            · skip
              repeat' first | ((with_reducible apply XBr.tt); conv => whnf) | ((with_reducible apply XBr.ff); conv => whnf) | (with_reducible apply XBr.not) | ((with_reducible apply XBr.dec) <;> (intro h; first | (exfalso; omega) | ((try simp only [List.length_map] at h); first | (exfalso; omega) | (conv => whnf)))) | ((with_reducible apply XBr.beq) <;> (intro h; first | (exfalso; omega) | (conv => whnf))) | ((with_reducible apply XBr.bne) <;> (intro h; first | (exfalso; omega) | (conv => whnf))) | ((with_reducible refine XInt.i64 (by omega) (by omega) ?_); conv => whnf) | ((with_reducible refine XHold.mk ?_ ?_); (first | omega | rfl | decide | exact ⟨rfl, by decide, rfl⟩ | exact wideI _ | exact widePr _ | exact wideSk _ | (unfold Room; constructor <;> ((try simp) <;> omega)) | exact ⟨rfl, by simp only [List.length_map], by unfold Room; constructor <;> ((try simp) <;> omega)⟩ | exact ⟨by omega, by omega, by unfold Room; constructor <;> ((try simp) <;> omega)⟩); conv => whnf) | ((with_reducible refine XIx.nat ?_ ?_ ?_); omega; (intro _; rfl); conv => whnf) | ((with_reducible refine XIx.map ?_ ?_ ?_ ?_); omega; omega; (intro _; rfl); conv => whnf) | (with_reducible apply XAnd.mk) | ((with_reducible apply Chk.go); conv => whnf) | ((with_reducible apply ChkA.go); conv => whnf) | ((with_reducible apply ChkF.go); conv => whnf) | ((with_reducible apply ChkB.go); conv => whnf) | (exact XSame.mk rfl rfl) | (exact XSame.mk (by first | rfl | (simp only [List.map_append, List.length_append, List.length_map]; done) | (simp only [List.map_append, List.length_append, List.length_map]; rfl)) (by first | rfl | (simp only [List.map_append]; done) | (simp only [List.map_append]; rfl))) | (with_reducible exact trivial) | ((with_reducible refine xdrop_app (by rw [List.length_map]; omega) ?_); conv => whnf) | ((with_reducible refine XArr.ints (by omega) (by omega) (by omega) ?_); conv => whnf) | ((with_reducible refine XArr.intsA (by omega) (by omega) (by omega) ?_); conv => whnf) | ((with_reducible refine XArr.nats ?_ ?_ ?_); omega; omega; conv => whnf) | ((with_reducible refine XArr.natsA ?_ ?_ ?_); omega; omega; conv => whnf) | ((with_reducible apply XArr.pim0); conv => whnf) | ((with_reducible apply XArr.pim1); conv => whnf) | ((with_reducible refine XArr.ptr ?_ ?_ ?_); omega; omega; conv => whnf) | ((with_reducible apply XBr.mk') <;> (intro h; conv => whnf))
            · conv => whnf
              repeat' first | ((with_reducible apply XBr.tt); conv => whnf) | ((with_reducible apply XBr.ff); conv => whnf) | (with_reducible apply XBr.not) | ((with_reducible apply XBr.dec) <;> (intro h; first | (exfalso; omega) | ((try simp only [List.length_map] at h); first | (exfalso; omega) | (conv => whnf)))) | ((with_reducible apply XBr.beq) <;> (intro h; first | (exfalso; omega) | (conv => whnf))) | ((with_reducible apply XBr.bne) <;> (intro h; first | (exfalso; omega) | (conv => whnf))) | ((with_reducible refine XInt.i64 (by omega) (by omega) ?_); conv => whnf) | ((with_reducible refine XHold.mk ?_ ?_); (first | omega | rfl | decide | exact ⟨rfl, by decide, rfl⟩ | exact wideI _ | exact widePr _ | exact wideSk _ | (unfold Room; constructor <;> ((try simp) <;> omega)) | exact ⟨rfl, by simp only [List.length_map], by unfold Room; constructor <;> ((try simp) <;> omega)⟩ | exact ⟨by omega, by omega, by unfold Room; constructor <;> ((try simp) <;> omega)⟩); conv => whnf) | ((with_reducible refine XIx.nat ?_ ?_ ?_); omega; (intro _; rfl); conv => whnf) | ((with_reducible refine XIx.map ?_ ?_ ?_ ?_); omega; omega; (intro _; rfl); conv => whnf) | (with_reducible apply XAnd.mk) | ((with_reducible apply Chk.go); conv => whnf) | ((with_reducible apply ChkA.go); conv => whnf) | ((with_reducible apply ChkF.go); conv => whnf) | ((with_reducible apply ChkB.go); conv => whnf) | (exact XSame.mk rfl rfl) | (exact XSame.mk (by first | rfl | (simp only [List.map_append, List.length_append, List.length_map]; done) | (simp only [List.map_append, List.length_append, List.length_map]; rfl)) (by first | rfl | (simp only [List.map_append]; done) | (simp only [List.map_append]; rfl))) | (with_reducible exact trivial) | ((with_reducible refine xdrop_app (by rw [List.length_map]; omega) ?_); conv => whnf) | ((with_reducible refine XArr.ints (by omega) (by omega) (by omega) ?_); conv => whnf) | ((with_reducible refine XArr.intsA (by omega) (by omega) (by omega) ?_); conv => whnf) | ((with_reducible refine XArr.nats ?_ ?_ ?_); omega; omega; conv => whnf) | ((with_reducible refine XArr.natsA ?_ ?_ ?_); omega; omega; conv => whnf) | ((with_reducible apply XArr.pim0); conv => whnf) | ((with_reducible apply XArr.pim1); conv => whnf) | ((with_reducible refine XArr.ptr ?_ ?_ ?_); omega; omega; conv => whnf) | ((with_reducible apply XBr.mk') <;> (intro h; conv => whnf))
              refine XAgainG.go (i + 1) [.cells [.int .i64 (parts.getD i default), .int .i64 (2 * out.getD (i : Int).toNat default + 1)]] (by omega) (by omega) ?_ ?_
              · rw [hy]; rfl
              · rw [hy]; exact ⟨rfl, rfl, rfl, rfl, rfl, rfl, rfl, rfl, rfl, rfl, trivial⟩
          · have hn := hno (fun hh => by
              rcases hh with ⟨_, e⟩ | e
              · exact (by assumption : ¬ 0 < parts.getD i default) e
              · rw [h] at e; cases e)
            refine XAgainG.go (i + 1) [.cells [.int .i64 (parts.getD i default), .int .i64 (2 * out.getD (i : Int).toNat default + 1)]] (by omega) (by omega) ?_ ?_
            · rw [hn]; rfl
            · rw [hn]; exact ⟨rfl, rfl, rfl, rfl, rfl, rfl, rfl, rfl, rfl, rfl, trivial⟩
          · have hy := hyes (.inr h)
            apply Walk.drawX tab_ok mixed_ok [] [3] (hsV _ [id, fun H => H.set 2 (.cells [.int .i64 (parts.getD i default), .int .i64 (2 * out.getD (i : Int).toNat default + 1)])]) [_, _, _, _] (by kernel_rfl) rfl
            · skip
              repeat' first | ((with_reducible apply XBr.tt); conv => whnf) | ((with_reducible apply XBr.ff); conv => whnf) | (with_reducible apply XBr.not) | ((with_reducible apply XBr.dec) <;> (intro h; first | (exfalso; omega) | ((try simp only [List.length_map] at h); first | (exfalso; omega) | (conv => whnf)))) | ((with_reducible apply XBr.beq) <;> (intro h; first | (exfalso; omega) | (conv => whnf))) | ((with_reducible apply XBr.bne) <;> (intro h; first | (exfalso; omega) | (conv => whnf))) | ((with_reducible refine XInt.i64 (by omega) (by omega) ?_); conv => whnf) | ((with_reducible refine XHold.mk ?_ ?_); (first | omega | rfl | decide | exact ⟨rfl, by decide, rfl⟩ | exact wideI _ | exact widePr _ | exact wideSk _ | (unfold Room; constructor <;> ((try simp) <;> omega)) | exact ⟨rfl, by simp only [List.length_map], by unfold Room; constructor <;> ((try simp) <;> omega)⟩ | exact ⟨by omega, by omega, by unfold Room; constructor <;> ((try simp) <;> omega)⟩); conv => whnf) | ((with_reducible refine XIx.nat ?_ ?_ ?_); omega; (intro _; rfl); conv => whnf) | ((with_reducible refine XIx.map ?_ ?_ ?_ ?_); omega; omega; (intro _; rfl); conv => whnf) | (with_reducible apply XAnd.mk) | ((with_reducible apply Chk.go); conv => whnf) | ((with_reducible apply ChkA.go); conv => whnf) | ((with_reducible apply ChkF.go); conv => whnf) | ((with_reducible apply ChkB.go); conv => whnf) | (exact XSame.mk rfl rfl) | (exact XSame.mk (by first | rfl | (simp only [List.map_append, List.length_append, List.length_map]; done) | (simp only [List.map_append, List.length_append, List.length_map]; rfl)) (by first | rfl | (simp only [List.map_append]; done) | (simp only [List.map_append]; rfl))) | (with_reducible exact trivial) | ((with_reducible refine xdrop_app (by rw [List.length_map]; omega) ?_); conv => whnf) | ((with_reducible refine XArr.ints (by omega) (by omega) (by omega) ?_); conv => whnf) | ((with_reducible refine XArr.intsA (by omega) (by omega) (by omega) ?_); conv => whnf) | ((with_reducible refine XArr.nats ?_ ?_ ?_); omega; omega; conv => whnf) | ((with_reducible refine XArr.natsA ?_ ?_ ?_); omega; omega; conv => whnf) | ((with_reducible apply XArr.pim0); conv => whnf) | ((with_reducible apply XArr.pim1); conv => whnf) | ((with_reducible refine XArr.ptr ?_ ?_ ?_); omega; omega; conv => whnf) | ((with_reducible apply XBr.mk') <;> (intro h; conv => whnf))
            · skip
              repeat' first | ((with_reducible apply XBr.tt); conv => whnf) | ((with_reducible apply XBr.ff); conv => whnf) | (with_reducible apply XBr.not) | ((with_reducible apply XBr.dec) <;> (intro h; first | (exfalso; omega) | ((try simp only [List.length_map] at h); first | (exfalso; omega) | (conv => whnf)))) | ((with_reducible apply XBr.beq) <;> (intro h; first | (exfalso; omega) | (conv => whnf))) | ((with_reducible apply XBr.bne) <;> (intro h; first | (exfalso; omega) | (conv => whnf))) | ((with_reducible refine XInt.i64 (by omega) (by omega) ?_); conv => whnf) | ((with_reducible refine XHold.mk ?_ ?_); (first | omega | rfl | decide | exact ⟨rfl, by decide, rfl⟩ | exact wideI _ | exact widePr _ | exact wideSk _ | (unfold Room; constructor <;> ((try simp) <;> omega)) | exact ⟨rfl, by simp only [List.length_map], by unfold Room; constructor <;> ((try simp) <;> omega)⟩ | exact ⟨by omega, by omega, by unfold Room; constructor <;> ((try simp) <;> omega)⟩); conv => whnf) | ((with_reducible refine XIx.nat ?_ ?_ ?_); omega; (intro _; rfl); conv => whnf) | ((with_reducible refine XIx.map ?_ ?_ ?_ ?_); omega; omega; (intro _; rfl); conv => whnf) | (with_reducible apply XAnd.mk) | ((with_reducible apply Chk.go); conv => whnf) | ((with_reducible apply ChkA.go); conv => whnf) | ((with_reducible apply ChkF.go); conv => whnf) | ((with_reducible apply ChkB.go); conv => whnf) | (exact XSame.mk rfl rfl) | (exact XSame.mk (by first | rfl | (simp only [List.map_append, List.length_append, List.length_map]; done) | (simp only [List.map_append, List.length_append, List.length_map]; rfl)) (by first | rfl | (simp only [List.map_append]; done) | (simp only [List.map_append]; rfl))) | (with_reducible exact trivial) | ((with_reducible refine xdrop_app (by rw [List.length_map]; omega) ?_); conv => whnf) | ((with_reducible refine XArr.ints (by omega) (by omega) (by omega) ?_); conv => whnf) | ((with_reducible refine XArr.intsA (by omega) (by omega) (by omega) ?_); conv => whnf) | ((with_reducible refine XArr.nats ?_ ?_ ?_); omega; omega; conv => whnf) | ((with_reducible refine XArr.natsA ?_ ?_ ?_); omega; omega; conv => whnf) | ((with_reducible apply XArr.pim0); conv => whnf) | ((with_reducible apply XArr.pim1); conv => whnf) | ((with_reducible refine XArr.ptr ?_ ?_ ?_); omega; omega; conv => whnf) | ((with_reducible apply XBr.mk') <;> (intro h; conv => whnf))
            · conv => whnf
              repeat' first | ((with_reducible apply XBr.tt); conv => whnf) | ((with_reducible apply XBr.ff); conv => whnf) | (with_reducible apply XBr.not) | ((with_reducible apply XBr.dec) <;> (intro h; first | (exfalso; omega) | ((try simp only [List.length_map] at h); first | (exfalso; omega) | (conv => whnf)))) | ((with_reducible apply XBr.beq) <;> (intro h; first | (exfalso; omega) | (conv => whnf))) | ((with_reducible apply XBr.bne) <;> (intro h; first | (exfalso; omega) | (conv => whnf))) | ((with_reducible refine XInt.i64 (by omega) (by omega) ?_); conv => whnf) | ((with_reducible refine XHold.mk ?_ ?_); (first | omega | rfl | decide | exact ⟨rfl, by decide, rfl⟩ | exact wideI _ | exact widePr _ | exact wideSk _ | (unfold Room; constructor <;> ((try simp) <;> omega)) | exact ⟨rfl, by simp only [List.length_map], by unfold Room; constructor <;> ((try simp) <;> omega)⟩ | exact ⟨by omega, by omega, by unfold Room; constructor <;> ((try simp) <;> omega)⟩); conv => whnf) | ((with_reducible refine XIx.nat ?_ ?_ ?_); omega; (intro _; rfl); conv => whnf) | ((with_reducible refine XIx.map ?_ ?_ ?_ ?_); omega; omega; (intro _; rfl); conv => whnf) | (with_reducible apply XAnd.mk) | ((with_reducible apply Chk.go); conv => whnf) | ((with_reducible apply ChkA.go); conv => whnf) | ((with_reducible apply ChkF.go); conv => whnf) | ((with_reducible apply ChkB.go); conv => whnf) | (exact XSame.mk rfl rfl) | (exact XSame.mk (by first | rfl | (simp only [List.map_append, List.length_append, List.length_map]; done) | (simp only [List.map_append, List.length_append, List.length_map]; rfl)) (by first | rfl | (simp only [List.map_append]; done) | (simp only [List.map_append]; rfl))) | (with_reducible exact trivial) | ((with_reducible refine xdrop_app (by rw [List.length_map]; omega) ?_); conv => whnf) | ((with_reducible refine XArr.ints (by omega) (by omega) (by omega) ?_); conv => whnf) | ((with_reducible refine XArr.intsA (by omega) (by omega) (by omega) ?_); conv => whnf) | ((with_reducible refine XArr.nats ?_ ?_ ?_); omega; omega; conv => whnf) | ((with_reducible refine XArr.natsA ?_ ?_ ?_); omega; omega; conv => whnf) | ((with_reducible apply XArr.pim0); conv => whnf) | ((with_reducible apply XArr.pim1); conv => whnf) | ((with_reducible refine XArr.ptr ?_ ?_ ?_); omega; omega; conv => whnf) | ((with_reducible apply XBr.mk') <;> (intro h; conv => whnf))
              refine XAgainG.go (i + 1) [.cells [.int .i64 (parts.getD i default), .int .i64 (2 * out.getD (i : Int).toNat default + 1)]] (by omega) (by omega) ?_ ?_
              · rw [hy]; rfl
              · rw [hy]; exact ⟨rfl, rfl, rfl, rfl, rfl, rfl, rfl, rfl, rfl, rfl, trivial⟩
          · have hn := hno (fun hh => by
              rcases hh with ⟨e, _⟩ | e
              · have := hb.2 e; simp_all
              · rw [h] at e; cases e)
            refine XAgainG.go (i + 1) [.cells [.int .i64 (parts.getD i default), .int .i64 (2 * out.getD (i : Int).toNat default + 1)]] (by omega) (by omega) ?_ ?_
            · rw [hn]; rfl
            · rw [hn]; exact ⟨rfl, rfl, rfl, rfl, rfl, rfl, rfl, rfl, rfl, rfl, trivial⟩
          · have hie : i = 6 := by omega
            refine XPut.map (out.getD (who : Int).toNat default + 1) rfl (by rw [okl]) (by omega) ?_
            conv => whnf
            repeat' first | ((with_reducible apply XBr.tt); conv => whnf) | ((with_reducible apply XBr.ff); conv => whnf) | (with_reducible apply XBr.not) | ((with_reducible apply XBr.dec) <;> (intro h; first | (exfalso; omega) | ((try simp only [List.length_map] at h); first | (exfalso; omega) | (conv => whnf)))) | ((with_reducible apply XBr.beq) <;> (intro h; first | (exfalso; omega) | (conv => whnf))) | ((with_reducible apply XBr.bne) <;> (intro h; first | (exfalso; omega) | (conv => whnf))) | ((with_reducible refine XInt.i64 (by omega) (by omega) ?_); conv => whnf) | ((with_reducible refine XHold.mk ?_ ?_); (first | omega | rfl | decide | exact ⟨rfl, by decide, rfl⟩ | exact wideI _ | exact widePr _ | exact wideSk _ | (unfold Room; constructor <;> ((try simp) <;> omega)) | exact ⟨rfl, by simp only [List.length_map], by unfold Room; constructor <;> ((try simp) <;> omega)⟩ | exact ⟨by omega, by omega, by unfold Room; constructor <;> ((try simp) <;> omega)⟩); conv => whnf) | ((with_reducible refine XIx.nat ?_ ?_ ?_); omega; (intro _; rfl); conv => whnf) | ((with_reducible refine XIx.map ?_ ?_ ?_ ?_); omega; omega; (intro _; rfl); conv => whnf) | (with_reducible apply XAnd.mk) | ((with_reducible apply Chk.go); conv => whnf) | ((with_reducible apply ChkA.go); conv => whnf) | ((with_reducible apply ChkF.go); conv => whnf) | ((with_reducible apply ChkB.go); conv => whnf) | (exact XSame.mk rfl rfl) | (exact XSame.mk (by first | rfl | (simp only [List.map_append, List.length_append, List.length_map]; done) | (simp only [List.map_append, List.length_append, List.length_map]; rfl)) (by first | rfl | (simp only [List.map_append]; done) | (simp only [List.map_append]; rfl))) | (with_reducible exact trivial) | ((with_reducible refine xdrop_app (by rw [List.length_map]; omega) ?_); conv => whnf) | ((with_reducible refine XArr.ints (by omega) (by omega) (by omega) ?_); conv => whnf) | ((with_reducible refine XArr.intsA (by omega) (by omega) (by omega) ?_); conv => whnf) | ((with_reducible refine XArr.nats ?_ ?_ ?_); omega; omega; conv => whnf) | ((with_reducible refine XArr.natsA ?_ ?_ ?_); omega; omega; conv => whnf) | ((with_reducible apply XArr.pim0); conv => whnf) | ((with_reducible apply XArr.pim1); conv => whnf) | ((with_reducible refine XArr.ptr ?_ ?_ ?_); omega; omega; conv => whnf) | ((with_reducible apply XBr.mk') <;> (intro h; conv => whnf))
            refine XAgainG.go (k + 1) [.cells [.int .i64 0, .int .i64 1], .cells [.int .i64 b1, .int .i64 b2]] (by omega) (by omega) ?_ ⟨rfl, rfl, rfl, rfl, trivial⟩
            rw [hnx]; unfold shareStep; rw [hwho hie]; rfl
        · skip
          rw [hfin (by omega)]
          exact XGive.mk' [0] rfl (by decide) ⟨congrArg some (ren_grow _ _ _ _).symm, trivial⟩ rfl
      · rw [if_neg (fun hh => h hh.1)]
        have pkl := pk.1
        obtain ⟨pn, rfl⟩ := Int.eq_ofNat_of_zero_le hbd.1
        rw [Int.toNat_natCast]
        refine Walk.loopG tab_ok [] (fun k : Nat => k ≤ pn) (fun k => [(7, .sl false (ints parts)), (8, .gr 0 6), (33, natA pn), (34, natA k)])
          (fun k => [.grow 3 false (ints (shareI parts k))]) (fun k => pn - k) 0 (by omega) rfl ⟨rfl, rfl, rfl, rfl, trivial⟩ ?_ ?_ ?_
        · intro k _
          constructor
          · intro x hx; simp at hx; subst hx; exact lowI _
          · intro p hp; simp at hp; rcases hp with rfl | rfl | rfl | rfl <;> first | exact lowI _ | rfl
        · intro k _; simp
        intro k hk
        have ok := shareI_ok pk k
        have hnx : shareI parts (k + 1) = shareStep parts (shareI parts k) := rfl
        have hfin : k = pn → shareI parts pn = shareI parts k := fun h => by rw [h]
        generalize shareI parts k = out at ok hnx hfin
        have okl := ok.1
        conv => whnf
        repeat' first | ((with_reducible apply XBr.tt); conv => whnf) | ((with_reducible apply XBr.ff); conv => whnf) | (with_reducible apply XBr.not) | ((with_reducible apply XBr.dec) <;> (intro h; first | (exfalso; omega) | ((try simp only [List.length_map] at h); first | (exfalso; omega) | (conv => whnf)))) | ((with_reducible apply XBr.beq) <;> (intro h; first | (exfalso; omega) | (conv => whnf))) | ((with_reducible apply XBr.bne) <;> (intro h; first | (exfalso; omega) | (conv => whnf))) | ((with_reducible refine XInt.i64 (by omega) (by omega) ?_); conv => whnf) | ((with_reducible refine XHold.mk ?_ ?_); (first | omega | rfl | decide | exact ⟨rfl, by decide, rfl⟩ | exact wideI _ | exact widePr _ | exact wideSk _ | (unfold Room; constructor <;> ((try simp) <;> omega)) | exact ⟨rfl, by simp only [List.length_map], by unfold Room; constructor <;> ((try simp) <;> omega)⟩ | exact ⟨by omega, by omega, by unfold Room; constructor <;> ((try simp) <;> omega)⟩); conv => whnf) | ((with_reducible refine XIx.nat ?_ ?_ ?_); omega; (intro _; rfl); conv => whnf) | ((with_reducible refine XIx.map ?_ ?_ ?_ ?_); omega; omega; (intro _; rfl); conv => whnf) | (with_reducible apply XAnd.mk) | ((with_reducible apply Chk.go); conv => whnf) | ((with_reducible apply ChkA.go); conv => whnf) | ((with_reducible apply ChkF.go); conv => whnf) | ((with_reducible apply ChkB.go); conv => whnf) | (exact XSame.mk rfl rfl) | (exact XSame.mk (by first | rfl | (simp only [List.map_append, List.length_append, List.length_map]; done) | (simp only [List.map_append, List.length_append, List.length_map]; rfl)) (by first | rfl | (simp only [List.map_append]; done) | (simp only [List.map_append]; rfl))) | (with_reducible exact trivial) | ((with_reducible refine xdrop_app (by rw [List.length_map]; omega) ?_); conv => whnf) | ((with_reducible refine XArr.ints (by omega) (by omega) (by omega) ?_); conv => whnf) | ((with_reducible refine XArr.intsA (by omega) (by omega) (by omega) ?_); conv => whnf) | ((with_reducible refine XArr.nats ?_ ?_ ?_); omega; omega; conv => whnf) | ((with_reducible refine XArr.natsA ?_ ?_ ?_); omega; omega; conv => whnf) | ((with_reducible apply XArr.pim0); conv => whnf) | ((with_reducible apply XArr.pim1); conv => whnf) | ((with_reducible refine XArr.ptr ?_ ?_ ?_); omega; omega; conv => whnf) | ((with_reducible apply XBr.mk') <;> (intro h; conv => whnf))
        rw [hfin (by omega)]
        exact XGive.mk' [0] rfl (by decide) ⟨congrArg some (ren_grow _ _ _ _).symm, trivial⟩ rfl
  · have he : shareE l pay = 3 := by unfold shareE; rw [if_neg (by omega), if_pos h]
    unfold shareG; rw [if_neg (by omega), he]; exact XGive.err rfl
theorem share_c (l : Ld) (pay : Int) (o : LdW l) : Comp Try.prog 33 [ldA l, .int .i64 pay] (shareR l pay) := by
  have x := share_g l pay o
  unfold shareG at x; unfold shareR
  split at x
  · rename_i h
    have pk := (shareI_ok (parts_ok ((checkR_ok l).1 (by unfold shareE at h; split at h <;> omega))) pay.toNat).1
    rw [if_pos h]
    exact x.comp (Froz.tup (.cons (Froz.grow rfl (by rw [List.length_map]; exact pk) (lowI _)) (.cons (Froz.low rfl) .nil)))
  · rename_i h
    rw [if_neg h]
    exact x.comp (Froz.low rfl)
end GA
end

section
namespace GA
open Go Go.RowKit Go.Proofs
set_option pp.deepTerms true
set_option maxRecDepth 8000
set_option linter.unusedVariables false
set_option linter.unusedSimpArgs false

def five : Ld := ⟨50, 10, false, [⟨30, 0⟩, ⟨20, 1⟩, ⟨25, 0⟩, ⟨20, 2⟩, ⟨10, 1⟩], true, [], true, []⟩
def fiveP : Ld := { five with nla := false, apart := [(0, 2)], nlw := false, wth := [(1, 3)] }
def fivePr : Pr := ⟨50, false, [27, 18, 23, 18, 9]⟩
theorem five_ok : checkR five = 0 ∧ checkR fiveP = 0 := by decide +kernel
theorem five_many : manyD (openD five) = 2 := by decide +kernel
theorem five_out : (loadI (openD five) 2 2).out = [0, 0, 1, 1, 1] := by decide +kernel
theorem fiveP_many : manyD (openD fiveP) = 3 := by decide +kernel
theorem fiveP_out : (loadI (openD fiveP) 3 3).out = [0, 1, 2, 1, 0] := by decide +kernel
theorem five_pr : priceE five fivePr = 0 ∧ fairB (openD five) fivePr = true ∧ (fivePr.ps.sum + fivePr.unit - 1) / fivePr.unit = 2 := by decide +kernel
theorem five_share : shareE five 10 = 0 ∧ shareI (partsR five) 10 = [5, 3, 2, 0, 0, 0] := by decide +kernel
theorem five_riddle : riddledR [12, 20, 19, 25] 20 = 0 ∧ keptL [12, 20, 19, 25] 20 = [20, 25] := by decide +kernel
theorem five_w : LdW five := ⟨fun _ => rfl, by decide, by decide, by decide⟩
theorem fiveP_w : LdW fiveP := ⟨(fun h => by cases h), by decide, by decide, by decide⟩
theorem five_c : Comp Try.prog 82 [] (ldA five) := by
  refine Comp.body' (T := tab) (res := [.cell 0 26]) tab_ok [] Try.func82 rfl (by kernel_rfl) Try.ntmps82 rfl (by simp only [List.length_cons, List.length_nil]; decide) (by rfl) ?_; conv => whnf
  repeat' first | ((with_reducible apply XBr.tt); conv => whnf) | ((with_reducible apply XBr.ff); conv => whnf) | (with_reducible apply XBr.not) | ((with_reducible apply XBr.dec) <;> (intro h; first | (exfalso; omega) | ((try simp only [List.length_map] at h); first | (exfalso; omega) | (conv => whnf)))) | ((with_reducible apply XBr.beq) <;> (intro h; first | (exfalso; omega) | (conv => whnf))) | ((with_reducible apply XBr.bne) <;> (intro h; first | (exfalso; omega) | (conv => whnf))) | ((with_reducible refine XInt.i64 (by omega) (by omega) ?_); conv => whnf) | ((with_reducible refine XHold.mk ?_ ?_); (first | omega | rfl | decide | exact ⟨rfl, by decide, rfl⟩ | exact wideI _ | exact widePr _ | exact wideSk _ | (unfold Room; constructor <;> ((try simp) <;> omega)) | exact ⟨rfl, by simp only [List.length_map], by unfold Room; constructor <;> ((try simp) <;> omega)⟩ | exact ⟨by omega, by omega, by unfold Room; constructor <;> ((try simp) <;> omega)⟩); conv => whnf) | ((with_reducible refine XIx.nat ?_ ?_ ?_); omega; (intro _; rfl); conv => whnf) | ((with_reducible refine XIx.map ?_ ?_ ?_ ?_); omega; omega; (intro _; rfl); conv => whnf) | (with_reducible apply XAnd.mk) | ((with_reducible apply Chk.go); conv => whnf) | ((with_reducible apply ChkA.go); conv => whnf) | ((with_reducible apply ChkF.go); conv => whnf) | ((with_reducible apply ChkB.go); conv => whnf) | (exact XSame.mk rfl rfl) | (exact XSame.mk (by first | rfl | (simp only [List.map_append, List.length_append, List.length_map]; done) | (simp only [List.map_append, List.length_append, List.length_map]; rfl)) (by first | rfl | (simp only [List.map_append]; done) | (simp only [List.map_append]; rfl))) | (with_reducible exact trivial) | ((with_reducible refine xdrop_app (by rw [List.length_map]; omega) ?_); conv => whnf) | ((with_reducible refine XArr.ints (by omega) (by omega) (by omega) ?_); conv => whnf) | ((with_reducible refine XArr.intsA (by omega) (by omega) (by omega) ?_); conv => whnf) | ((with_reducible refine XArr.nats ?_ ?_ ?_); omega; omega; conv => whnf) | ((with_reducible refine XArr.natsA ?_ ?_ ?_); omega; omega; conv => whnf) | ((with_reducible apply XArr.pim0); conv => whnf) | ((with_reducible apply XArr.pim1); conv => whnf) | ((with_reducible refine XArr.ptr ?_ ?_ ?_); omega; omega; conv => whnf) | ((with_reducible apply XBr.mk') <;> (intro h; conv => whnf))
  exact ⟨Froz.low rfl⟩
theorem five_fewest : fewestR five = .tup [.sl false (ints [0, 0, 1, 1, 1]), .int .i64 2, .int .i64 0] := by
  unfold fewestR; rw [if_pos five_ok.1]; unfold fewestD; rw [five_many, if_neg (by decide), five_out]; rfl
theorem fiveP_fewest : fewestR fiveP = .tup [.sl false (ints [0, 1, 2, 1, 0]), .int .i64 3, .int .i64 0] := by
  unfold fewestR; rw [if_pos five_ok.2]; unfold fewestD; rw [fiveP_many, if_neg (by decide), fiveP_out]; rfl
theorem five_proves : provesR five fivePr = .tup [.int .i64 2, .int .i64 0] := by
  unfold provesR; rw [if_pos five_ok.1, if_pos five_pr.1, if_pos five_pr.2.1, five_pr.2.2]
theorem five_shareR : shareR five 10 = .tup [.sl false (ints [5, 3, 2, 0, 0, 0]), .int .i64 0] := by
  unfold shareR; rw [if_pos five_share.1, show (10 : Int).toNat = 10 from rfl, five_share.2]
theorem five_riddleR : riddleR [12, 20, 19, 25] 20 = .tup [.sl false (ints [20, 25]), slA (thruL [12, 20, 19, 25] 20), .int .i64 0] := by
  unfold riddleR; rw [if_pos five_riddle.1]; unfold riddleA; rw [five_riddle.2]; rfl
theorem cFive : Comp Try.prog 18 [ldA five] (.tup [.sl false (ints [0, 0, 1, 1, 1]), .int .i64 2, .int .i64 0]) := five_fewest ▸ fewest_c five five_w.w five_w.h1 five_w.h2 five_w.h3
theorem cFiveP : Comp Try.prog 18 [ldA fiveP] (.tup [.sl false (ints [0, 1, 2, 1, 0]), .int .i64 3, .int .i64 0]) := fiveP_fewest ▸ fewest_c fiveP fiveP_w.w fiveP_w.h1 fiveP_w.h2 fiveP_w.h3
theorem cRid : Comp Try.prog 27 [.sl false (ints [12, 20, 19, 25]), .int .i64 20] (.tup [.sl false (ints [20, 25]), slA (thruL [12, 20, 19, 25] 20), .int .i64 0]) := five_riddleR ▸ riddle_c false [12, 20, 19, 25] 20 (by decide)
theorem cShare : Comp Try.prog 33 [ldA five, .int .i64 10] (.tup [.sl false (ints [5, 3, 2, 0, 0, 0]), .int .i64 0]) := five_shareR ▸ share_c five 10 five_w
theorem cProves : Comp Try.prog 25 [ldA five, pcA fivePr] (.tup [.int .i64 2, .int .i64 0]) := five_proves ▸ proves_c five fivePr five_w (by decide)
theorem cEq (xs : List Int) (h : xs.length ≤ 100000) : Comp Try.prog 30 [.sl false (ints xs), .sl false (ints xs)] (.bool true) := by
  have := eq_int false false xs xs h
  rwa [show (xs == xs) = true from beq_self_eq_true xs] at this
theorem cEq1 : Comp Try.prog 30 [.sl false (ints [0, 0, 1, 1, 1]), .sl false [.int .i64 0, .int .i64 0, .int .i64 1, .int .i64 1, .int .i64 1]] (.bool true) := cEq [0, 0, 1, 1, 1] (by decide)
theorem cEq2 : Comp Try.prog 30 [.sl false (ints [20, 25]), .sl false [.int .i64 20, .int .i64 25]] (.bool true) := cEq [20, 25] (by decide)
theorem cEq3 : Comp Try.prog 30 [.sl false (ints [5, 3, 2, 0, 0, 0]), .sl false [.int .i64 5, .int .i64 3, .int .i64 2, .int .i64 0, .int .i64 0, .int .i64 0]] (.bool true) := cEq [5, 3, 2, 0, 0, 0] (by decide)
theorem cEq4 : Comp Try.prog 30 [.sl false (ints [0, 1, 2, 1, 0]), .sl false [.int .i64 0, .int .i64 1, .int .i64 2, .int .i64 1, .int .i64 0]] (.bool true) := cEq [0, 1, 2, 1, 0] (by decide)
theorem awake_c : Comp Try.prog 19 [] (.bool true) := by
  refine Comp.body' (T := tab) (res := [.tmp 0]) tab_ok [] Try.func19 rfl (by kernel_rfl) Try.ntmps19 rfl (by simp only [List.length_cons, List.length_nil]; decide) (by rfl) ?_; conv => whnf
  refine XCall.ret five_c ?_
  conv => whnf
  refine XCall.ret cFive ?_
  conv => whnf
  repeat' first | ((with_reducible apply XBr.tt); conv => whnf) | ((with_reducible apply XBr.ff); conv => whnf) | (with_reducible apply XBr.not) | ((with_reducible apply XBr.dec) <;> (intro h; first | (exfalso; omega) | ((try simp only [List.length_map] at h); first | (exfalso; omega) | (conv => whnf)))) | ((with_reducible apply XBr.beq) <;> (intro h; first | (exfalso; omega) | (conv => whnf))) | ((with_reducible apply XBr.bne) <;> (intro h; first | (exfalso; omega) | (conv => whnf))) | ((with_reducible refine XInt.i64 (by omega) (by omega) ?_); conv => whnf) | ((with_reducible refine XHold.mk ?_ ?_); (first | omega | rfl | decide | exact ⟨rfl, by decide, rfl⟩ | exact wideI _ | exact widePr _ | exact wideSk _ | (unfold Room; constructor <;> ((try simp) <;> omega)) | exact ⟨rfl, by simp only [List.length_map], by unfold Room; constructor <;> ((try simp) <;> omega)⟩ | exact ⟨by omega, by omega, by unfold Room; constructor <;> ((try simp) <;> omega)⟩); conv => whnf) | ((with_reducible refine XIx.nat ?_ ?_ ?_); omega; (intro _; rfl); conv => whnf) | ((with_reducible refine XIx.map ?_ ?_ ?_ ?_); omega; omega; (intro _; rfl); conv => whnf) | (with_reducible apply XAnd.mk) | ((with_reducible apply Chk.go); conv => whnf) | ((with_reducible apply ChkA.go); conv => whnf) | ((with_reducible apply ChkF.go); conv => whnf) | ((with_reducible apply ChkB.go); conv => whnf) | (exact XSame.mk rfl rfl) | (exact XSame.mk (by first | rfl | (simp only [List.map_append, List.length_append, List.length_map]; done) | (simp only [List.map_append, List.length_append, List.length_map]; rfl)) (by first | rfl | (simp only [List.map_append]; done) | (simp only [List.map_append]; rfl))) | (with_reducible exact trivial) | ((with_reducible refine xdrop_app (by rw [List.length_map]; omega) ?_); conv => whnf) | ((with_reducible refine XArr.ints (by omega) (by omega) (by omega) ?_); conv => whnf) | ((with_reducible refine XArr.intsA (by omega) (by omega) (by omega) ?_); conv => whnf) | ((with_reducible refine XArr.nats ?_ ?_ ?_); omega; omega; conv => whnf) | ((with_reducible refine XArr.natsA ?_ ?_ ?_); omega; omega; conv => whnf) | ((with_reducible apply XArr.pim0); conv => whnf) | ((with_reducible apply XArr.pim1); conv => whnf) | ((with_reducible refine XArr.ptr ?_ ?_ ?_); omega; omega; conv => whnf) | ((with_reducible apply XBr.mk') <;> (intro h; conv => whnf))
  refine XCall.ret cRid ?_
  conv => whnf
  refine XCall.ret five_c ?_
  conv => whnf
  refine XCall.ret cShare ?_
  conv => whnf
  refine XCall.ret five_c ?_
  conv => whnf
  repeat' first | ((with_reducible apply XBr.tt); conv => whnf) | ((with_reducible apply XBr.ff); conv => whnf) | (with_reducible apply XBr.not) | ((with_reducible apply XBr.dec) <;> (intro h; first | (exfalso; omega) | ((try simp only [List.length_map] at h); first | (exfalso; omega) | (conv => whnf)))) | ((with_reducible apply XBr.beq) <;> (intro h; first | (exfalso; omega) | (conv => whnf))) | ((with_reducible apply XBr.bne) <;> (intro h; first | (exfalso; omega) | (conv => whnf))) | ((with_reducible refine XInt.i64 (by omega) (by omega) ?_); conv => whnf) | ((with_reducible refine XHold.mk ?_ ?_); (first | omega | rfl | decide | exact ⟨rfl, by decide, rfl⟩ | exact wideI _ | exact widePr _ | exact wideSk _ | (unfold Room; constructor <;> ((try simp) <;> omega)) | exact ⟨rfl, by simp only [List.length_map], by unfold Room; constructor <;> ((try simp) <;> omega)⟩ | exact ⟨by omega, by omega, by unfold Room; constructor <;> ((try simp) <;> omega)⟩); conv => whnf) | ((with_reducible refine XIx.nat ?_ ?_ ?_); omega; (intro _; rfl); conv => whnf) | ((with_reducible refine XIx.map ?_ ?_ ?_ ?_); omega; omega; (intro _; rfl); conv => whnf) | (with_reducible apply XAnd.mk) | ((with_reducible apply Chk.go); conv => whnf) | ((with_reducible apply ChkA.go); conv => whnf) | ((with_reducible apply ChkF.go); conv => whnf) | ((with_reducible apply ChkB.go); conv => whnf) | (exact XSame.mk rfl rfl) | (exact XSame.mk (by first | rfl | (simp only [List.map_append, List.length_append, List.length_map]; done) | (simp only [List.map_append, List.length_append, List.length_map]; rfl)) (by first | rfl | (simp only [List.map_append]; done) | (simp only [List.map_append]; rfl))) | (with_reducible exact trivial) | ((with_reducible refine xdrop_app (by rw [List.length_map]; omega) ?_); conv => whnf) | ((with_reducible refine XArr.ints (by omega) (by omega) (by omega) ?_); conv => whnf) | ((with_reducible refine XArr.intsA (by omega) (by omega) (by omega) ?_); conv => whnf) | ((with_reducible refine XArr.nats ?_ ?_ ?_); omega; omega; conv => whnf) | ((with_reducible refine XArr.natsA ?_ ?_ ?_); omega; omega; conv => whnf) | ((with_reducible apply XArr.pim0); conv => whnf) | ((with_reducible apply XArr.pim1); conv => whnf) | ((with_reducible refine XArr.ptr ?_ ?_ ?_); omega; omega; conv => whnf) | ((with_reducible apply XBr.mk') <;> (intro h; conv => whnf))
  refine XCall.ret cFiveP ?_
  conv => whnf
  refine XCall.ret five_c ?_
  conv => whnf
  repeat' first | ((with_reducible apply XBr.tt); conv => whnf) | ((with_reducible apply XBr.ff); conv => whnf) | (with_reducible apply XBr.not) | ((with_reducible apply XBr.dec) <;> (intro h; first | (exfalso; omega) | ((try simp only [List.length_map] at h); first | (exfalso; omega) | (conv => whnf)))) | ((with_reducible apply XBr.beq) <;> (intro h; first | (exfalso; omega) | (conv => whnf))) | ((with_reducible apply XBr.bne) <;> (intro h; first | (exfalso; omega) | (conv => whnf))) | ((with_reducible refine XInt.i64 (by omega) (by omega) ?_); conv => whnf) | ((with_reducible refine XHold.mk ?_ ?_); (first | omega | rfl | decide | exact ⟨rfl, by decide, rfl⟩ | exact wideI _ | exact widePr _ | exact wideSk _ | (unfold Room; constructor <;> ((try simp) <;> omega)) | exact ⟨rfl, by simp only [List.length_map], by unfold Room; constructor <;> ((try simp) <;> omega)⟩ | exact ⟨by omega, by omega, by unfold Room; constructor <;> ((try simp) <;> omega)⟩); conv => whnf) | ((with_reducible refine XIx.nat ?_ ?_ ?_); omega; (intro _; rfl); conv => whnf) | ((with_reducible refine XIx.map ?_ ?_ ?_ ?_); omega; omega; (intro _; rfl); conv => whnf) | (with_reducible apply XAnd.mk) | ((with_reducible apply Chk.go); conv => whnf) | ((with_reducible apply ChkA.go); conv => whnf) | ((with_reducible apply ChkF.go); conv => whnf) | ((with_reducible apply ChkB.go); conv => whnf) | (exact XSame.mk rfl rfl) | (exact XSame.mk (by first | rfl | (simp only [List.map_append, List.length_append, List.length_map]; done) | (simp only [List.map_append, List.length_append, List.length_map]; rfl)) (by first | rfl | (simp only [List.map_append]; done) | (simp only [List.map_append]; rfl))) | (with_reducible exact trivial) | ((with_reducible refine xdrop_app (by rw [List.length_map]; omega) ?_); conv => whnf) | ((with_reducible refine XArr.ints (by omega) (by omega) (by omega) ?_); conv => whnf) | ((with_reducible refine XArr.intsA (by omega) (by omega) (by omega) ?_); conv => whnf) | ((with_reducible refine XArr.nats ?_ ?_ ?_); omega; omega; conv => whnf) | ((with_reducible refine XArr.natsA ?_ ?_ ?_); omega; omega; conv => whnf) | ((with_reducible apply XArr.pim0); conv => whnf) | ((with_reducible apply XArr.pim1); conv => whnf) | ((with_reducible refine XArr.ptr ?_ ?_ ?_); omega; omega; conv => whnf) | ((with_reducible apply XBr.mk') <;> (intro h; conv => whnf))
  refine XCall.ret cProves ?_
  conv => whnf
  refine Walk.norm tab_ok [] [(3, .int .i64 0), (6, .int .i64 0), (8, .int .i64 0), (12, .int .i64 0), (14, .int .i64 0), (1, .sl false (ints [0, 0, 1, 1, 1])), (2, .int .i64 2), (4, .sl false (ints [20, 25])), (7, .sl false (ints [5, 3, 2, 0, 0, 0])), (10, .sl false (ints [0, 1, 2, 1, 0])), (11, .int .i64 3), (13, .int .i64 2)] ⟨rfl, rfl, rfl, rfl, rfl, rfl, rfl, rfl, rfl, rfl, rfl, rfl, trivial⟩ ?_
  conv => whnf
  repeat' first | ((with_reducible apply XBr.tt); conv => whnf) | ((with_reducible apply XBr.ff); conv => whnf) | (with_reducible apply XBr.not) | ((with_reducible apply XBr.dec) <;> (intro h; first | (exfalso; omega) | ((try simp only [List.length_map] at h); first | (exfalso; omega) | (conv => whnf)))) | ((with_reducible apply XBr.beq) <;> (intro h; first | (exfalso; omega) | (conv => whnf))) | ((with_reducible apply XBr.bne) <;> (intro h; first | (exfalso; omega) | (conv => whnf))) | ((with_reducible refine XInt.i64 (by omega) (by omega) ?_); conv => whnf) | ((with_reducible refine XHold.mk ?_ ?_); (first | omega | rfl | decide | exact ⟨rfl, by decide, rfl⟩ | exact wideI _ | exact widePr _ | exact wideSk _ | (unfold Room; constructor <;> ((try simp) <;> omega)) | exact ⟨rfl, by simp only [List.length_map], by unfold Room; constructor <;> ((try simp) <;> omega)⟩ | exact ⟨by omega, by omega, by unfold Room; constructor <;> ((try simp) <;> omega)⟩); conv => whnf) | ((with_reducible refine XIx.nat ?_ ?_ ?_); omega; (intro _; rfl); conv => whnf) | ((with_reducible refine XIx.map ?_ ?_ ?_ ?_); omega; omega; (intro _; rfl); conv => whnf) | (with_reducible apply XAnd.mk) | ((with_reducible apply Chk.go); conv => whnf) | ((with_reducible apply ChkA.go); conv => whnf) | ((with_reducible apply ChkF.go); conv => whnf) | ((with_reducible apply ChkB.go); conv => whnf) | (exact XSame.mk rfl rfl) | (exact XSame.mk (by first | rfl | (simp only [List.map_append, List.length_append, List.length_map]; done) | (simp only [List.map_append, List.length_append, List.length_map]; rfl)) (by first | rfl | (simp only [List.map_append]; done) | (simp only [List.map_append]; rfl))) | (with_reducible exact trivial) | ((with_reducible refine xdrop_app (by rw [List.length_map]; omega) ?_); conv => whnf) | ((with_reducible refine XArr.ints (by omega) (by omega) (by omega) ?_); conv => whnf) | ((with_reducible refine XArr.intsA (by omega) (by omega) (by omega) ?_); conv => whnf) | ((with_reducible refine XArr.nats ?_ ?_ ?_); omega; omega; conv => whnf) | ((with_reducible refine XArr.natsA ?_ ?_ ?_); omega; omega; conv => whnf) | ((with_reducible apply XArr.pim0); conv => whnf) | ((with_reducible apply XArr.pim1); conv => whnf) | ((with_reducible refine XArr.ptr ?_ ?_ ?_); omega; omega; conv => whnf) | ((with_reducible apply XBr.mk') <;> (intro h; conv => whnf))
  refine XCall.ret cEq1 ?_
  conv => whnf
  repeat' first | ((with_reducible apply XBr.tt); conv => whnf) | ((with_reducible apply XBr.ff); conv => whnf) | (with_reducible apply XBr.not) | ((with_reducible apply XBr.dec) <;> (intro h; first | (exfalso; omega) | ((try simp only [List.length_map] at h); first | (exfalso; omega) | (conv => whnf)))) | ((with_reducible apply XBr.beq) <;> (intro h; first | (exfalso; omega) | (conv => whnf))) | ((with_reducible apply XBr.bne) <;> (intro h; first | (exfalso; omega) | (conv => whnf))) | ((with_reducible refine XInt.i64 (by omega) (by omega) ?_); conv => whnf) | ((with_reducible refine XHold.mk ?_ ?_); (first | omega | rfl | decide | exact ⟨rfl, by decide, rfl⟩ | exact wideI _ | exact widePr _ | exact wideSk _ | (unfold Room; constructor <;> ((try simp) <;> omega)) | exact ⟨rfl, by simp only [List.length_map], by unfold Room; constructor <;> ((try simp) <;> omega)⟩ | exact ⟨by omega, by omega, by unfold Room; constructor <;> ((try simp) <;> omega)⟩); conv => whnf) | ((with_reducible refine XIx.nat ?_ ?_ ?_); omega; (intro _; rfl); conv => whnf) | ((with_reducible refine XIx.map ?_ ?_ ?_ ?_); omega; omega; (intro _; rfl); conv => whnf) | (with_reducible apply XAnd.mk) | ((with_reducible apply Chk.go); conv => whnf) | ((with_reducible apply ChkA.go); conv => whnf) | ((with_reducible apply ChkF.go); conv => whnf) | ((with_reducible apply ChkB.go); conv => whnf) | (exact XSame.mk rfl rfl) | (exact XSame.mk (by first | rfl | (simp only [List.map_append, List.length_append, List.length_map]; done) | (simp only [List.map_append, List.length_append, List.length_map]; rfl)) (by first | rfl | (simp only [List.map_append]; done) | (simp only [List.map_append]; rfl))) | (with_reducible exact trivial) | ((with_reducible refine xdrop_app (by rw [List.length_map]; omega) ?_); conv => whnf) | ((with_reducible refine XArr.ints (by omega) (by omega) (by omega) ?_); conv => whnf) | ((with_reducible refine XArr.intsA (by omega) (by omega) (by omega) ?_); conv => whnf) | ((with_reducible refine XArr.nats ?_ ?_ ?_); omega; omega; conv => whnf) | ((with_reducible refine XArr.natsA ?_ ?_ ?_); omega; omega; conv => whnf) | ((with_reducible apply XArr.pim0); conv => whnf) | ((with_reducible apply XArr.pim1); conv => whnf) | ((with_reducible refine XArr.ptr ?_ ?_ ?_); omega; omega; conv => whnf) | ((with_reducible apply XBr.mk') <;> (intro h; conv => whnf))
  refine XCall.ret cEq2 ?_
  conv => whnf
  repeat' first | ((with_reducible apply XBr.tt); conv => whnf) | ((with_reducible apply XBr.ff); conv => whnf) | (with_reducible apply XBr.not) | ((with_reducible apply XBr.dec) <;> (intro h; first | (exfalso; omega) | ((try simp only [List.length_map] at h); first | (exfalso; omega) | (conv => whnf)))) | ((with_reducible apply XBr.beq) <;> (intro h; first | (exfalso; omega) | (conv => whnf))) | ((with_reducible apply XBr.bne) <;> (intro h; first | (exfalso; omega) | (conv => whnf))) | ((with_reducible refine XInt.i64 (by omega) (by omega) ?_); conv => whnf) | ((with_reducible refine XHold.mk ?_ ?_); (first | omega | rfl | decide | exact ⟨rfl, by decide, rfl⟩ | exact wideI _ | exact widePr _ | exact wideSk _ | (unfold Room; constructor <;> ((try simp) <;> omega)) | exact ⟨rfl, by simp only [List.length_map], by unfold Room; constructor <;> ((try simp) <;> omega)⟩ | exact ⟨by omega, by omega, by unfold Room; constructor <;> ((try simp) <;> omega)⟩); conv => whnf) | ((with_reducible refine XIx.nat ?_ ?_ ?_); omega; (intro _; rfl); conv => whnf) | ((with_reducible refine XIx.map ?_ ?_ ?_ ?_); omega; omega; (intro _; rfl); conv => whnf) | (with_reducible apply XAnd.mk) | ((with_reducible apply Chk.go); conv => whnf) | ((with_reducible apply ChkA.go); conv => whnf) | ((with_reducible apply ChkF.go); conv => whnf) | ((with_reducible apply ChkB.go); conv => whnf) | (exact XSame.mk rfl rfl) | (exact XSame.mk (by first | rfl | (simp only [List.map_append, List.length_append, List.length_map]; done) | (simp only [List.map_append, List.length_append, List.length_map]; rfl)) (by first | rfl | (simp only [List.map_append]; done) | (simp only [List.map_append]; rfl))) | (with_reducible exact trivial) | ((with_reducible refine xdrop_app (by rw [List.length_map]; omega) ?_); conv => whnf) | ((with_reducible refine XArr.ints (by omega) (by omega) (by omega) ?_); conv => whnf) | ((with_reducible refine XArr.intsA (by omega) (by omega) (by omega) ?_); conv => whnf) | ((with_reducible refine XArr.nats ?_ ?_ ?_); omega; omega; conv => whnf) | ((with_reducible refine XArr.natsA ?_ ?_ ?_); omega; omega; conv => whnf) | ((with_reducible apply XArr.pim0); conv => whnf) | ((with_reducible apply XArr.pim1); conv => whnf) | ((with_reducible refine XArr.ptr ?_ ?_ ?_); omega; omega; conv => whnf) | ((with_reducible apply XBr.mk') <;> (intro h; conv => whnf))
  refine XCall.ret cEq3 ?_
  conv => whnf
  repeat' first | ((with_reducible apply XBr.tt); conv => whnf) | ((with_reducible apply XBr.ff); conv => whnf) | (with_reducible apply XBr.not) | ((with_reducible apply XBr.dec) <;> (intro h; first | (exfalso; omega) | ((try simp only [List.length_map] at h); first | (exfalso; omega) | (conv => whnf)))) | ((with_reducible apply XBr.beq) <;> (intro h; first | (exfalso; omega) | (conv => whnf))) | ((with_reducible apply XBr.bne) <;> (intro h; first | (exfalso; omega) | (conv => whnf))) | ((with_reducible refine XInt.i64 (by omega) (by omega) ?_); conv => whnf) | ((with_reducible refine XHold.mk ?_ ?_); (first | omega | rfl | decide | exact ⟨rfl, by decide, rfl⟩ | exact wideI _ | exact widePr _ | exact wideSk _ | (unfold Room; constructor <;> ((try simp) <;> omega)) | exact ⟨rfl, by simp only [List.length_map], by unfold Room; constructor <;> ((try simp) <;> omega)⟩ | exact ⟨by omega, by omega, by unfold Room; constructor <;> ((try simp) <;> omega)⟩); conv => whnf) | ((with_reducible refine XIx.nat ?_ ?_ ?_); omega; (intro _; rfl); conv => whnf) | ((with_reducible refine XIx.map ?_ ?_ ?_ ?_); omega; omega; (intro _; rfl); conv => whnf) | (with_reducible apply XAnd.mk) | ((with_reducible apply Chk.go); conv => whnf) | ((with_reducible apply ChkA.go); conv => whnf) | ((with_reducible apply ChkF.go); conv => whnf) | ((with_reducible apply ChkB.go); conv => whnf) | (exact XSame.mk rfl rfl) | (exact XSame.mk (by first | rfl | (simp only [List.map_append, List.length_append, List.length_map]; done) | (simp only [List.map_append, List.length_append, List.length_map]; rfl)) (by first | rfl | (simp only [List.map_append]; done) | (simp only [List.map_append]; rfl))) | (with_reducible exact trivial) | ((with_reducible refine xdrop_app (by rw [List.length_map]; omega) ?_); conv => whnf) | ((with_reducible refine XArr.ints (by omega) (by omega) (by omega) ?_); conv => whnf) | ((with_reducible refine XArr.intsA (by omega) (by omega) (by omega) ?_); conv => whnf) | ((with_reducible refine XArr.nats ?_ ?_ ?_); omega; omega; conv => whnf) | ((with_reducible refine XArr.natsA ?_ ?_ ?_); omega; omega; conv => whnf) | ((with_reducible apply XArr.pim0); conv => whnf) | ((with_reducible apply XArr.pim1); conv => whnf) | ((with_reducible refine XArr.ptr ?_ ?_ ?_); omega; omega; conv => whnf) | ((with_reducible apply XBr.mk') <;> (intro h; conv => whnf))
  refine XCall.ret cEq4 ?_
  conv => whnf
  repeat' first | ((with_reducible apply XBr.tt); conv => whnf) | ((with_reducible apply XBr.ff); conv => whnf) | (with_reducible apply XBr.not) | ((with_reducible apply XBr.dec) <;> (intro h; first | (exfalso; omega) | ((try simp only [List.length_map] at h); first | (exfalso; omega) | (conv => whnf)))) | ((with_reducible apply XBr.beq) <;> (intro h; first | (exfalso; omega) | (conv => whnf))) | ((with_reducible apply XBr.bne) <;> (intro h; first | (exfalso; omega) | (conv => whnf))) | ((with_reducible refine XInt.i64 (by omega) (by omega) ?_); conv => whnf) | ((with_reducible refine XHold.mk ?_ ?_); (first | omega | rfl | decide | exact ⟨rfl, by decide, rfl⟩ | exact wideI _ | exact widePr _ | exact wideSk _ | (unfold Room; constructor <;> ((try simp) <;> omega)) | exact ⟨rfl, by simp only [List.length_map], by unfold Room; constructor <;> ((try simp) <;> omega)⟩ | exact ⟨by omega, by omega, by unfold Room; constructor <;> ((try simp) <;> omega)⟩); conv => whnf) | ((with_reducible refine XIx.nat ?_ ?_ ?_); omega; (intro _; rfl); conv => whnf) | ((with_reducible refine XIx.map ?_ ?_ ?_ ?_); omega; omega; (intro _; rfl); conv => whnf) | (with_reducible apply XAnd.mk) | ((with_reducible apply Chk.go); conv => whnf) | ((with_reducible apply ChkA.go); conv => whnf) | ((with_reducible apply ChkF.go); conv => whnf) | ((with_reducible apply ChkB.go); conv => whnf) | (exact XSame.mk rfl rfl) | (exact XSame.mk (by first | rfl | (simp only [List.map_append, List.length_append, List.length_map]; done) | (simp only [List.map_append, List.length_append, List.length_map]; rfl)) (by first | rfl | (simp only [List.map_append]; done) | (simp only [List.map_append]; rfl))) | (with_reducible exact trivial) | ((with_reducible refine xdrop_app (by rw [List.length_map]; omega) ?_); conv => whnf) | ((with_reducible refine XArr.ints (by omega) (by omega) (by omega) ?_); conv => whnf) | ((with_reducible refine XArr.intsA (by omega) (by omega) (by omega) ?_); conv => whnf) | ((with_reducible refine XArr.nats ?_ ?_ ?_); omega; omega; conv => whnf) | ((with_reducible refine XArr.natsA ?_ ?_ ?_); omega; omega; conv => whnf) | ((with_reducible apply XArr.pim0); conv => whnf) | ((with_reducible apply XArr.pim1); conv => whnf) | ((with_reducible refine XArr.ptr ?_ ?_ ?_); omega; omega; conv => whnf) | ((with_reducible apply XBr.mk') <;> (intro h; conv => whnf))
  exact ⟨Froz.low rfl⟩
end GA
end

section
namespace GA
open Go Go.RowKit Go.Proofs
set_option pp.deepTerms true
set_option maxRecDepth 8000
set_option linter.unusedVariables false

abbrev bytes (xs : List Int) : List AV := xs.map (.int .u8)
theorem lowBy {n : Nat} (xs : List Int) : lowL n (bytes xs) = true := lowL_map (fun _ => rfl) xs
/-- A heap of numbers. -/
structure Hp where
  nl : Bool
  bs : List Int
  nx : Nat
  rd : Int
  deriving Inhabited
def hpC (h : Hp) : Blk := .cells [.sl h.nl (bytes h.bs), .int .i64 h.nx, .int .u32 h.rd]
structure Hp.Ok (h : Hp) : Prop where
  l : h.bs.length < 9223372036854775808
  n : h.nx < h.bs.length ∨ h.nx = 0
def hpN (h : Hp) : Int := IntKind.u32.wrap (40503 * IntKind.u32.wrap (h.rd + 1))
def hpM (h : Hp) : Int := if h.nx < h.bs.length then IntKind.u32.wrap (hpN h + IntKind.u32.wrap (331 * IntKind.u32.wrap (h.bs.getD h.nx default))) else hpN h
def hpV' (n : Int) : Int := iand .u32 (ixor .u32 n (n.fdiv (2 ^ (min (9 : Int).toNat IntKind.u32.bits)))) 32767
def hpV (h : Hp) : Int := hpV' (hpM h)
def hpS (h : Hp) : Hp := if h.bs.length ≤ h.nx + 1 then ⟨h.nl, h.bs, 0, IntKind.u32.wrap (h.rd + 1)⟩ else ⟨h.nl, h.bs, h.nx + 1, h.rd⟩
theorem hpV_bound (n : Int) : 0 ≤ hpV' n ∧ hpV' n ≤ 32767 := by
  unfold hpV' iand
  have h1 : (BitVec.ofInt IntKind.u32.bits (ixor .u32 n (n.fdiv (2 ^ (min (9 : Int).toNat IntKind.u32.bits)))) &&& BitVec.ofInt IntKind.u32.bits 32767).toNat ≤ 32767 := by
    rw [BitVec.toNat_and]
    exact Nat.le_trans Nat.and_le_right (by decide)
  generalize (BitVec.ofInt IntKind.u32.bits (ixor .u32 n (n.fdiv (2 ^ (min (9 : Int).toNat IntKind.u32.bits)))) &&& BitVec.ofInt IntKind.u32.bits 32767).toNat = m at h1 ⊢
  simp only [IntKind.wrap, IntKind.bits, IntKind.signed]
  constructor <;> simp <;> omega
theorem hpS_ok {h : Hp} (o : h.Ok) : (hpS h).Ok := by
  unfold hpS; split
  · exact ⟨o.l, .inr rfl⟩
  · exact ⟨o.l, .inl (by dsimp only; omega)⟩
theorem hpC_low {n : Nat} (h : Hp) : (hpC h).low n = true := by simp only [hpC, Blk.low, lowL, AV.low, lowBy]; rfl
theorem hpC_ren (f : Nat → Nat) (h : Hp) : (hpC h).ren f = hpC h := Blk.ren_low (n := 0) (fun i hi => by omega) (hpC_low h)

theorem XInt.w {q : IntKind} {x : Int} {k : AV → Prop} (h : k (.int q (q.wrap x))) : XInt q x k := ⟨h⟩

/-- A call that is lent a heap. -/
def HpOk (f : FuncId) (qs : List AV) (h : Hp) (r : AV) (h' : Hp) : Prop :=
  lowL 0 qs = true ∧ ACall Try.prog f (.ptr 0 0 :: qs) [hpC h] fun r' H' => r' = r ∧ H' = [hpC h']
theorem XCall.hp {f : FuncId} {qs : List AV} {h h' : Hp} {r : AV} (x : HpOk f qs h r h') (hr : r.low 0 = true) {H : List Blk} {k : AV → List Blk → Prop} {j : Nat} (h0 : lget H j = some (hpC h))
    (hk : k r (H.set j (hpC h'))) : XCall Try.prog f (.ptr j 0 :: qs) H k := by
  constructor
  have e := ACall.frame (ρ := fun i => j + i) (H := H) (k := k) x.2 (fun a b _ _ h => by have : j + a = j + b := h; omega) ?_ (fun y hy => by simp at hy; subst hy; exact hpC_low h) ?_ ?_
  · have hd : renL (fun i => j + i) qs = qs := renL_low0 x.1
    rw [List.map_cons, ← renL_eq, hd] at e
    exact e
  · intro i x1 hi
    rw [lget_eq] at h0
    rcases i with _ | i
    · simp only [List.getElem?_cons_zero, Option.some.injEq] at hi; subst hi
      rw [hpC_ren]; exact h0
    · simp at hi
  · simp only [lowL, AV.low, lowL_mono (Nat.zero_le _) x.1]; rfl
  · rintro r1 H1' ⟨rfl, rfl⟩
    rw [lget_eq] at h0
    have hj := (List.getElem?_eq_some_iff.1 h0).1
    refine ⟨rfl, H.set j (hpC h'), by simp, fun i x1 hi => ?_, fun q hq => ?_, ?_⟩
    · rcases i with _ | i
      · simp only [List.getElem?_cons_zero, Option.some.injEq] at hi; subst hi
        rw [hpC_ren]; simp [hj]
      · simp at hi
    · exact List.getElem?_set_ne (by have := hq 0 (by simp); simpa using this)
    · rw [AV.ren_low (n := 0) (fun i hi => by omega) hr]; exact hk

theorem hpM_lt {u : Hp} (h : (u.nx : Int) < u.bs.length) : hpM u = IntKind.u32.wrap (hpN u + IntKind.u32.wrap (331 * IntKind.u32.wrap (u.bs.getD u.nx default))) := if_pos (by omega)
theorem hpM_ge {u : Hp} (h : ¬ (u.nx : Int) < u.bs.length) : hpM u = hpN u := if_neg (by omega)
theorem hpS_end {u : Hp} (h : (u.bs.length : Int) ≤ u.nx + 1) : [hpC (hpS u)] = [Blk.cells [AV.sl u.nl (bytes u.bs), AV.int IntKind.i64 0, AV.int IntKind.u32 (IntKind.u32.wrap (u.rd + 1))]] := by
  unfold hpS; rw [if_pos (by omega)]; rfl
theorem hpS_on {u : Hp} (h : ¬ (u.bs.length : Int) ≤ u.nx + 1) : [hpC (hpS u)] = [Blk.cells [AV.sl u.nl (bytes u.bs), AV.int IntKind.i64 (u.nx + 1), AV.int IntKind.u32 u.rd]] := by
  unfold hpS; rw [if_neg (by omega)]; rfl
theorem i64_small {n : Int} (h1 : 0 ≤ n) (h2 : n ≤ 32767) : IntKind.i64.wrap n = n := by
  simp only [IntKind.wrap, IntKind.bits, IntKind.signed]; simp; omega
theorem pick_end {u : Hp} {n : Int} {H1 : List Blk} (hn : hpM u = n) (hS : [hpC (hpS u)] = H1) : XCut [hpC u].length [] H1 (.int .i64 (IntKind.i64.wrap (hpV' n))) fun r' H' => r' = .int .i64 (hpV u) ∧ H' = [hpC (hpS u)] := by
  subst hn; subst hS
  obtain ⟨h1, h2⟩ := hpV_bound (hpM u)
  rw [i64_small h1 h2]
  exact XCut.mk' [hpC (hpS u)] [] rfl rfl (fun x hx => by simp only [List.mem_cons, List.not_mem_nil, or_false] at hx; subst hx; exact hpC_low _) rfl ⟨rfl, rfl⟩
theorem pick_c (u : Hp) (o : u.Ok) : HpOk 86 [] u (.int .i64 (hpV u)) (hpS u) := by
  have hl := o.l
  have hn := o.n
  refine ⟨rfl, ?_⟩
  refine ACall.bodyK (T := tab) (res := [.tmp 2]) tab_ok [] Try.func86 rfl (by kernel_rfl) Try.ntmps86 rfl (by simp only [List.length_cons, List.length_nil]; decide) ?_; conv => whnf
  repeat' first | ((with_reducible apply XBr.tt); conv => whnf) | ((with_reducible apply XBr.ff); conv => whnf) | (with_reducible apply XBr.not) | ((with_reducible apply XBr.dec) <;> (intro h; first | (exfalso; omega) | ((try simp only [List.length_map] at h); first | (exfalso; omega) | (conv => whnf)))) | ((with_reducible apply XBr.beq) <;> (intro h; first | (exfalso; omega) | (conv => whnf))) | ((with_reducible apply XBr.bne) <;> (intro h; first | (exfalso; omega) | (conv => whnf))) | ((with_reducible refine XInt.i64 (by omega) (by omega) ?_); conv => whnf) | ((with_reducible refine XHold.mk ?_ ?_); (first | omega | rfl | decide | exact ⟨rfl, by decide, rfl⟩ | exact wideI _ | exact widePr _ | exact wideSk _ | (unfold Room; constructor <;> ((try simp) <;> omega)) | exact ⟨rfl, by simp only [List.length_map], by unfold Room; constructor <;> ((try simp) <;> omega)⟩ | exact ⟨by omega, by omega, by unfold Room; constructor <;> ((try simp) <;> omega)⟩); conv => whnf) | ((with_reducible refine XIx.nat ?_ ?_ ?_); omega; (intro _; rfl); conv => whnf) | ((with_reducible refine XIx.map ?_ ?_ ?_ ?_); omega; omega; (intro _; rfl); conv => whnf) | (with_reducible apply XAnd.mk) | ((with_reducible apply Chk.go); conv => whnf) | ((with_reducible apply ChkA.go); conv => whnf) | ((with_reducible apply ChkF.go); conv => whnf) | ((with_reducible apply ChkB.go); conv => whnf) | (exact XSame.mk rfl rfl) | (exact XSame.mk (by first | rfl | (simp only [List.map_append, List.length_append, List.length_map]; done) | (simp only [List.map_append, List.length_append, List.length_map]; rfl)) (by first | rfl | (simp only [List.map_append]; done) | (simp only [List.map_append]; rfl))) | (with_reducible exact trivial) | ((with_reducible refine xdrop_app (by rw [List.length_map]; omega) ?_); conv => whnf) | ((with_reducible refine XArr.ints (by omega) (by omega) (by omega) ?_); conv => whnf) | ((with_reducible refine XArr.intsA (by omega) (by omega) (by omega) ?_); conv => whnf) | ((with_reducible refine XArr.nats ?_ ?_ ?_); omega; omega; conv => whnf) | ((with_reducible refine XArr.natsA ?_ ?_ ?_); omega; omega; conv => whnf) | ((with_reducible apply XArr.pim0); conv => whnf) | ((with_reducible apply XArr.pim1); conv => whnf) | ((with_reducible refine XArr.ptr ?_ ?_ ?_); omega; omega; conv => whnf) | ((refine XInt.w ?_); conv => whnf) | ((with_reducible apply XBr.mk') <;> (intro h; conv => whnf))
  apply Walk.drawX tab_ok mixed_ok [] [] (hsK _) [_, _, _, _, _, _, _, _, _, _] (by kernel_rfl) rfl
  · skip
    repeat' first | ((with_reducible apply XBr.tt); conv => whnf) | ((with_reducible apply XBr.ff); conv => whnf) | (with_reducible apply XBr.not) | ((with_reducible apply XBr.dec) <;> (intro h; first | (exfalso; omega) | ((try simp only [List.length_map] at h); first | (exfalso; omega) | (conv => whnf)))) | ((with_reducible apply XBr.beq) <;> (intro h; first | (exfalso; omega) | (conv => whnf))) | ((with_reducible apply XBr.bne) <;> (intro h; first | (exfalso; omega) | (conv => whnf))) | ((with_reducible refine XInt.i64 (by omega) (by omega) ?_); conv => whnf) | ((with_reducible refine XHold.mk ?_ ?_); (first | omega | rfl | decide | exact ⟨rfl, by decide, rfl⟩ | exact wideI _ | exact widePr _ | exact wideSk _ | (unfold Room; constructor <;> ((try simp) <;> omega)) | exact ⟨rfl, by simp only [List.length_map], by unfold Room; constructor <;> ((try simp) <;> omega)⟩ | exact ⟨by omega, by omega, by unfold Room; constructor <;> ((try simp) <;> omega)⟩); conv => whnf) | ((with_reducible refine XIx.nat ?_ ?_ ?_); omega; (intro _; rfl); conv => whnf) | ((with_reducible refine XIx.map ?_ ?_ ?_ ?_); omega; omega; (intro _; rfl); conv => whnf) | (with_reducible apply XAnd.mk) | ((with_reducible apply Chk.go); conv => whnf) | ((with_reducible apply ChkA.go); conv => whnf) | ((with_reducible apply ChkF.go); conv => whnf) | ((with_reducible apply ChkB.go); conv => whnf) | (exact XSame.mk rfl rfl) | (exact XSame.mk (by first | rfl | (simp only [List.map_append, List.length_append, List.length_map]; done) | (simp only [List.map_append, List.length_append, List.length_map]; rfl)) (by first | rfl | (simp only [List.map_append]; done) | (simp only [List.map_append]; rfl))) | (with_reducible exact trivial) | ((with_reducible refine xdrop_app (by rw [List.length_map]; omega) ?_); conv => whnf) | ((with_reducible refine XArr.ints (by omega) (by omega) (by omega) ?_); conv => whnf) | ((with_reducible refine XArr.intsA (by omega) (by omega) (by omega) ?_); conv => whnf) | ((with_reducible refine XArr.nats ?_ ?_ ?_); omega; omega; conv => whnf) | ((with_reducible refine XArr.natsA ?_ ?_ ?_); omega; omega; conv => whnf) | ((with_reducible apply XArr.pim0); conv => whnf) | ((with_reducible apply XArr.pim1); conv => whnf) | ((with_reducible refine XArr.ptr ?_ ?_ ?_); omega; omega; conv => whnf) | ((with_reducible apply XBr.mk') <;> (intro h; conv => whnf))
  · skip
    repeat' first | ((with_reducible apply XBr.tt); conv => whnf) | ((with_reducible apply XBr.ff); conv => whnf) | (with_reducible apply XBr.not) | ((with_reducible apply XBr.dec) <;> (intro h; first | (exfalso; omega) | ((try simp only [List.length_map] at h); first | (exfalso; omega) | (conv => whnf)))) | ((with_reducible apply XBr.beq) <;> (intro h; first | (exfalso; omega) | (conv => whnf))) | ((with_reducible apply XBr.bne) <;> (intro h; first | (exfalso; omega) | (conv => whnf))) | ((with_reducible refine XInt.i64 (by omega) (by omega) ?_); conv => whnf) | ((with_reducible refine XHold.mk ?_ ?_); (first | omega | rfl | decide | exact ⟨rfl, by decide, rfl⟩ | exact wideI _ | exact widePr _ | exact wideSk _ | (unfold Room; constructor <;> ((try simp) <;> omega)) | exact ⟨rfl, by simp only [List.length_map], by unfold Room; constructor <;> ((try simp) <;> omega)⟩ | exact ⟨by omega, by omega, by unfold Room; constructor <;> ((try simp) <;> omega)⟩); conv => whnf) | ((with_reducible refine XIx.nat ?_ ?_ ?_); omega; (intro _; rfl); conv => whnf) | ((with_reducible refine XIx.map ?_ ?_ ?_ ?_); omega; omega; (intro _; rfl); conv => whnf) | (with_reducible apply XAnd.mk) | ((with_reducible apply Chk.go); conv => whnf) | ((with_reducible apply ChkA.go); conv => whnf) | ((with_reducible apply ChkF.go); conv => whnf) | ((with_reducible apply ChkB.go); conv => whnf) | (exact XSame.mk rfl rfl) | (exact XSame.mk (by first | rfl | (simp only [List.map_append, List.length_append, List.length_map]; done) | (simp only [List.map_append, List.length_append, List.length_map]; rfl)) (by first | rfl | (simp only [List.map_append]; done) | (simp only [List.map_append]; rfl))) | (with_reducible exact trivial) | ((with_reducible refine xdrop_app (by rw [List.length_map]; omega) ?_); conv => whnf) | ((with_reducible refine XArr.ints (by omega) (by omega) (by omega) ?_); conv => whnf) | ((with_reducible refine XArr.intsA (by omega) (by omega) (by omega) ?_); conv => whnf) | ((with_reducible refine XArr.nats ?_ ?_ ?_); omega; omega; conv => whnf) | ((with_reducible refine XArr.natsA ?_ ?_ ?_); omega; omega; conv => whnf) | ((with_reducible apply XArr.pim0); conv => whnf) | ((with_reducible apply XArr.pim1); conv => whnf) | ((with_reducible refine XArr.ptr ?_ ?_ ?_); omega; omega; conv => whnf) | ((with_reducible apply XBr.mk') <;> (intro h; conv => whnf))
  · conv => whnf
    repeat' first | ((with_reducible apply XBr.tt); conv => whnf) | ((with_reducible apply XBr.ff); conv => whnf) | (with_reducible apply XBr.not) | ((with_reducible apply XBr.dec) <;> (intro h; first | (exfalso; omega) | ((try simp only [List.length_map] at h); first | (exfalso; omega) | (conv => whnf)))) | ((with_reducible apply XBr.beq) <;> (intro h; first | (exfalso; omega) | (conv => whnf))) | ((with_reducible apply XBr.bne) <;> (intro h; first | (exfalso; omega) | (conv => whnf))) | ((with_reducible refine XInt.i64 (by omega) (by omega) ?_); conv => whnf) | ((with_reducible refine XHold.mk ?_ ?_); (first | omega | rfl | decide | exact ⟨rfl, by decide, rfl⟩ | exact wideI _ | exact widePr _ | exact wideSk _ | (unfold Room; constructor <;> ((try simp) <;> omega)) | exact ⟨rfl, by simp only [List.length_map], by unfold Room; constructor <;> ((try simp) <;> omega)⟩ | exact ⟨by omega, by omega, by unfold Room; constructor <;> ((try simp) <;> omega)⟩); conv => whnf) | ((with_reducible refine XIx.nat ?_ ?_ ?_); omega; (intro _; rfl); conv => whnf) | ((with_reducible refine XIx.map ?_ ?_ ?_ ?_); omega; omega; (intro _; rfl); conv => whnf) | (with_reducible apply XAnd.mk) | ((with_reducible apply Chk.go); conv => whnf) | ((with_reducible apply ChkA.go); conv => whnf) | ((with_reducible apply ChkF.go); conv => whnf) | ((with_reducible apply ChkB.go); conv => whnf) | (exact XSame.mk rfl rfl) | (exact XSame.mk (by first | rfl | (simp only [List.map_append, List.length_append, List.length_map]; done) | (simp only [List.map_append, List.length_append, List.length_map]; rfl)) (by first | rfl | (simp only [List.map_append]; done) | (simp only [List.map_append]; rfl))) | (with_reducible exact trivial) | ((with_reducible refine xdrop_app (by rw [List.length_map]; omega) ?_); conv => whnf) | ((with_reducible refine XArr.ints (by omega) (by omega) (by omega) ?_); conv => whnf) | ((with_reducible refine XArr.intsA (by omega) (by omega) (by omega) ?_); conv => whnf) | ((with_reducible refine XArr.nats ?_ ?_ ?_); omega; omega; conv => whnf) | ((with_reducible refine XArr.natsA ?_ ?_ ?_); omega; omega; conv => whnf) | ((with_reducible apply XArr.pim0); conv => whnf) | ((with_reducible apply XArr.pim1); conv => whnf) | ((with_reducible refine XArr.ptr ?_ ?_ ?_); omega; omega; conv => whnf) | ((with_reducible apply XBr.mk') <;> (intro h; conv => whnf))
    · apply Walk.drawX tab_ok mixed_ok [] [] (hsK _) [_, _, _, _, _, _, _, _, _, _, _, _, _, _, _] (by kernel_rfl) rfl
      · skip
        repeat' first | ((with_reducible apply XBr.tt); conv => whnf) | ((with_reducible apply XBr.ff); conv => whnf) | (with_reducible apply XBr.not) | ((with_reducible apply XBr.dec) <;> (intro h; first | (exfalso; omega) | ((try simp only [List.length_map] at h); first | (exfalso; omega) | (conv => whnf)))) | ((with_reducible apply XBr.beq) <;> (intro h; first | (exfalso; omega) | (conv => whnf))) | ((with_reducible apply XBr.bne) <;> (intro h; first | (exfalso; omega) | (conv => whnf))) | ((with_reducible refine XInt.i64 (by omega) (by omega) ?_); conv => whnf) | ((with_reducible refine XHold.mk ?_ ?_); (first | omega | rfl | decide | exact ⟨rfl, by decide, rfl⟩ | exact wideI _ | exact widePr _ | exact wideSk _ | (unfold Room; constructor <;> ((try simp) <;> omega)) | exact ⟨rfl, by simp only [List.length_map], by unfold Room; constructor <;> ((try simp) <;> omega)⟩ | exact ⟨by omega, by omega, by unfold Room; constructor <;> ((try simp) <;> omega)⟩); conv => whnf) | ((with_reducible refine XIx.nat ?_ ?_ ?_); omega; (intro _; rfl); conv => whnf) | ((with_reducible refine XIx.map ?_ ?_ ?_ ?_); omega; omega; (intro _; rfl); conv => whnf) | (with_reducible apply XAnd.mk) | ((with_reducible apply Chk.go); conv => whnf) | ((with_reducible apply ChkA.go); conv => whnf) | ((with_reducible apply ChkF.go); conv => whnf) | ((with_reducible apply ChkB.go); conv => whnf) | (exact XSame.mk rfl rfl) | (exact XSame.mk (by first | rfl | (simp only [List.map_append, List.length_append, List.length_map]; done) | (simp only [List.map_append, List.length_append, List.length_map]; rfl)) (by first | rfl | (simp only [List.map_append]; done) | (simp only [List.map_append]; rfl))) | (with_reducible exact trivial) | ((with_reducible refine xdrop_app (by rw [List.length_map]; omega) ?_); conv => whnf) | ((with_reducible refine XArr.ints (by omega) (by omega) (by omega) ?_); conv => whnf) | ((with_reducible refine XArr.intsA (by omega) (by omega) (by omega) ?_); conv => whnf) | ((with_reducible refine XArr.nats ?_ ?_ ?_); omega; omega; conv => whnf) | ((with_reducible refine XArr.natsA ?_ ?_ ?_); omega; omega; conv => whnf) | ((with_reducible apply XArr.pim0); conv => whnf) | ((with_reducible apply XArr.pim1); conv => whnf) | ((with_reducible refine XArr.ptr ?_ ?_ ?_); omega; omega; conv => whnf) | ((refine XInt.w ?_); conv => whnf) | ((with_reducible apply XBr.mk') <;> (intro h; conv => whnf))
      · skip
        repeat' first | ((with_reducible apply XBr.tt); conv => whnf) | ((with_reducible apply XBr.ff); conv => whnf) | (with_reducible apply XBr.not) | ((with_reducible apply XBr.dec) <;> (intro h; first | (exfalso; omega) | ((try simp only [List.length_map] at h); first | (exfalso; omega) | (conv => whnf)))) | ((with_reducible apply XBr.beq) <;> (intro h; first | (exfalso; omega) | (conv => whnf))) | ((with_reducible apply XBr.bne) <;> (intro h; first | (exfalso; omega) | (conv => whnf))) | ((with_reducible refine XInt.i64 (by omega) (by omega) ?_); conv => whnf) | ((with_reducible refine XHold.mk ?_ ?_); (first | omega | rfl | decide | exact ⟨rfl, by decide, rfl⟩ | exact wideI _ | exact widePr _ | exact wideSk _ | (unfold Room; constructor <;> ((try simp) <;> omega)) | exact ⟨rfl, by simp only [List.length_map], by unfold Room; constructor <;> ((try simp) <;> omega)⟩ | exact ⟨by omega, by omega, by unfold Room; constructor <;> ((try simp) <;> omega)⟩); conv => whnf) | ((with_reducible refine XIx.nat ?_ ?_ ?_); omega; (intro _; rfl); conv => whnf) | ((with_reducible refine XIx.map ?_ ?_ ?_ ?_); omega; omega; (intro _; rfl); conv => whnf) | (with_reducible apply XAnd.mk) | ((with_reducible apply Chk.go); conv => whnf) | ((with_reducible apply ChkA.go); conv => whnf) | ((with_reducible apply ChkF.go); conv => whnf) | ((with_reducible apply ChkB.go); conv => whnf) | (exact XSame.mk rfl rfl) | (exact XSame.mk (by first | rfl | (simp only [List.map_append, List.length_append, List.length_map]; done) | (simp only [List.map_append, List.length_append, List.length_map]; rfl)) (by first | rfl | (simp only [List.map_append]; done) | (simp only [List.map_append]; rfl))) | (with_reducible exact trivial) | ((with_reducible refine xdrop_app (by rw [List.length_map]; omega) ?_); conv => whnf) | ((with_reducible refine XArr.ints (by omega) (by omega) (by omega) ?_); conv => whnf) | ((with_reducible refine XArr.intsA (by omega) (by omega) (by omega) ?_); conv => whnf) | ((with_reducible refine XArr.nats ?_ ?_ ?_); omega; omega; conv => whnf) | ((with_reducible refine XArr.natsA ?_ ?_ ?_); omega; omega; conv => whnf) | ((with_reducible apply XArr.pim0); conv => whnf) | ((with_reducible apply XArr.pim1); conv => whnf) | ((with_reducible refine XArr.ptr ?_ ?_ ?_); omega; omega; conv => whnf) | ((refine XInt.w ?_); conv => whnf) | ((with_reducible apply XBr.mk') <;> (intro h; conv => whnf))
      · conv => whnf
        repeat' first | ((with_reducible apply XBr.tt); conv => whnf) | ((with_reducible apply XBr.ff); conv => whnf) | (with_reducible apply XBr.not) | ((with_reducible apply XBr.dec) <;> (intro h; first | (exfalso; omega) | ((try simp only [List.length_map] at h); first | (exfalso; omega) | (conv => whnf)))) | ((with_reducible apply XBr.beq) <;> (intro h; first | (exfalso; omega) | (conv => whnf))) | ((with_reducible apply XBr.bne) <;> (intro h; first | (exfalso; omega) | (conv => whnf))) | ((with_reducible refine XInt.i64 (by omega) (by omega) ?_); conv => whnf) | ((with_reducible refine XHold.mk ?_ ?_); (first | omega | rfl | decide | exact ⟨rfl, by decide, rfl⟩ | exact wideI _ | exact widePr _ | exact wideSk _ | (unfold Room; constructor <;> ((try simp) <;> omega)) | exact ⟨rfl, by simp only [List.length_map], by unfold Room; constructor <;> ((try simp) <;> omega)⟩ | exact ⟨by omega, by omega, by unfold Room; constructor <;> ((try simp) <;> omega)⟩); conv => whnf) | ((with_reducible refine XIx.nat ?_ ?_ ?_); omega; (intro _; rfl); conv => whnf) | ((with_reducible refine XIx.map ?_ ?_ ?_ ?_); omega; omega; (intro _; rfl); conv => whnf) | (with_reducible apply XAnd.mk) | ((with_reducible apply Chk.go); conv => whnf) | ((with_reducible apply ChkA.go); conv => whnf) | ((with_reducible apply ChkF.go); conv => whnf) | ((with_reducible apply ChkB.go); conv => whnf) | (exact XSame.mk rfl rfl) | (exact XSame.mk (by first | rfl | (simp only [List.map_append, List.length_append, List.length_map]; done) | (simp only [List.map_append, List.length_append, List.length_map]; rfl)) (by first | rfl | (simp only [List.map_append]; done) | (simp only [List.map_append]; rfl))) | (with_reducible exact trivial) | ((with_reducible refine xdrop_app (by rw [List.length_map]; omega) ?_); conv => whnf) | ((with_reducible refine XArr.ints (by omega) (by omega) (by omega) ?_); conv => whnf) | ((with_reducible refine XArr.intsA (by omega) (by omega) (by omega) ?_); conv => whnf) | ((with_reducible refine XArr.nats ?_ ?_ ?_); omega; omega; conv => whnf) | ((with_reducible refine XArr.natsA ?_ ?_ ?_); omega; omega; conv => whnf) | ((with_reducible apply XArr.pim0); conv => whnf) | ((with_reducible apply XArr.pim1); conv => whnf) | ((with_reducible refine XArr.ptr ?_ ?_ ?_); omega; omega; conv => whnf) | ((with_reducible apply XBr.mk') <;> (intro h; conv => whnf))
        apply Walk.drawX tab_ok mixed_ok [] [] (hsK _) [_, _, _, _, _, _, _, _, _, _] (by kernel_rfl) rfl
        · skip
          repeat' first | ((with_reducible apply XBr.tt); conv => whnf) | ((with_reducible apply XBr.ff); conv => whnf) | (with_reducible apply XBr.not) | ((with_reducible apply XBr.dec) <;> (intro h; first | (exfalso; omega) | ((try simp only [List.length_map] at h); first | (exfalso; omega) | (conv => whnf)))) | ((with_reducible apply XBr.beq) <;> (intro h; first | (exfalso; omega) | (conv => whnf))) | ((with_reducible apply XBr.bne) <;> (intro h; first | (exfalso; omega) | (conv => whnf))) | ((with_reducible refine XInt.i64 (by omega) (by omega) ?_); conv => whnf) | ((with_reducible refine XHold.mk ?_ ?_); (first | omega | rfl | decide | exact ⟨rfl, by decide, rfl⟩ | exact wideI _ | exact widePr _ | exact wideSk _ | (unfold Room; constructor <;> ((try simp) <;> omega)) | exact ⟨rfl, by simp only [List.length_map], by unfold Room; constructor <;> ((try simp) <;> omega)⟩ | exact ⟨by omega, by omega, by unfold Room; constructor <;> ((try simp) <;> omega)⟩); conv => whnf) | ((with_reducible refine XIx.nat ?_ ?_ ?_); omega; (intro _; rfl); conv => whnf) | ((with_reducible refine XIx.map ?_ ?_ ?_ ?_); omega; omega; (intro _; rfl); conv => whnf) | (with_reducible apply XAnd.mk) | ((with_reducible apply Chk.go); conv => whnf) | ((with_reducible apply ChkA.go); conv => whnf) | ((with_reducible apply ChkF.go); conv => whnf) | ((with_reducible apply ChkB.go); conv => whnf) | (exact XSame.mk rfl rfl) | (exact XSame.mk (by first | rfl | (simp only [List.map_append, List.length_append, List.length_map]; done) | (simp only [List.map_append, List.length_append, List.length_map]; rfl)) (by first | rfl | (simp only [List.map_append]; done) | (simp only [List.map_append]; rfl))) | (with_reducible exact trivial) | ((with_reducible refine xdrop_app (by rw [List.length_map]; omega) ?_); conv => whnf) | ((with_reducible refine XArr.ints (by omega) (by omega) (by omega) ?_); conv => whnf) | ((with_reducible refine XArr.intsA (by omega) (by omega) (by omega) ?_); conv => whnf) | ((with_reducible refine XArr.nats ?_ ?_ ?_); omega; omega; conv => whnf) | ((with_reducible refine XArr.natsA ?_ ?_ ?_); omega; omega; conv => whnf) | ((with_reducible apply XArr.pim0); conv => whnf) | ((with_reducible apply XArr.pim1); conv => whnf) | ((with_reducible refine XArr.ptr ?_ ?_ ?_); omega; omega; conv => whnf) | ((with_reducible apply XBr.mk') <;> (intro h; conv => whnf))
        · skip
          repeat' first | ((with_reducible apply XBr.tt); conv => whnf) | ((with_reducible apply XBr.ff); conv => whnf) | (with_reducible apply XBr.not) | ((with_reducible apply XBr.dec) <;> (intro h; first | (exfalso; omega) | ((try simp only [List.length_map] at h); first | (exfalso; omega) | (conv => whnf)))) | ((with_reducible apply XBr.beq) <;> (intro h; first | (exfalso; omega) | (conv => whnf))) | ((with_reducible apply XBr.bne) <;> (intro h; first | (exfalso; omega) | (conv => whnf))) | ((with_reducible refine XInt.i64 (by omega) (by omega) ?_); conv => whnf) | ((with_reducible refine XHold.mk ?_ ?_); (first | omega | rfl | decide | exact ⟨rfl, by decide, rfl⟩ | exact wideI _ | exact widePr _ | exact wideSk _ | (unfold Room; constructor <;> ((try simp) <;> omega)) | exact ⟨rfl, by simp only [List.length_map], by unfold Room; constructor <;> ((try simp) <;> omega)⟩ | exact ⟨by omega, by omega, by unfold Room; constructor <;> ((try simp) <;> omega)⟩); conv => whnf) | ((with_reducible refine XIx.nat ?_ ?_ ?_); omega; (intro _; rfl); conv => whnf) | ((with_reducible refine XIx.map ?_ ?_ ?_ ?_); omega; omega; (intro _; rfl); conv => whnf) | (with_reducible apply XAnd.mk) | ((with_reducible apply Chk.go); conv => whnf) | ((with_reducible apply ChkA.go); conv => whnf) | ((with_reducible apply ChkF.go); conv => whnf) | ((with_reducible apply ChkB.go); conv => whnf) | (exact XSame.mk rfl rfl) | (exact XSame.mk (by first | rfl | (simp only [List.map_append, List.length_append, List.length_map]; done) | (simp only [List.map_append, List.length_append, List.length_map]; rfl)) (by first | rfl | (simp only [List.map_append]; done) | (simp only [List.map_append]; rfl))) | (with_reducible exact trivial) | ((with_reducible refine xdrop_app (by rw [List.length_map]; omega) ?_); conv => whnf) | ((with_reducible refine XArr.ints (by omega) (by omega) (by omega) ?_); conv => whnf) | ((with_reducible refine XArr.intsA (by omega) (by omega) (by omega) ?_); conv => whnf) | ((with_reducible refine XArr.nats ?_ ?_ ?_); omega; omega; conv => whnf) | ((with_reducible refine XArr.natsA ?_ ?_ ?_); omega; omega; conv => whnf) | ((with_reducible apply XArr.pim0); conv => whnf) | ((with_reducible apply XArr.pim1); conv => whnf) | ((with_reducible refine XArr.ptr ?_ ?_ ?_); omega; omega; conv => whnf) | ((with_reducible apply XBr.mk') <;> (intro h; conv => whnf))
        · conv => whnf
          repeat' first | ((with_reducible apply XBr.tt); conv => whnf) | ((with_reducible apply XBr.ff); conv => whnf) | (with_reducible apply XBr.not) | ((with_reducible apply XBr.dec) <;> (intro h; first | (exfalso; omega) | ((try simp only [List.length_map] at h); first | (exfalso; omega) | (conv => whnf)))) | ((with_reducible apply XBr.beq) <;> (intro h; first | (exfalso; omega) | (conv => whnf))) | ((with_reducible apply XBr.bne) <;> (intro h; first | (exfalso; omega) | (conv => whnf))) | ((with_reducible refine XInt.i64 (by omega) (by omega) ?_); conv => whnf) | ((with_reducible refine XHold.mk ?_ ?_); (first | omega | rfl | decide | exact ⟨rfl, by decide, rfl⟩ | exact wideI _ | exact widePr _ | exact wideSk _ | (unfold Room; constructor <;> ((try simp) <;> omega)) | exact ⟨rfl, by simp only [List.length_map], by unfold Room; constructor <;> ((try simp) <;> omega)⟩ | exact ⟨by omega, by omega, by unfold Room; constructor <;> ((try simp) <;> omega)⟩); conv => whnf) | ((with_reducible refine XIx.nat ?_ ?_ ?_); omega; (intro _; rfl); conv => whnf) | ((with_reducible refine XIx.map ?_ ?_ ?_ ?_); omega; omega; (intro _; rfl); conv => whnf) | (with_reducible apply XAnd.mk) | ((with_reducible apply Chk.go); conv => whnf) | ((with_reducible apply ChkA.go); conv => whnf) | ((with_reducible apply ChkF.go); conv => whnf) | ((with_reducible apply ChkB.go); conv => whnf) | (exact XSame.mk rfl rfl) | (exact XSame.mk (by first | rfl | (simp only [List.map_append, List.length_append, List.length_map]; done) | (simp only [List.map_append, List.length_append, List.length_map]; rfl)) (by first | rfl | (simp only [List.map_append]; done) | (simp only [List.map_append]; rfl))) | (with_reducible exact trivial) | ((with_reducible refine xdrop_app (by rw [List.length_map]; omega) ?_); conv => whnf) | ((with_reducible refine XArr.ints (by omega) (by omega) (by omega) ?_); conv => whnf) | ((with_reducible refine XArr.intsA (by omega) (by omega) (by omega) ?_); conv => whnf) | ((with_reducible refine XArr.nats ?_ ?_ ?_); omega; omega; conv => whnf) | ((with_reducible refine XArr.natsA ?_ ?_ ?_); omega; omega; conv => whnf) | ((with_reducible apply XArr.pim0); conv => whnf) | ((with_reducible apply XArr.pim1); conv => whnf) | ((with_reducible refine XArr.ptr ?_ ?_ ?_); omega; omega; conv => whnf) | ((refine XInt.w ?_); conv => whnf) | ((with_reducible apply XBr.mk') <;> (intro h; conv => whnf))
          · exact pick_end (hpM_lt (by assumption)) (hpS_end h)
          · exact pick_end (hpM_lt (by assumption)) (hpS_on h)
    · skip
      apply Walk.drawX tab_ok mixed_ok [] [] (hsK _) [_, _, _, _, _, _, _, _, _, _] (by kernel_rfl) rfl
      · skip
        repeat' first | ((with_reducible apply XBr.tt); conv => whnf) | ((with_reducible apply XBr.ff); conv => whnf) | (with_reducible apply XBr.not) | ((with_reducible apply XBr.dec) <;> (intro h; first | (exfalso; omega) | ((try simp only [List.length_map] at h); first | (exfalso; omega) | (conv => whnf)))) | ((with_reducible apply XBr.beq) <;> (intro h; first | (exfalso; omega) | (conv => whnf))) | ((with_reducible apply XBr.bne) <;> (intro h; first | (exfalso; omega) | (conv => whnf))) | ((with_reducible refine XInt.i64 (by omega) (by omega) ?_); conv => whnf) | ((with_reducible refine XHold.mk ?_ ?_); (first | omega | rfl | decide | exact ⟨rfl, by decide, rfl⟩ | exact wideI _ | exact widePr _ | exact wideSk _ | (unfold Room; constructor <;> ((try simp) <;> omega)) | exact ⟨rfl, by simp only [List.length_map], by unfold Room; constructor <;> ((try simp) <;> omega)⟩ | exact ⟨by omega, by omega, by unfold Room; constructor <;> ((try simp) <;> omega)⟩); conv => whnf) | ((with_reducible refine XIx.nat ?_ ?_ ?_); omega; (intro _; rfl); conv => whnf) | ((with_reducible refine XIx.map ?_ ?_ ?_ ?_); omega; omega; (intro _; rfl); conv => whnf) | (with_reducible apply XAnd.mk) | ((with_reducible apply Chk.go); conv => whnf) | ((with_reducible apply ChkA.go); conv => whnf) | ((with_reducible apply ChkF.go); conv => whnf) | ((with_reducible apply ChkB.go); conv => whnf) | (exact XSame.mk rfl rfl) | (exact XSame.mk (by first | rfl | (simp only [List.map_append, List.length_append, List.length_map]; done) | (simp only [List.map_append, List.length_append, List.length_map]; rfl)) (by first | rfl | (simp only [List.map_append]; done) | (simp only [List.map_append]; rfl))) | (with_reducible exact trivial) | ((with_reducible refine xdrop_app (by rw [List.length_map]; omega) ?_); conv => whnf) | ((with_reducible refine XArr.ints (by omega) (by omega) (by omega) ?_); conv => whnf) | ((with_reducible refine XArr.intsA (by omega) (by omega) (by omega) ?_); conv => whnf) | ((with_reducible refine XArr.nats ?_ ?_ ?_); omega; omega; conv => whnf) | ((with_reducible refine XArr.natsA ?_ ?_ ?_); omega; omega; conv => whnf) | ((with_reducible apply XArr.pim0); conv => whnf) | ((with_reducible apply XArr.pim1); conv => whnf) | ((with_reducible refine XArr.ptr ?_ ?_ ?_); omega; omega; conv => whnf) | ((with_reducible apply XBr.mk') <;> (intro h; conv => whnf))
      · skip
        repeat' first | ((with_reducible apply XBr.tt); conv => whnf) | ((with_reducible apply XBr.ff); conv => whnf) | (with_reducible apply XBr.not) | ((with_reducible apply XBr.dec) <;> (intro h; first | (exfalso; omega) | ((try simp only [List.length_map] at h); first | (exfalso; omega) | (conv => whnf)))) | ((with_reducible apply XBr.beq) <;> (intro h; first | (exfalso; omega) | (conv => whnf))) | ((with_reducible apply XBr.bne) <;> (intro h; first | (exfalso; omega) | (conv => whnf))) | ((with_reducible refine XInt.i64 (by omega) (by omega) ?_); conv => whnf) | ((with_reducible refine XHold.mk ?_ ?_); (first | omega | rfl | decide | exact ⟨rfl, by decide, rfl⟩ | exact wideI _ | exact widePr _ | exact wideSk _ | (unfold Room; constructor <;> ((try simp) <;> omega)) | exact ⟨rfl, by simp only [List.length_map], by unfold Room; constructor <;> ((try simp) <;> omega)⟩ | exact ⟨by omega, by omega, by unfold Room; constructor <;> ((try simp) <;> omega)⟩); conv => whnf) | ((with_reducible refine XIx.nat ?_ ?_ ?_); omega; (intro _; rfl); conv => whnf) | ((with_reducible refine XIx.map ?_ ?_ ?_ ?_); omega; omega; (intro _; rfl); conv => whnf) | (with_reducible apply XAnd.mk) | ((with_reducible apply Chk.go); conv => whnf) | ((with_reducible apply ChkA.go); conv => whnf) | ((with_reducible apply ChkF.go); conv => whnf) | ((with_reducible apply ChkB.go); conv => whnf) | (exact XSame.mk rfl rfl) | (exact XSame.mk (by first | rfl | (simp only [List.map_append, List.length_append, List.length_map]; done) | (simp only [List.map_append, List.length_append, List.length_map]; rfl)) (by first | rfl | (simp only [List.map_append]; done) | (simp only [List.map_append]; rfl))) | (with_reducible exact trivial) | ((with_reducible refine xdrop_app (by rw [List.length_map]; omega) ?_); conv => whnf) | ((with_reducible refine XArr.ints (by omega) (by omega) (by omega) ?_); conv => whnf) | ((with_reducible refine XArr.intsA (by omega) (by omega) (by omega) ?_); conv => whnf) | ((with_reducible refine XArr.nats ?_ ?_ ?_); omega; omega; conv => whnf) | ((with_reducible refine XArr.natsA ?_ ?_ ?_); omega; omega; conv => whnf) | ((with_reducible apply XArr.pim0); conv => whnf) | ((with_reducible apply XArr.pim1); conv => whnf) | ((with_reducible refine XArr.ptr ?_ ?_ ?_); omega; omega; conv => whnf) | ((with_reducible apply XBr.mk') <;> (intro h; conv => whnf))
      · conv => whnf
        repeat' first | ((with_reducible apply XBr.tt); conv => whnf) | ((with_reducible apply XBr.ff); conv => whnf) | (with_reducible apply XBr.not) | ((with_reducible apply XBr.dec) <;> (intro h; first | (exfalso; omega) | ((try simp only [List.length_map] at h); first | (exfalso; omega) | (conv => whnf)))) | ((with_reducible apply XBr.beq) <;> (intro h; first | (exfalso; omega) | (conv => whnf))) | ((with_reducible apply XBr.bne) <;> (intro h; first | (exfalso; omega) | (conv => whnf))) | ((with_reducible refine XInt.i64 (by omega) (by omega) ?_); conv => whnf) | ((with_reducible refine XHold.mk ?_ ?_); (first | omega | rfl | decide | exact ⟨rfl, by decide, rfl⟩ | exact wideI _ | exact widePr _ | exact wideSk _ | (unfold Room; constructor <;> ((try simp) <;> omega)) | exact ⟨rfl, by simp only [List.length_map], by unfold Room; constructor <;> ((try simp) <;> omega)⟩ | exact ⟨by omega, by omega, by unfold Room; constructor <;> ((try simp) <;> omega)⟩); conv => whnf) | ((with_reducible refine XIx.nat ?_ ?_ ?_); omega; (intro _; rfl); conv => whnf) | ((with_reducible refine XIx.map ?_ ?_ ?_ ?_); omega; omega; (intro _; rfl); conv => whnf) | (with_reducible apply XAnd.mk) | ((with_reducible apply Chk.go); conv => whnf) | ((with_reducible apply ChkA.go); conv => whnf) | ((with_reducible apply ChkF.go); conv => whnf) | ((with_reducible apply ChkB.go); conv => whnf) | (exact XSame.mk rfl rfl) | (exact XSame.mk (by first | rfl | (simp only [List.map_append, List.length_append, List.length_map]; done) | (simp only [List.map_append, List.length_append, List.length_map]; rfl)) (by first | rfl | (simp only [List.map_append]; done) | (simp only [List.map_append]; rfl))) | (with_reducible exact trivial) | ((with_reducible refine xdrop_app (by rw [List.length_map]; omega) ?_); conv => whnf) | ((with_reducible refine XArr.ints (by omega) (by omega) (by omega) ?_); conv => whnf) | ((with_reducible refine XArr.intsA (by omega) (by omega) (by omega) ?_); conv => whnf) | ((with_reducible refine XArr.nats ?_ ?_ ?_); omega; omega; conv => whnf) | ((with_reducible refine XArr.natsA ?_ ?_ ?_); omega; omega; conv => whnf) | ((with_reducible apply XArr.pim0); conv => whnf) | ((with_reducible apply XArr.pim1); conv => whnf) | ((with_reducible refine XArr.ptr ?_ ?_ ?_); omega; omega; conv => whnf) | ((refine XInt.w ?_); conv => whnf) | ((with_reducible apply XBr.mk') <;> (intro h; conv => whnf))
        · exact pick_end (hpM_ge (by assumption)) (hpS_end h)

def modV (h : Hp) (n : Int) : Int := (hpV h).tmod (max 1 (n + 1))
theorem modV_bound (h : Hp) (n : Int) : 0 ≤ modV h n ∧ modV h n ≤ max 0 n := by
  have hb := hpV_bound (hpM h)
  have h1 : 0 ≤ hpV h := hb.1
  unfold modV
  rw [Int.tmod_eq_emod_of_nonneg h1]
  have h2 := Int.emod_nonneg (hpV h) (show max 1 (n + 1) ≠ 0 by omega)
  have h3 := Int.emod_lt_of_pos (hpV h) (show 0 < max 1 (n + 1) by omega)
  omega
theorem hp_end {u u' : Hp} {r : AV} (hr : r.low 1 = true) : XCut [hpC u].length [] [hpC u'] r fun r' H' => r' = r ∧ H' = [hpC u'] :=
  XCut.mk' [hpC u'] [] rfl rfl (fun x hx => by simp only [List.mem_cons, List.not_mem_nil, or_false] at hx; subst hx; exact hpC_low _) hr ⟨rfl, rfl⟩
theorem upto_c (u : Hp) (n : Int) (o : u.Ok) (h1 : -100000 ≤ n) (h2 : n ≤ 100000) : HpOk 23 [.int .i64 n] u (.int .i64 (modV u n)) (hpS u) := by
  refine ⟨rfl, ?_⟩
  refine ACall.bodyK (T := tab) (res := [.tmp 4]) tab_ok [] Try.func23 rfl (by kernel_rfl) Try.ntmps23 rfl (by simp only [List.length_cons, List.length_nil]; decide) ?_; conv => whnf
  refine XCall.hp (j := 0) (pick_c u o) rfl rfl ?_
  conv => whnf
  repeat' first | ((with_reducible apply XBr.tt); conv => whnf) | ((with_reducible apply XBr.ff); conv => whnf) | (with_reducible apply XBr.not) | ((with_reducible apply XBr.dec) <;> (intro h; first | (exfalso; omega) | ((try simp only [List.length_map] at h); first | (exfalso; omega) | (conv => whnf)))) | ((with_reducible apply XBr.beq) <;> (intro h; first | (exfalso; omega) | (conv => whnf))) | ((with_reducible apply XBr.bne) <;> (intro h; first | (exfalso; omega) | (conv => whnf))) | ((with_reducible refine XInt.i64 (by omega) (by omega) ?_); conv => whnf) | ((with_reducible refine XHold.mk ?_ ?_); (first | omega | rfl | decide | exact ⟨rfl, by decide, rfl⟩ | exact wideI _ | exact widePr _ | exact wideSk _ | (unfold Room; constructor <;> ((try simp) <;> omega)) | exact ⟨rfl, by simp only [List.length_map], by unfold Room; constructor <;> ((try simp) <;> omega)⟩ | exact ⟨by omega, by omega, by unfold Room; constructor <;> ((try simp) <;> omega)⟩); conv => whnf) | ((with_reducible refine XIx.nat ?_ ?_ ?_); omega; (intro _; rfl); conv => whnf) | ((with_reducible refine XIx.map ?_ ?_ ?_ ?_); omega; omega; (intro _; rfl); conv => whnf) | (with_reducible apply XAnd.mk) | ((with_reducible apply Chk.go); conv => whnf) | ((with_reducible apply ChkA.go); conv => whnf) | ((with_reducible apply ChkF.go); conv => whnf) | ((with_reducible apply ChkB.go); conv => whnf) | (exact XSame.mk rfl rfl) | (exact XSame.mk (by first | rfl | (simp only [List.map_append, List.length_append, List.length_map]; done) | (simp only [List.map_append, List.length_append, List.length_map]; rfl)) (by first | rfl | (simp only [List.map_append]; done) | (simp only [List.map_append]; rfl))) | (with_reducible exact trivial) | ((with_reducible refine xdrop_app (by rw [List.length_map]; omega) ?_); conv => whnf) | ((with_reducible refine XArr.ints (by omega) (by omega) (by omega) ?_); conv => whnf) | ((with_reducible refine XArr.intsA (by omega) (by omega) (by omega) ?_); conv => whnf) | ((with_reducible refine XArr.nats ?_ ?_ ?_); omega; omega; conv => whnf) | ((with_reducible refine XArr.natsA ?_ ?_ ?_); omega; omega; conv => whnf) | ((with_reducible apply XArr.pim0); conv => whnf) | ((with_reducible apply XArr.pim1); conv => whnf) | ((with_reducible refine XArr.ptr ?_ ?_ ?_); omega; omega; conv => whnf) | ((with_reducible apply XBr.mk') <;> (intro h; conv => whnf))
  exact hp_end rfl
theorem from_c (u : Hp) (lo hi : Int) (o : u.Ok) (h1 : -10000 ≤ lo) (h2 : lo ≤ 10000) (h3 : -10000 ≤ hi) (h4 : hi ≤ 10000) : HpOk 22 [.int .i64 lo, .int .i64 hi] u (.int .i64 (lo + modV u (hi - lo))) (hpS u) := by
  have hb := modV_bound u (hi - lo)
  refine ⟨rfl, ?_⟩
  refine ACall.bodyK (T := tab) (res := [.tmp 6]) tab_ok [] Try.func22 rfl (by kernel_rfl) Try.ntmps22 rfl (by simp only [List.length_cons, List.length_nil]; decide) ?_; conv => whnf
  repeat' first | ((with_reducible apply XBr.tt); conv => whnf) | ((with_reducible apply XBr.ff); conv => whnf) | (with_reducible apply XBr.not) | ((with_reducible apply XBr.dec) <;> (intro h; first | (exfalso; omega) | ((try simp only [List.length_map] at h); first | (exfalso; omega) | (conv => whnf)))) | ((with_reducible apply XBr.beq) <;> (intro h; first | (exfalso; omega) | (conv => whnf))) | ((with_reducible apply XBr.bne) <;> (intro h; first | (exfalso; omega) | (conv => whnf))) | ((with_reducible refine XInt.i64 (by omega) (by omega) ?_); conv => whnf) | ((with_reducible refine XHold.mk ?_ ?_); (first | omega | rfl | decide | exact ⟨rfl, by decide, rfl⟩ | exact wideI _ | exact widePr _ | exact wideSk _ | (unfold Room; constructor <;> ((try simp) <;> omega)) | exact ⟨rfl, by simp only [List.length_map], by unfold Room; constructor <;> ((try simp) <;> omega)⟩ | exact ⟨by omega, by omega, by unfold Room; constructor <;> ((try simp) <;> omega)⟩); conv => whnf) | ((with_reducible refine XIx.nat ?_ ?_ ?_); omega; (intro _; rfl); conv => whnf) | ((with_reducible refine XIx.map ?_ ?_ ?_ ?_); omega; omega; (intro _; rfl); conv => whnf) | (with_reducible apply XAnd.mk) | ((with_reducible apply Chk.go); conv => whnf) | ((with_reducible apply ChkA.go); conv => whnf) | ((with_reducible apply ChkF.go); conv => whnf) | ((with_reducible apply ChkB.go); conv => whnf) | (exact XSame.mk rfl rfl) | (exact XSame.mk (by first | rfl | (simp only [List.map_append, List.length_append, List.length_map]; done) | (simp only [List.map_append, List.length_append, List.length_map]; rfl)) (by first | rfl | (simp only [List.map_append]; done) | (simp only [List.map_append]; rfl))) | (with_reducible exact trivial) | ((with_reducible refine xdrop_app (by rw [List.length_map]; omega) ?_); conv => whnf) | ((with_reducible refine XArr.ints (by omega) (by omega) (by omega) ?_); conv => whnf) | ((with_reducible refine XArr.intsA (by omega) (by omega) (by omega) ?_); conv => whnf) | ((with_reducible refine XArr.nats ?_ ?_ ?_); omega; omega; conv => whnf) | ((with_reducible refine XArr.natsA ?_ ?_ ?_); omega; omega; conv => whnf) | ((with_reducible apply XArr.pim0); conv => whnf) | ((with_reducible apply XArr.pim1); conv => whnf) | ((with_reducible refine XArr.ptr ?_ ?_ ?_); omega; omega; conv => whnf) | ((refine XCall.hp (j := 0) (upto_c u (hi - lo) o (by omega) (by omega)) rfl rfl ?_); conv => whnf) | ((with_reducible apply XBr.mk') <;> (intro h; conv => whnf))
  exact hp_end rfl
theorem once_c (u : Hp) (n : Int) (o : u.Ok) (h1 : -10000 ≤ n) (h2 : n ≤ 10000) : HpOk 74 [.int .i64 n] u (.bool (modV u (n - 1) == 0)) (hpS u) := by
  have hb := modV_bound u (n - 1)
  refine ⟨rfl, ?_⟩
  refine ACall.bodyK (T := tab) (res := [.tmp 4]) tab_ok [] Try.func74 rfl (by kernel_rfl) Try.ntmps74 rfl (by simp only [List.length_cons, List.length_nil]; decide) ?_; conv => whnf
  repeat' first | ((with_reducible apply XBr.tt); conv => whnf) | ((with_reducible apply XBr.ff); conv => whnf) | (with_reducible apply XBr.not) | ((with_reducible apply XBr.dec) <;> (intro h; first | (exfalso; omega) | ((try simp only [List.length_map] at h); first | (exfalso; omega) | (conv => whnf)))) | ((with_reducible apply XBr.beq) <;> (intro h; first | (exfalso; omega) | (conv => whnf))) | ((with_reducible apply XBr.bne) <;> (intro h; first | (exfalso; omega) | (conv => whnf))) | ((with_reducible refine XInt.i64 (by omega) (by omega) ?_); conv => whnf) | ((with_reducible refine XHold.mk ?_ ?_); (first | omega | rfl | decide | exact ⟨rfl, by decide, rfl⟩ | exact wideI _ | exact widePr _ | exact wideSk _ | (unfold Room; constructor <;> ((try simp) <;> omega)) | exact ⟨rfl, by simp only [List.length_map], by unfold Room; constructor <;> ((try simp) <;> omega)⟩ | exact ⟨by omega, by omega, by unfold Room; constructor <;> ((try simp) <;> omega)⟩); conv => whnf) | ((with_reducible refine XIx.nat ?_ ?_ ?_); omega; (intro _; rfl); conv => whnf) | ((with_reducible refine XIx.map ?_ ?_ ?_ ?_); omega; omega; (intro _; rfl); conv => whnf) | (with_reducible apply XAnd.mk) | ((with_reducible apply Chk.go); conv => whnf) | ((with_reducible apply ChkA.go); conv => whnf) | ((with_reducible apply ChkF.go); conv => whnf) | ((with_reducible apply ChkB.go); conv => whnf) | (exact XSame.mk rfl rfl) | (exact XSame.mk (by first | rfl | (simp only [List.map_append, List.length_append, List.length_map]; done) | (simp only [List.map_append, List.length_append, List.length_map]; rfl)) (by first | rfl | (simp only [List.map_append]; done) | (simp only [List.map_append]; rfl))) | (with_reducible exact trivial) | ((with_reducible refine xdrop_app (by rw [List.length_map]; omega) ?_); conv => whnf) | ((with_reducible refine XArr.ints (by omega) (by omega) (by omega) ?_); conv => whnf) | ((with_reducible refine XArr.intsA (by omega) (by omega) (by omega) ?_); conv => whnf) | ((with_reducible refine XArr.nats ?_ ?_ ?_); omega; omega; conv => whnf) | ((with_reducible refine XArr.natsA ?_ ?_ ?_); omega; omega; conv => whnf) | ((with_reducible apply XArr.pim0); conv => whnf) | ((with_reducible apply XArr.pim1); conv => whnf) | ((with_reducible refine XArr.ptr ?_ ?_ ?_); omega; omega; conv => whnf) | ((refine XCall.hp (j := 0) (upto_c u (n - 1) o (by omega) (by omega)) rfl rfl ?_); conv => whnf) | ((with_reducible apply XBr.mk') <;> (intro h; conv => whnf))
  exact hp_end rfl
end GA
end

section
namespace GA
open Go Go.RowKit Go.Proofs
set_option pp.deepTerms true
set_option maxRecDepth 8000
set_option linter.unusedVariables false
set_option linter.unusedSimpArgs false

/-- Sacks that are dealt. -/
def mdK (u : Hp) : Nat → List Sk × Hp
  | 0 => ([], u)
  | k + 1 => ((mdK u k).1 ++ [⟨1 + modV (mdK u k).2 59, modV (hpS (mdK u k).2) 5⟩], hpS (hpS (mdK u k).2))
theorem mdK_ok {u : Hp} (o : u.Ok) : ∀ k, (mdK u k).2.Ok ∧ (mdK u k).1.length = k
  | 0 => ⟨o, rfl⟩
  | k + 1 => by
    obtain ⟨h1, h2⟩ := mdK_ok o k
    exact ⟨hpS_ok (hpS_ok h1), by simp [mdK, h2]⟩
theorem mdK_sk {u : Hp} : ∀ k, ∀ s ∈ (mdK u k).1, 1 ≤ s.m ∧ s.m ≤ 60 ∧ 0 ≤ s.o ∧ s.o ≤ 5
  | 0, s, h => by simp [mdK] at h
  | k + 1, s, h => by
    rw [mdK, List.mem_append] at h
    rcases h with h | h
    · exact mdK_sk k s h
    · simp only [List.mem_singleton] at h; subst h
      have h1 := modV_bound (mdK u k).2 59
      have h2 := modV_bound (hpS (mdK u k).2) 5
      dsimp only; omega
/-- Pairs that are dealt, of so many sacks. -/
structure Prs where
  ap : List (Int × Int)
  wt : List (Int × Int)
  u : Hp
def prA1 (n : Int) (u : Hp) : Int := modV u (n - 1)
def prB1 (n : Int) (u : Hp) : Int := (prA1 n u + (1 + modV (hpS u) (n - 1 - 1))).tmod n
def prS (n : Int) (s : Prs) : Prs :=
  if (modV (hpS (hpS s.u)) (2 - 1) == 0) = true then ⟨s.ap ++ [(prA1 n s.u, prB1 n s.u)], s.wt, hpS (hpS (hpS s.u))⟩ else ⟨s.ap, s.wt ++ [(prA1 n s.u, prB1 n s.u)], hpS (hpS (hpS s.u))⟩
def prK (n : Int) (u : Hp) : Nat → Prs
  | 0 => ⟨[], [], u⟩
  | k + 1 => prS n (prK n u k)
theorem prK_ok {n : Int} {u : Hp} (o : u.Ok) : ∀ k, (prK n u k).u.Ok ∧ (prK n u k).ap.length + (prK n u k).wt.length = k
  | 0 => ⟨o, rfl⟩
  | k + 1 => by
    obtain ⟨h1, h2⟩ := prK_ok (n := n) o k
    unfold prK prS
    split
    · exact ⟨hpS_ok (hpS_ok (hpS_ok h1)), by simp; omega⟩
    · exact ⟨hpS_ok (hpS_ok (hpS_ok h1)), by simp; omega⟩
theorem prAB {n : Int} (u : Hp) (hn : 1 < n) : 0 ≤ prA1 n u ∧ prA1 n u < n ∧ 0 ≤ prB1 n u ∧ prB1 n u < n ∧ prA1 n u ≠ prB1 n u := by
  have h1 := modV_bound u (n - 1)
  have h2 := modV_bound (hpS u) (n - 1 - 1)
  unfold prB1 prA1
  generalize modV u (n - 1) = a at h1 ⊢
  generalize modV (hpS u) (n - 1 - 1) = b at h2 ⊢
  rw [Int.tmod_eq_emod_of_nonneg (by omega)]
  have h3 := Int.emod_nonneg (a + (1 + b)) (show n ≠ 0 by omega)
  have h4 := Int.emod_lt_of_pos (a + (1 + b)) (show 0 < n by omega)
  refine ⟨by omega, by omega, h3, h4, fun e => ?_⟩
  have h5 := Int.emod_add_mul_ediv (a + (1 + b)) n
  rcases Int.lt_or_le (a + (1 + b)) n with hlt | hle
  · rw [Int.emod_eq_of_lt (by omega) hlt] at e; omega
  · have : (a + (1 + b)) / n = 1 := by
      rw [Int.ediv_eq_iff_of_pos (by omega)]; omega
    rw [this] at h5; omega
theorem prK_in {n : Int} {u : Hp} (hn : 1 < n) : ∀ k, (∀ p ∈ (prK n u k).ap, 0 ≤ p.1 ∧ p.1 < n ∧ 0 ≤ p.2 ∧ p.2 < n ∧ p.1 ≠ p.2) ∧ ∀ p ∈ (prK n u k).wt, 0 ≤ p.1 ∧ p.1 < n ∧ 0 ≤ p.2 ∧ p.2 < n ∧ p.1 ≠ p.2
  | 0 => by simp [prK]
  | k + 1 => by
    obtain ⟨h1, h2⟩ := prK_in (u := u) hn k
    have h3 := prAB (prK n u k).u hn
    unfold prK prS
    split
    · refine ⟨fun p hp => ?_, h2⟩
      rcases List.mem_append.1 hp with hp | hp
      · exact h1 p hp
      · simp only [List.mem_singleton] at hp; subst hp; exact h3
    · refine ⟨h1, fun p hp => ?_⟩
      rcases List.mem_append.1 hp with hp | hp
      · exact h2 p hp
      · simp only [List.mem_singleton] at hp; subst hp; exact h3
def mdSk (u : Hp) (sacks : Int) : List Sk × Hp := mdK (hpS (hpS (hpS u))) (modV (hpS (hpS u)) sacks).toNat
def mdPr (u : Hp) (sacks pairs : Int) : Prs := if 1 < (mdSk u sacks).1.length then prK (mdSk u sacks).1.length (hpS (mdSk u sacks).2) (modV (mdSk u sacks).2 pairs).toNat else ⟨[], [], (mdSk u sacks).2⟩
def madeL (u : Hp) (sacks pairs : Int) : Ld := ⟨20 + modV u 80, modV (hpS u) 6 * 10, (mdSk u sacks).1.isEmpty, (mdSk u sacks).1, (mdPr u sacks pairs).ap.isEmpty, (mdPr u sacks pairs).ap, (mdPr u sacks pairs).wt.isEmpty, (mdPr u sacks pairs).wt⟩
def madeH (u : Hp) (sacks pairs : Int) : Hp := (mdPr u sacks pairs).u
theorem madeL_ok (u : Hp) (sacks pairs : Int) (h1 : 0 ≤ sacks) (h2 : sacks ≤ 9) (h3 : 0 ≤ pairs) (h4 : pairs ≤ 8) (o : u.Ok) : LdOk (madeL u sacks pairs) := by
  have g1 := modV_bound u 80
  have g2 := modV_bound (hpS u) 6
  have g3 := modV_bound (hpS (hpS u)) sacks
  have g4 := modV_bound (mdSk u sacks).2 pairs
  have k1 := mdK_ok (hpS_ok (hpS_ok (hpS_ok o))) (modV (hpS (hpS u)) sacks).toNat
  have hl : (mdSk u sacks).1.length ≤ 9 := by show (mdK _ _).1.length ≤ 9; omega
  have hp : (mdPr u sacks pairs).ap.length + (mdPr u sacks pairs).wt.length ≤ 8 := by
    unfold mdPr
    split
    · have := (prK_ok (n := (mdSk u sacks).1.length) (u := hpS (mdSk u sacks).2) (hpS_ok k1.1) (modV (mdSk u sacks).2 pairs).toNat).2
      omega
    · simp
  have hin : (∀ p ∈ (mdPr u sacks pairs).ap, 0 ≤ p.1 ∧ p.1 < (mdSk u sacks).1.length ∧ 0 ≤ p.2 ∧ p.2 < (mdSk u sacks).1.length ∧ p.1 ≠ p.2) ∧ ∀ p ∈ (mdPr u sacks pairs).wt, 0 ≤ p.1 ∧ p.1 < (mdSk u sacks).1.length ∧ 0 ≤ p.2 ∧ p.2 < (mdSk u sacks).1.length ∧ p.1 ≠ p.2 := by
    unfold mdPr
    split
    · exact prK_in (by omega) _
    · simp
  exact ⟨hl, by show (mdPr u sacks pairs).ap.length ≤ 8; omega, by show (mdPr u sacks pairs).wt.length ≤ 8; omega, by show 1 ≤ 20 + modV u 80; omega, by show 20 + modV u 80 ≤ 100; omega, by show 0 ≤ modV (hpS u) 6 * 10; omega, by show modV (hpS u) 6 * 10 ≤ 90; omega,
    fun s hs => by have := mdK_sk _ s hs; omega, hin.1, hin.2⟩

theorem isEmpty_app {α : Type} (l : List α) (x : α) : (l ++ [x]).isEmpty = (l.isEmpty && false) := by cases l <;> rfl
theorem made_end {H : List Blk} {r' : AV} (b s : Int) (ss : List Sk) (ap wt : List (Int × Int)) (x : Hp) {C : Blk} {C2 : Blk} (hH : H = [hpC x, C, C2, .grow 113 ss.isEmpty (ss.map skA), .grow 118 ap.isEmpty (ap.map prA), .grow 118 wt.isEmpty (wt.map prA)])
    (hr : r' = .agg [.int .i64 b, .int .i64 s, .gr 3 ss.length, .gr 4 ap.length, .gr 5 wt.length]) {n : Nat} (hn : n = 1) : XEnd Try.prog n H r' (ldA ⟨b, s, ss.isEmpty, ss, ap.isEmpty, ap, wt.isEmpty, wt⟩) [hpC x] := by
  subst hH; subst hr; subst hn
  refine ⟨rfl, rfl, fun y hy => by simp only [List.mem_cons, List.not_mem_nil, or_false] at hy; subst hy; exact hpC_low _, ?_⟩
  refine FrozN.agg ?_ (.cons (.low rfl) (.cons (.low rfl) (.cons (.grow (by decide) rfl (List.length_map _) (lowSk _)) (.cons (.grow (by decide) rfl (List.length_map _) (lowPr _)) (.cons (.grow (by decide) rfl (List.length_map _) (lowPr _)) .nil)))))
  intro y hy
  simp only [ldC, List.mem_cons, List.not_mem_nil, or_false] at hy
  rcases hy with rfl | rfl | rfl | rfl | rfl <;> rfl
theorem made_c (u : Hp) (sacks pairs : Int) (o : u.Ok) (h1 : 0 ≤ sacks) (h2 : sacks ≤ 9) (h3 : 0 ≤ pairs) (h4 : pairs ≤ 8) : HpOk 16 [.int .i64 sacks, .int .i64 pairs] u (ldA (madeL u sacks pairs)) (madeH u sacks pairs) := by
  have g1 := modV_bound u 80
  have g2 := modV_bound (hpS u) 6
  have g3 := modV_bound (hpS (hpS u)) sacks
  have k1 := mdK_ok (hpS_ok (hpS_ok (hpS_ok o)))
  refine ⟨rfl, ?_⟩
  refine ACall.bodyN (T := tab) (res := [.cell 6 26]) tab_ok [] Try.func16 rfl (by kernel_rfl) Try.ntmps16 rfl (by simp only [List.length_cons, List.length_nil]; decide) ⟨rfl, rfl⟩ ?_; conv => whnf
  repeat' first | ((with_reducible apply XBr.tt); conv => whnf) | ((with_reducible apply XBr.ff); conv => whnf) | (with_reducible apply XBr.not) | ((with_reducible apply XBr.dec) <;> (intro h; first | (exfalso; omega) | ((try simp only [List.length_map] at h); first | (exfalso; omega) | (conv => whnf)))) | ((with_reducible apply XBr.beq) <;> (intro h; first | (exfalso; omega) | (conv => whnf))) | ((with_reducible apply XBr.bne) <;> (intro h; first | (exfalso; omega) | (conv => whnf))) | ((with_reducible refine XInt.i64 (by omega) (by omega) ?_); conv => whnf) | ((with_reducible refine XHold.mk ?_ ?_); (first | omega | rfl | decide | exact ⟨rfl, by decide, rfl⟩ | exact wideI _ | exact widePr _ | exact wideSk _ | (unfold Room; constructor <;> ((try simp) <;> omega)) | exact ⟨rfl, by simp only [List.length_map], by unfold Room; constructor <;> ((try simp) <;> omega)⟩ | exact ⟨by omega, by omega, by unfold Room; constructor <;> ((try simp) <;> omega)⟩); conv => whnf) | ((with_reducible refine XIx.nat ?_ ?_ ?_); omega; (intro _; rfl); conv => whnf) | ((with_reducible refine XIx.map ?_ ?_ ?_ ?_); omega; omega; (intro _; rfl); conv => whnf) | (with_reducible apply XAnd.mk) | ((with_reducible apply Chk.go); conv => whnf) | ((with_reducible apply ChkA.go); conv => whnf) | ((with_reducible apply ChkF.go); conv => whnf) | ((with_reducible apply ChkB.go); conv => whnf) | (exact XSame.mk rfl rfl) | (exact XSame.mk (by first | rfl | (simp only [List.map_append, List.length_append, List.length_map]; done) | (simp only [List.map_append, List.length_append, List.length_map]; rfl)) (by first | rfl | (simp only [List.map_append]; done) | (simp only [List.map_append]; rfl))) | (with_reducible exact trivial) | ((with_reducible refine xdrop_app (by rw [List.length_map]; omega) ?_); conv => whnf) | ((with_reducible refine XArr.ints (by omega) (by omega) (by omega) ?_); conv => whnf) | ((with_reducible refine XArr.intsA (by omega) (by omega) (by omega) ?_); conv => whnf) | ((with_reducible refine XArr.nats ?_ ?_ ?_); omega; omega; conv => whnf) | ((with_reducible refine XArr.natsA ?_ ?_ ?_); omega; omega; conv => whnf) | ((with_reducible apply XArr.pim0); conv => whnf) | ((with_reducible apply XArr.pim1); conv => whnf) | ((with_reducible refine XArr.ptr ?_ ?_ ?_); omega; omega; conv => whnf) | ((refine XCall.hp (j := 0) (from_c u 20 100 o (by omega) (by omega) (by omega) (by omega)) rfl rfl ?_); conv => whnf) | ((refine XCall.hp (j := 0) (upto_c (hpS u) 6 (hpS_ok o) (by omega) (by omega)) rfl rfl ?_); conv => whnf) | ((refine XCall.hp (j := 0) (upto_c (hpS (hpS u)) sacks (hpS_ok (hpS_ok o)) (by omega) (by omega)) rfl rfl ?_); conv => whnf) | ((with_reducible apply XBr.mk') <;> (intro h; conv => whnf))
  refine Walk.nilcell 2 2 113 rfl rfl ?_
  refine Walk.nilcell 2 3 118 rfl rfl ?_
  refine Walk.nilcell 2 4 118 rfl rfl ?_
  have hm : ((modV (hpS (hpS u)) sacks).toNat : Int) = modV (hpS (hpS u)) sacks := by omega
  refine Walk.loop tab_ok [] (fun k : Nat => k ≤ (modV (hpS (hpS u)) sacks).toNat) (fun k => [(0, .ptr 0 0), (2, .int .i64 pairs), (6, .ptr 1 0), (7, .ptr 2 0), (19, .int .i64 (modV (hpS (hpS u)) sacks)), (20, natA k)])
    (fun k => [hpC (mdK (hpS (hpS (hpS u))) k).2, .cells [.int .i64 0, .int .i64 0, .sl true [], .sl true [], .sl true []],
      .cells [.int .i64 (20 + modV u (100 - 20)), .int .i64 (modV (hpS u) 6 * 10), .gr 3 (mdK (hpS (hpS (hpS u))) k).1.length, .gr 4 0, .gr 5 0], .grow 113 (mdK (hpS (hpS (hpS u))) k).1.isEmpty ((mdK (hpS (hpS (hpS u))) k).1.map skA), .grow 118 true [], .grow 118 true []])
    (fun k => (modV (hpS (hpS u)) sacks).toNat - k) 0 (by omega) rfl ⟨rfl, rfl, rfl, rfl, rfl, rfl, trivial⟩ ?_
  intro k hk
  have k2 := k1 k
  have hnx : mdK (hpS (hpS (hpS u))) (k + 1) = ((mdK (hpS (hpS (hpS u))) k).1 ++ [⟨1 + modV (mdK (hpS (hpS (hpS u))) k).2 59, modV (hpS (mdK (hpS (hpS (hpS u))) k).2) 5⟩], hpS (hpS (mdK (hpS (hpS (hpS u))) k).2)) := rfl
  have hfin : k = (modV (hpS (hpS u)) sacks).toNat → mdSk u sacks = mdK (hpS (hpS (hpS u))) k := fun h => by rw [h]; rfl
  generalize mdK (hpS (hpS (hpS u))) k = q at k2 hnx hfin
  obtain ⟨ss, v⟩ := q
  obtain ⟨vo, vl⟩ := k2
  dsimp only at vo vl hnx hfin
  have b1 := modV_bound v 59
  have b2 := modV_bound (hpS v) 5
  conv => whnf
  repeat' first | ((with_reducible apply XBr.tt); conv => whnf) | ((with_reducible apply XBr.ff); conv => whnf) | (with_reducible apply XBr.not) | ((with_reducible apply XBr.dec) <;> (intro h; first | (exfalso; omega) | ((try simp only [List.length_map] at h); first | (exfalso; omega) | (conv => whnf)))) | ((with_reducible apply XBr.beq) <;> (intro h; first | (exfalso; omega) | (conv => whnf))) | ((with_reducible apply XBr.bne) <;> (intro h; first | (exfalso; omega) | (conv => whnf))) | ((with_reducible refine XInt.i64 (by omega) (by omega) ?_); conv => whnf) | ((with_reducible refine XHold.mk ?_ ?_); (first | omega | rfl | decide | exact ⟨rfl, by decide, rfl⟩ | exact wideI _ | exact widePr _ | exact wideSk _ | (unfold Room; constructor <;> ((try simp) <;> omega)) | exact ⟨rfl, by simp only [List.length_map], by unfold Room; constructor <;> ((try simp) <;> omega)⟩ | exact ⟨by omega, by omega, by unfold Room; constructor <;> ((try simp) <;> omega)⟩); conv => whnf) | ((with_reducible refine XIx.nat ?_ ?_ ?_); omega; (intro _; rfl); conv => whnf) | ((with_reducible refine XIx.map ?_ ?_ ?_ ?_); omega; omega; (intro _; rfl); conv => whnf) | (with_reducible apply XAnd.mk) | ((with_reducible apply Chk.go); conv => whnf) | ((with_reducible apply ChkA.go); conv => whnf) | ((with_reducible apply ChkF.go); conv => whnf) | ((with_reducible apply ChkB.go); conv => whnf) | (exact XSame.mk rfl rfl) | (exact XSame.mk (by first | rfl | (simp only [List.map_append, List.length_append, List.length_map]; done) | (simp only [List.map_append, List.length_append, List.length_map]; rfl)) (by first | rfl | (simp only [List.map_append]; done) | (simp only [List.map_append]; rfl))) | (with_reducible exact trivial) | ((with_reducible refine xdrop_app (by rw [List.length_map]; omega) ?_); conv => whnf) | ((with_reducible refine XArr.ints (by omega) (by omega) (by omega) ?_); conv => whnf) | ((with_reducible refine XArr.intsA (by omega) (by omega) (by omega) ?_); conv => whnf) | ((with_reducible refine XArr.nats ?_ ?_ ?_); omega; omega; conv => whnf) | ((with_reducible refine XArr.natsA ?_ ?_ ?_); omega; omega; conv => whnf) | ((with_reducible apply XArr.pim0); conv => whnf) | ((with_reducible apply XArr.pim1); conv => whnf) | ((with_reducible refine XArr.ptr ?_ ?_ ?_); omega; omega; conv => whnf) | ((with_reducible apply XBr.mk') <;> (intro h; conv => whnf))
  · apply Walk.drawX tab_ok mixed_ok [] [3, 5, 8, 10] (hsV _ [id, fun H => H.set 0 (hpC (hpS v)), fun H => H.set 0 (hpC (hpS (hpS v))), fun H => (H.set 0 (hpC (hpS (hpS v)))).set 3 (.grow 113 (ss.isEmpty && false) (ss.map skA ++ [skA (Sk.mk (1 + modV v (60 - 1)) (modV (hpS v) 5))])),
      fun H => ((H.set 0 (hpC (hpS (hpS v)))).set 3 (.grow 113 (ss.isEmpty && false) (ss.map skA ++ [skA (Sk.mk (1 + modV v (60 - 1)) (modV (hpS v) 5))]))).set 2 (.cells [.int .i64 (20 + modV u (100 - 20)), .int .i64 (modV (hpS u) 6 * 10), .gr 3 (ss.length + 1), .gr 4 0, .gr 5 0])]) [_, _, _, _, _, _, _, _, _, _, _] (by kernel_rfl) rfl
    · skip
      repeat' first | ((with_reducible apply XBr.tt); conv => whnf) | ((with_reducible apply XBr.ff); conv => whnf) | (with_reducible apply XBr.not) | ((with_reducible apply XBr.dec) <;> (intro h; first | (exfalso; omega) | ((try simp only [List.length_map] at h); first | (exfalso; omega) | (conv => whnf)))) | ((with_reducible apply XBr.beq) <;> (intro h; first | (exfalso; omega) | (conv => whnf))) | ((with_reducible apply XBr.bne) <;> (intro h; first | (exfalso; omega) | (conv => whnf))) | ((with_reducible refine XInt.i64 (by omega) (by omega) ?_); conv => whnf) | ((with_reducible refine XHold.mk ?_ ?_); (first | omega | rfl | decide | exact ⟨rfl, by decide, rfl⟩ | exact wideI _ | exact widePr _ | exact wideSk _ | (unfold Room; constructor <;> ((try simp) <;> omega)) | exact ⟨rfl, by simp only [List.length_map], by unfold Room; constructor <;> ((try simp) <;> omega)⟩ | exact ⟨by omega, by omega, by unfold Room; constructor <;> ((try simp) <;> omega)⟩); conv => whnf) | ((with_reducible refine XIx.nat ?_ ?_ ?_); omega; (intro _; rfl); conv => whnf) | ((with_reducible refine XIx.map ?_ ?_ ?_ ?_); omega; omega; (intro _; rfl); conv => whnf) | (with_reducible apply XAnd.mk) | ((with_reducible apply Chk.go); conv => whnf) | ((with_reducible apply ChkA.go); conv => whnf) | ((with_reducible apply ChkF.go); conv => whnf) | ((with_reducible apply ChkB.go); conv => whnf) | (exact XSame.mk rfl rfl) | (exact XSame.mk (by first | rfl | (simp only [List.map_append, List.length_append, List.length_map]; done) | (simp only [List.map_append, List.length_append, List.length_map]; rfl)) (by first | rfl | (simp only [List.map_append]; done) | (simp only [List.map_append]; rfl))) | (with_reducible exact trivial) | ((with_reducible refine xdrop_app (by rw [List.length_map]; omega) ?_); conv => whnf) | ((with_reducible refine XArr.ints (by omega) (by omega) (by omega) ?_); conv => whnf) | ((with_reducible refine XArr.intsA (by omega) (by omega) (by omega) ?_); conv => whnf) | ((with_reducible refine XArr.nats ?_ ?_ ?_); omega; omega; conv => whnf) | ((with_reducible refine XArr.natsA ?_ ?_ ?_); omega; omega; conv => whnf) | ((with_reducible apply XArr.pim0); conv => whnf) | ((with_reducible apply XArr.pim1); conv => whnf) | ((with_reducible refine XArr.ptr ?_ ?_ ?_); omega; omega; conv => whnf) | ((refine XCall.hp (j := 0) (from_c v 1 60 vo (by omega) (by omega) (by omega) (by omega)) rfl rfl ?_); conv => whnf) | ((refine XCall.hp (j := 0) (upto_c (hpS v) 5 (hpS_ok vo) (by omega) (by omega)) rfl rfl ?_); conv => whnf) | ((with_reducible apply XBr.mk') <;> (intro h; conv => whnf))
    · skip
      repeat' first | ((with_reducible apply XBr.tt); conv => whnf) | ((with_reducible apply XBr.ff); conv => whnf) | (with_reducible apply XBr.not) | ((with_reducible apply XBr.dec) <;> (intro h; first | (exfalso; omega) | ((try simp only [List.length_map] at h); first | (exfalso; omega) | (conv => whnf)))) | ((with_reducible apply XBr.beq) <;> (intro h; first | (exfalso; omega) | (conv => whnf))) | ((with_reducible apply XBr.bne) <;> (intro h; first | (exfalso; omega) | (conv => whnf))) | ((with_reducible refine XInt.i64 (by omega) (by omega) ?_); conv => whnf) | ((with_reducible refine XHold.mk ?_ ?_); (first | omega | rfl | decide | exact ⟨rfl, by decide, rfl⟩ | exact wideI _ | exact widePr _ | exact wideSk _ | (unfold Room; constructor <;> ((try simp) <;> omega)) | exact ⟨rfl, by simp only [List.length_map], by unfold Room; constructor <;> ((try simp) <;> omega)⟩ | exact ⟨by omega, by omega, by unfold Room; constructor <;> ((try simp) <;> omega)⟩); conv => whnf) | ((with_reducible refine XIx.nat ?_ ?_ ?_); omega; (intro _; rfl); conv => whnf) | ((with_reducible refine XIx.map ?_ ?_ ?_ ?_); omega; omega; (intro _; rfl); conv => whnf) | (with_reducible apply XAnd.mk) | ((with_reducible apply Chk.go); conv => whnf) | ((with_reducible apply ChkA.go); conv => whnf) | ((with_reducible apply ChkF.go); conv => whnf) | ((with_reducible apply ChkB.go); conv => whnf) | (exact XSame.mk rfl rfl) | (exact XSame.mk (by first | rfl | (simp only [List.map_append, List.length_append, List.length_map]; done) | (simp only [List.map_append, List.length_append, List.length_map]; rfl)) (by first | rfl | (simp only [List.map_append]; done) | (simp only [List.map_append]; rfl))) | (with_reducible exact trivial) | ((with_reducible refine xdrop_app (by rw [List.length_map]; omega) ?_); conv => whnf) | ((with_reducible refine XArr.ints (by omega) (by omega) (by omega) ?_); conv => whnf) | ((with_reducible refine XArr.intsA (by omega) (by omega) (by omega) ?_); conv => whnf) | ((with_reducible refine XArr.nats ?_ ?_ ?_); omega; omega; conv => whnf) | ((with_reducible refine XArr.natsA ?_ ?_ ?_); omega; omega; conv => whnf) | ((with_reducible apply XArr.pim0); conv => whnf) | ((with_reducible apply XArr.pim1); conv => whnf) | ((with_reducible refine XArr.ptr ?_ ?_ ?_); omega; omega; conv => whnf) | ((refine XCall.hp (j := 0) (from_c v 1 60 vo (by omega) (by omega) (by omega) (by omega)) rfl rfl ?_); conv => whnf) | ((refine XCall.hp (j := 0) (upto_c (hpS v) 5 (hpS_ok vo) (by omega) (by omega)) rfl rfl ?_); conv => whnf) | ((with_reducible apply XBr.mk') <;> (intro h; conv => whnf))
    · conv => whnf
      repeat' first | ((with_reducible apply XBr.tt); conv => whnf) | ((with_reducible apply XBr.ff); conv => whnf) | (with_reducible apply XBr.not) | ((with_reducible apply XBr.dec) <;> (intro h; first | (exfalso; omega) | ((try simp only [List.length_map] at h); first | (exfalso; omega) | (conv => whnf)))) | ((with_reducible apply XBr.beq) <;> (intro h; first | (exfalso; omega) | (conv => whnf))) | ((with_reducible apply XBr.bne) <;> (intro h; first | (exfalso; omega) | (conv => whnf))) | ((with_reducible refine XInt.i64 (by omega) (by omega) ?_); conv => whnf) | ((with_reducible refine XHold.mk ?_ ?_); (first | omega | rfl | decide | exact ⟨rfl, by decide, rfl⟩ | exact wideI _ | exact widePr _ | exact wideSk _ | (unfold Room; constructor <;> ((try simp) <;> omega)) | exact ⟨rfl, by simp only [List.length_map], by unfold Room; constructor <;> ((try simp) <;> omega)⟩ | exact ⟨by omega, by omega, by unfold Room; constructor <;> ((try simp) <;> omega)⟩); conv => whnf) | ((with_reducible refine XIx.nat ?_ ?_ ?_); omega; (intro _; rfl); conv => whnf) | ((with_reducible refine XIx.map ?_ ?_ ?_ ?_); omega; omega; (intro _; rfl); conv => whnf) | (with_reducible apply XAnd.mk) | ((with_reducible apply Chk.go); conv => whnf) | ((with_reducible apply ChkA.go); conv => whnf) | ((with_reducible apply ChkF.go); conv => whnf) | ((with_reducible apply ChkB.go); conv => whnf) | (exact XSame.mk rfl rfl) | (exact XSame.mk (by first | rfl | (simp only [List.map_append, List.length_append, List.length_map]; done) | (simp only [List.map_append, List.length_append, List.length_map]; rfl)) (by first | rfl | (simp only [List.map_append]; done) | (simp only [List.map_append]; rfl))) | (with_reducible exact trivial) | ((with_reducible refine xdrop_app (by rw [List.length_map]; omega) ?_); conv => whnf) | ((with_reducible refine XArr.ints (by omega) (by omega) (by omega) ?_); conv => whnf) | ((with_reducible refine XArr.intsA (by omega) (by omega) (by omega) ?_); conv => whnf) | ((with_reducible refine XArr.nats ?_ ?_ ?_); omega; omega; conv => whnf) | ((with_reducible refine XArr.natsA ?_ ?_ ?_); omega; omega; conv => whnf) | ((with_reducible apply XArr.pim0); conv => whnf) | ((with_reducible apply XArr.pim1); conv => whnf) | ((with_reducible refine XArr.ptr ?_ ?_ ?_); omega; omega; conv => whnf) | ((with_reducible apply XBr.mk') <;> (intro h; conv => whnf))
      refine XAgain.go (k + 1) (by omega) (by omega) ?_ ⟨rfl, rfl, rfl, rfl, rfl, rfl, trivial⟩
      rw [hnx]; simp only [List.length_append, List.map_append, isEmpty_app]; rfl
  · have hq := hfin (by omega)
    have hL : madeL u sacks pairs = ⟨20 + modV u 80, modV (hpS u) 6 * 10, ss.isEmpty, ss, (mdPr u sacks pairs).ap.isEmpty, (mdPr u sacks pairs).ap, (mdPr u sacks pairs).wt.isEmpty, (mdPr u sacks pairs).wt⟩ := by unfold madeL; rw [hq]
    have hP : mdPr u sacks pairs = if 1 < ss.length then prK ss.length (hpS v) (modV v pairs).toNat else ⟨[], [], v⟩ := by unfold mdPr; rw [hq]
    unfold madeH
    rw [hL]
    generalize mdPr u sacks pairs = pq at hP
    have b3 := modV_bound v pairs
    have hmp : ((modV v pairs).toNat : Int) = modV v pairs := by omega
    repeat' first | ((with_reducible apply XBr.tt); conv => whnf) | ((with_reducible apply XBr.ff); conv => whnf) | (with_reducible apply XBr.not) | ((with_reducible apply XBr.dec) <;> (intro h; first | (exfalso; omega) | ((try simp only [List.length_map] at h); first | (exfalso; omega) | (conv => whnf)))) | ((with_reducible apply XBr.beq) <;> (intro h; first | (exfalso; omega) | (conv => whnf))) | ((with_reducible apply XBr.bne) <;> (intro h; first | (exfalso; omega) | (conv => whnf))) | ((with_reducible refine XInt.i64 (by omega) (by omega) ?_); conv => whnf) | ((with_reducible refine XHold.mk ?_ ?_); (first | omega | rfl | decide | exact ⟨rfl, by decide, rfl⟩ | exact wideI _ | exact widePr _ | exact wideSk _ | (unfold Room; constructor <;> ((try simp) <;> omega)) | exact ⟨rfl, by simp only [List.length_map], by unfold Room; constructor <;> ((try simp) <;> omega)⟩ | exact ⟨by omega, by omega, by unfold Room; constructor <;> ((try simp) <;> omega)⟩); conv => whnf) | ((with_reducible refine XIx.nat ?_ ?_ ?_); omega; (intro _; rfl); conv => whnf) | ((with_reducible refine XIx.map ?_ ?_ ?_ ?_); omega; omega; (intro _; rfl); conv => whnf) | (with_reducible apply XAnd.mk) | ((with_reducible apply Chk.go); conv => whnf) | ((with_reducible apply ChkA.go); conv => whnf) | ((with_reducible apply ChkF.go); conv => whnf) | ((with_reducible apply ChkB.go); conv => whnf) | (exact XSame.mk rfl rfl) | (exact XSame.mk (by first | rfl | (simp only [List.map_append, List.length_append, List.length_map]; done) | (simp only [List.map_append, List.length_append, List.length_map]; rfl)) (by first | rfl | (simp only [List.map_append]; done) | (simp only [List.map_append]; rfl))) | (with_reducible exact trivial) | ((with_reducible refine xdrop_app (by rw [List.length_map]; omega) ?_); conv => whnf) | ((with_reducible refine XArr.ints (by omega) (by omega) (by omega) ?_); conv => whnf) | ((with_reducible refine XArr.intsA (by omega) (by omega) (by omega) ?_); conv => whnf) | ((with_reducible refine XArr.nats ?_ ?_ ?_); omega; omega; conv => whnf) | ((with_reducible refine XArr.natsA ?_ ?_ ?_); omega; omega; conv => whnf) | ((with_reducible apply XArr.pim0); conv => whnf) | ((with_reducible apply XArr.pim1); conv => whnf) | ((with_reducible refine XArr.ptr ?_ ?_ ?_); omega; omega; conv => whnf) | ((refine XCall.hp (j := 0) (upto_c v pairs vo (by omega) (by omega)) rfl rfl ?_); conv => whnf) | ((refine XHold.mk (List.length_map _) ?_); conv => whnf) | ((with_reducible apply XBr.mk') <;> (intro h; conv => whnf))
    · rw [if_pos (by omega)] at hP
      have hn1 : 1 < (ss.length : Int) := by omega
      have pk := prK_ok (n := ss.length) (hpS_ok vo)
      refine Walk.loopG tab_ok [] (fun j : Nat => j ≤ (modV v pairs).toNat) (fun j => [(0, .ptr 0 0), (6, .ptr 1 0), (7, .ptr 2 0), (8, .int .i64 ss.length), (40, .int .i64 (modV v pairs)), (41, natA j)])
        (fun j => [hpC (prK ss.length (hpS v) j).u, .cells [.int .i64 0, .int .i64 0, .sl true [], .sl true [], .sl true []],
          .cells [.int .i64 (20 + modV u (100 - 20)), .int .i64 (modV (hpS u) 6 * 10), .gr 3 ss.length, .gr 4 (prK ss.length (hpS v) j).ap.length, .gr 5 (prK ss.length (hpS v) j).wt.length], .grow 113 ss.isEmpty (ss.map skA),
          .grow 118 (prK ss.length (hpS v) j).ap.isEmpty ((prK ss.length (hpS v) j).ap.map prA), .grow 118 (prK ss.length (hpS v) j).wt.isEmpty ((prK ss.length (hpS v) j).wt.map prA)])
        (fun j => (modV v pairs).toNat - j) 0 (by omega) rfl ⟨rfl, rfl, rfl, rfl, rfl, rfl, trivial⟩ ?_ ?_ ?_
      · intro j _
        constructor
        · intro x hx; simp only [List.mem_cons, List.not_mem_nil, or_false] at hx
          rcases hx with rfl | rfl | rfl | rfl | rfl | rfl <;> first | exact hpC_low _ | exact lowSk _ | exact lowPr _ | rfl
        · intro p hp; simp only [List.mem_cons, List.not_mem_nil, or_false] at hp; rcases hp with rfl | rfl | rfl | rfl | rfl | rfl <;> rfl
      · intro j _; exact Nat.le_refl _
      intro j hj
      have pj := pk j
      have hnxt : prK ss.length (hpS v) (j + 1) = prS ss.length (prK ss.length (hpS v) j) := rfl
      have hfin2 : j = (modV v pairs).toNat → pq = prK ss.length (hpS v) j := fun h => by rw [hP, h]
      generalize prK ss.length (hpS v) j = st at pj hnxt hfin2
      obtain ⟨ap, wt, x⟩ := st
      dsimp only at pj hnxt hfin2 ⊢
      have xo := pj.1
      have ab := prAB x hn1
      unfold prB1 prA1 at ab
      have c1 := modV_bound x (ss.length - 1)
      have c2 := modV_bound (hpS x) (ss.length - 1 - 1)
      have hss : ss.length ≤ 9 := by omega
      conv => whnf
      repeat' first | ((with_reducible apply XBr.tt); conv => whnf) | ((with_reducible apply XBr.ff); conv => whnf) | (with_reducible apply XBr.not) | ((with_reducible apply XBr.dec) <;> (intro h; first | (exfalso; omega) | ((try simp only [List.length_map] at h); first | (exfalso; omega) | (conv => whnf)))) | ((with_reducible apply XBr.beq) <;> (intro h; first | (exfalso; omega) | (conv => whnf))) | ((with_reducible apply XBr.bne) <;> (intro h; first | (exfalso; omega) | (conv => whnf))) | ((with_reducible refine XInt.i64 (by omega) (by omega) ?_); conv => whnf) | ((with_reducible refine XHold.mk ?_ ?_); (first | omega | rfl | decide | exact ⟨rfl, by decide, rfl⟩ | exact wideI _ | exact widePr _ | exact wideSk _ | (unfold Room; constructor <;> ((try simp) <;> omega)) | exact ⟨rfl, by simp only [List.length_map], by unfold Room; constructor <;> ((try simp) <;> omega)⟩ | exact ⟨by omega, by omega, by unfold Room; constructor <;> ((try simp) <;> omega)⟩); conv => whnf) | ((with_reducible refine XIx.nat ?_ ?_ ?_); omega; (intro _; rfl); conv => whnf) | ((with_reducible refine XIx.map ?_ ?_ ?_ ?_); omega; omega; (intro _; rfl); conv => whnf) | (with_reducible apply XAnd.mk) | ((with_reducible apply Chk.go); conv => whnf) | ((with_reducible apply ChkA.go); conv => whnf) | ((with_reducible apply ChkF.go); conv => whnf) | ((with_reducible apply ChkB.go); conv => whnf) | (exact XSame.mk rfl rfl) | (exact XSame.mk (by first | rfl | (simp only [List.map_append, List.length_append, List.length_map]; done) | (simp only [List.map_append, List.length_append, List.length_map]; rfl)) (by first | rfl | (simp only [List.map_append]; done) | (simp only [List.map_append]; rfl))) | (with_reducible exact trivial) | ((with_reducible refine xdrop_app (by rw [List.length_map]; omega) ?_); conv => whnf) | ((with_reducible refine XArr.ints (by omega) (by omega) (by omega) ?_); conv => whnf) | ((with_reducible refine XArr.intsA (by omega) (by omega) (by omega) ?_); conv => whnf) | ((with_reducible refine XArr.nats ?_ ?_ ?_); omega; omega; conv => whnf) | ((with_reducible refine XArr.natsA ?_ ?_ ?_); omega; omega; conv => whnf) | ((with_reducible apply XArr.pim0); conv => whnf) | ((with_reducible apply XArr.pim1); conv => whnf) | ((with_reducible refine XArr.ptr ?_ ?_ ?_); omega; omega; conv => whnf) | ((refine XCall.hp (j := 0) (upto_c x (ss.length - 1) xo (by omega) (by omega)) rfl rfl ?_); conv => whnf) | ((refine XCall.hp (j := 0) (from_c (hpS x) 1 (ss.length - 1) (hpS_ok xo) (by omega) (by omega) (by omega) (by omega)) rfl rfl ?_); conv => whnf) | ((refine XCall.hp (j := 0) (once_c (hpS (hpS x)) 2 (hpS_ok (hpS_ok xo)) (by omega) (by omega)) rfl rfl ?_); conv => whnf) | ((refine XHold.mk (List.length_map _) ?_); conv => whnf) | ((with_reducible apply XBr.mk') <;> (intro h; conv => whnf))
      · refine XAgainG.go (j + 1) [.cells [.int .i64 (prA1 ss.length x), .int .i64 (prB1 ss.length x)]] (by omega) (by omega) ?_ ⟨rfl, rfl, rfl, rfl, rfl, rfl, trivial⟩
        rw [hnxt]; unfold prS; rw [if_pos (by simpa using h)]; simp only [List.length_append, List.map_append, isEmpty_app]; rfl
      · refine XAgainG.go (j + 1) [.cells [.int .i64 (prA1 ss.length x), .int .i64 (prB1 ss.length x)]] (by omega) (by omega) ?_ ⟨rfl, rfl, rfl, rfl, rfl, rfl, trivial⟩
        rw [hnxt]; unfold prS; rw [if_neg (by simpa using h)]; simp only [List.length_append, List.map_append, isEmpty_app]; rfl
      · rw [hfin2 (by omega)]
        exact made_end _ _ _ _ _ _ rfl rfl rfl
    · rw [if_neg (by omega)] at hP
      subst hP
      exact made_end (20 + modV u 80) (modV (hpS u) 6 * 10) ss [] [] v rfl rfl rfl
end GA
end

section
namespace GA
open Go Go.RowKit Go.Proofs
set_option linter.unusedVariables false
set_option linter.unusedSimpArgs false

/-- Numbers that are dealt. -/
def dealK (u : Hp) (m : Int) : Nat → List Int × Hp
  | 0 => ([], u)
  | k + 1 => ((dealK u m k).1 ++ [modV (dealK u m k).2 m], hpS (dealK u m k).2)
theorem dealK_ok {u : Hp} (o : u.Ok) (m : Int) (hm : 0 ≤ m) : ∀ k, (dealK u m k).2.Ok ∧ (dealK u m k).1.length = k ∧ ∀ x ∈ (dealK u m k).1, 0 ≤ x ∧ x ≤ m
  | 0 => ⟨o, rfl, by simp [dealK]⟩
  | k + 1 => by
    obtain ⟨h1, h2, h3⟩ := dealK_ok o m hm k
    refine ⟨hpS_ok h1, by simp [dealK, h2], fun x hx => ?_⟩
    rw [dealK, List.mem_append] at hx
    rcases hx with hx | hx
    · exact h3 x hx
    · simp only [List.mem_singleton] at hx; subst hx
      have := modV_bound (dealK u m k).2 m; omega
theorem take_sum (xs : List Int) (i : Nat) (hi : i < xs.length) : (xs.take (i + 1)).sum = (xs.take i).sum + xs.getD i 0 := by
  rw [take_next hi, List.sum_append]; simp
theorem take_bound {n : Int} {xs : List Int} (i : Nat) (h : ∀ j, 0 ≤ xs.getD j 0 ∧ xs.getD j 0 ≤ n) : 0 ≤ (xs.take i).sum ∧ (xs.take i).sum ≤ n * i := by
  induction i with
  | zero => simp
  | succ i ih =>
    by_cases hi : i < xs.length
    · rw [take_sum xs i hi]
      have := h i
      rw [Int.natCast_add, Int.mul_add]; simp only [Int.natCast_one, Int.mul_one] at *; omega
    · have e1 : xs.take (i + 1) = xs.take i := by rw [List.take_of_length_le (by omega), List.take_of_length_le (by omega)]
      have := h 0
      rw [e1, Int.natCast_add, Int.mul_add]; simp only [Int.natCast_one, Int.mul_one] at *; omega
end GA
end

section
namespace GA
open Go Go.RowKit Go.Proofs
set_option pp.deepTerms true
set_option maxRecDepth 8000
set_option linter.unusedVariables false
set_option linter.unusedSimpArgs false

def hp0 (nl : Bool) (bs : List Int) : Hp := ⟨nl, bs, 0, 0⟩
theorem hp0_ok {nl : Bool} {bs : List Int} (h : bs.length < 9223372036854775808) : (hp0 nl bs).Ok := ⟨h, .inr rfl⟩
theorem ldW {l : Ld} (o : LdOk l) (hn : l.nla = true → l.apart = []) : LdW l := ⟨hn, by have := o.n; omega, by have := o.na; omega, by have := o.nw; omega⟩
end GA
end

section
namespace GA
open Go Go.RowKit Go.ChangeShapes Go.WideShapes Go.ChangeAt Go.Proofs Go.Proofs.Ytlbdomhfcghjdaa
set_option linter.unusedVariables false
set_option linter.unusedSimpArgs false

section
variable {P : Program} {w : World} {r : Reach} {base : Nat} {t : TypeId} {v : Value}
theorem okWide_len {e : TypeId} (ht : P.underlying t = some (.slice e)) (h : Value.okWide P w r base t v) : ∃ a len cap, v = .slice a len cap ∧ len < 9223372036854775808 := by
  simp only [Value.okWide, ht, Cell.okWide] at h
  cases v with
  | slice a len cap =>
    refine ⟨a, len, cap, rfl, ?_⟩
    cases a with
    | none =>
      cases len with
      | zero => omega
      | succ n => simp [Cell.ok, ht] at h
    | some a =>
      simp only [Cell.ok, ht] at h
      have h1 : IntKind.i64.max = 9223372036854775807 := by decide
      omega
  | _ => simp_all [Cell.ok]
end
theorem rep_len {P : Program} {h : Nat → Option Obj} {β : Nat → Value} {H : List Blk} {nl : Bool} {els : List AV} {a : Option Addr} {len cap : Nat} (x : Rep P h β H (.sl nl els) (.slice a len cap)) : els.length = len := by
  cases x with
  | slnil => rfl
  | slemp => rfl
  | sl us h1 => exact h1.symm
theorem ownK : ownKnob Try.prog.godebug = none := by kernel_rfl
theorem oByte : Opens Try.prog 5 1 (fun a : {n : Int // IntKind.u8.min ≤ n ∧ n ≤ IntKind.u8.max} => [AV.int .u8 a.1]) := .int (by kernel_rfl) (by kernel_rfl)
theorem oBytes : Opens Try.prog 22 1 (fun p : Bool × List Int => [AV.sl p.1 (bytes p.2)]) :=
  (Opens.slice (t := 22) (by kernel_rfl) (by kernel_rfl) oByte (by decide) (fun a => .int .u8 a.1) (fun _ => rfl)).as (fun p => ⟨(p.1.1, p.1.2.map (·.1)), by simp [bytes]⟩) (fun _ => rfl)
end GA
end
