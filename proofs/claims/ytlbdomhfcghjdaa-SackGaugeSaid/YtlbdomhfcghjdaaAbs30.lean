/- Arguments that come from outside: what is read of them, as abstract values. -/
import Derived.Test.YtlbdomhfcghjdaaAbs29
import Derived.WalkKit
import Derived.ProofKit
import Derived.OpenShut
import Derived.ChangeArms
import Derived.WideKeyArgs
import Derived.Deep.Slices
namespace GA
open Go Go.RowKit Go.ChangeShapes Go.WideShapes
set_option linter.unusedVariables false

section
variable {P : Program} {W : World}

/-- Cells that read as some values, all memory being memory that stays. -/
def RepC (P : Program) (W : World) (as : List AV) (cs : List Value) : Prop :=
  as.length = cs.length ∧ (∀ a ∈ as, a.one = true) ∧ ∀ (j : Nat) a, as[j]? = some a → ∃ v, cs[j]? = some v ∧ Rep P (fun b => W.heap[b]?) (fun _ => undef) [] a v
theorem RepC.nil : RepC P W [] [] := ⟨rfl, by simp, by simp⟩
theorem RepC.app {as bs : List AV} {cs ds : List Value} (h1 : RepC P W as cs) (h2 : RepC P W bs ds) : RepC P W (as ++ bs) (cs ++ ds) := by
  refine ⟨by simp [h1.1, h2.1], fun a ha => ?_, fun j a e => ?_⟩
  · rcases List.mem_append.1 ha with h | h
    · exact h1.2.1 a h
    · exact h2.2.1 a h
  · rcases Nat.lt_or_ge j as.length with hj | hj
    · rw [List.getElem?_append_left hj] at e
      obtain ⟨v, e1, e2⟩ := h1.2.2 j a e
      exact ⟨v, by rw [List.getElem?_append_left (by rw [← h1.1]; exact hj)]; exact e1, e2⟩
    · rw [List.getElem?_append_right hj] at e
      obtain ⟨v, e1, e2⟩ := h2.2.2 _ a e
      exact ⟨v, by rw [List.getElem?_append_right (by rw [← h1.1]; exact hj), ← h1.1]; exact e1, e2⟩
theorem RepC.single {a : AV} {v : Value} (h0 : a.one = true) (h : Rep P (fun b => W.heap[b]?) (fun _ => undef) [] a v) : RepC P W [a] [v] := by
  refine ⟨rfl, by simpa using h0, fun j x e => ?_⟩
  cases j with
  | zero => simp at e; subst e; exact ⟨v, rfl, h⟩
  | succ j => simp at e

/-- What is read of a type's cells are cells of such values. -/
structure Opens (P : Program) (t : TypeId) (n : Nat) {A : Type} (f : A → List AV) : Prop where
  size : P.cellsOf t = n
  len : ∀ a, (f a).length = n
  go : ∀ (H : Type) (enc : TypeId × Value → H) (W : World) (fuel : Nat) (cs : List Value) (x : DataW H × List MemPlace), cs.length = n → DataW.trod enc P W 0 (fun _ => true) true fuel t cs = some x → ∃ a : A, RepC P W (f a) cs

theorem Opens.as {t : TypeId} {n : Nat} {A B : Type} {f : A → List AV} {g : B → List AV} (o : Opens P t n f) (h : ∀ a, ∃ b, g b = f a) (hl : ∀ b, (g b).length = n) : Opens P t n g :=
  ⟨o.size, hl, fun H enc W fuel cs x h1 h2 => let ⟨a, h3⟩ := o.go H enc W fuel cs x h1 h2; let ⟨b, h4⟩ := h a; ⟨b, h4 ▸ h3⟩⟩
theorem Opens.int {t : TypeId} {k : IntKind} (hu : P.underlying t = some (.int k)) (hc : P.cellsOf t = 1) : Opens P t 1 (fun a : {n : Int // k.min ≤ n ∧ n ≤ k.max} => [AV.int k a.1]) :=
  ⟨hc, fun _ => rfl, fun H enc W fuel cs x h1 h2 => by
    obtain ⟨n, rfl, _, hw⟩ := DataW.trod_int hu h2
    simp only [Lit.wf, Bool.and_eq_true, decide_eq_true_eq] at hw
    exact ⟨⟨n, hw⟩, .single rfl (.int k n)⟩⟩

theorem flat_un {els : List AV} {n : Nat} (h0 : 0 < n) (hw : ∀ e ∈ els, e.cells.length = n) : ∀ (k : Nat) x, (flat els)[k]? = some x → ∃ e, els[k / n]? = some e ∧ e.cells[k % n]? = some x := by
  induction els with
  | nil => intro k x e; simp [flat] at e
  | cons y els ih =>
    intro k x e
    have hy := hw y List.mem_cons_self
    have hfl : flat (y :: els) = y.cells ++ flat els := by simp [flat]
    rw [hfl] at e
    rcases Nat.lt_or_ge k n with hk | hk
    · rw [List.getElem?_append_left (by omega)] at e
      exact ⟨y, by rw [Nat.div_eq_of_lt hk]; rfl, by rw [Nat.mod_eq_of_lt hk]; exact e⟩
    · rw [List.getElem?_append_right (by omega), hy] at e
      obtain ⟨z, h1, h2⟩ := ih (fun e he => hw e (List.mem_cons_of_mem _ he)) (k - n) x e
      have e1 : k / n = (k - n) / n + 1 := Nat.div_eq_sub_div h0 hk
      have e2 : k % n = (k - n) % n := by rw [Nat.mod_eq_sub_mod hk]
      exact ⟨z, by rw [e1]; exact h1, by rw [e2]; exact h2⟩

theorem cell_heap {a : Addr} {v : Value} (h : W.cell? a = some v) : ∃ c t fz, W.heap[a.block]? = some (.cells c t fz) ∧ a.spot = none ∧ c[a.off]? = some v := by
  unfold World.cell? at h
  split at h
  · rename_i c t fz hh
    split at h
    · cases h
    · rename_i hs; exact ⟨c, t, fz, hh, by simpa using hs, h⟩
  · cases h
theorem add_block (a : Addr) (i : Nat) : (a.add i).block = a.block := by unfold Addr.add; split <;> rfl
theorem add_off (a : Addr) (i : Nat) : (a.add i).off = a.off + i := by
  unfold Addr.add; split
  · rename_i h; simp [h]
  · rfl
theorem add_zero (a : Addr) : a.add 0 = a := by unfold Addr.add; rw [if_pos rfl]
theorem Opens.slice {t e : TypeId} {n : Nat} {A : Type} {f : A → List AV} (hu : P.underlying t = some (.slice e)) (hc : P.cellsOf t = 1) (o : Opens P e n f) (hn : 0 < n) (mk : A → AV) (hmk : ∀ a, (mk a).cells = f a) :
    Opens P t 1 (fun p : {p : Bool × List A // (p.1 = true → p.2 = []) ∧ p.2.length ≤ maxLen} => [AV.sl p.1.1 (p.1.2.map mk)]) := by
  refine ⟨hc, fun _ => rfl, fun H enc W fuel cs x h1 h2 => ?_⟩
  rcases Go.Deep.open_slice hu h2 with ⟨rfl, rfl⟩ | ⟨a, len, cap, m, nf, D, Pl, rfl, hb, hl, hm, hmd, hx, hel⟩
  · exact ⟨⟨(true, []), fun _ => rfl, by simp⟩, .single rfl .slnil⟩
  · rw [if_pos rfl] at hmd
    subst hmd
    rw [o.size] at hel
    rcases Nat.eq_zero_or_pos len with h0 | h0
    · subst h0
      exact ⟨⟨(false, []), fun h => rfl, by simp⟩, .single rfl .slemp⟩
    · have hex : ∀ i, i < len → ∃ (y : A) (cs' : List Value), W.cells? 0 (a.add (i * n)) n = some cs' ∧ RepC P W (f y) cs' := by
        intro i hi
        obtain ⟨cs', h3, h4⟩ := hel i (by omega)
        obtain ⟨y, hy⟩ := o.go H enc W nf cs' _ (World.cells?_some h3).2.1 h4
        exact ⟨y, cs', h3, hy⟩
      classical
      let ys : Nat → A := fun i => if h : i < len then Classical.choose (hex i h) else Classical.choose (hex 0 h0)
      have hys : ∀ i, i < len → ∃ cs', W.cells? 0 (a.add (i * n)) n = some cs' ∧ RepC P W (f (ys i)) cs' := fun i hi => by
        simp only [ys, dif_pos hi]; exact Classical.choose_spec (hex i hi)
      refine ⟨⟨(false, (List.range len).map ys), (fun h => by cases h), (by simp only [List.length_map, List.length_range]; omega)⟩, .single rfl ?_⟩
      dsimp only
      obtain ⟨cs0, hc0, hr0⟩ := hys 0 h0
      have hcell := (World.cells?_some hc0).2.2 0 hn
      have hcl := (World.cells?_some hc0).2.1
      rw [List.getElem?_eq_getElem (by omega), Nat.zero_mul, add_zero, add_zero] at hcell
      obtain ⟨c, ty, fz, hh, hsp, _⟩ := cell_heap hcell
      obtain ⟨b, off, sp⟩ := a
      have hsp : sp = none := hsp
      subst hsp
      have hw : ∀ e ∈ ((List.range len).map ys).map mk, e.cells.length = n := by
        intro e he
        simp only [List.mem_map] at he
        obtain ⟨y, _, rfl⟩ := he
        rw [hmk]; exact o.len y
      have key : ∀ (j : Nat) x, (flat (((List.range len).map ys).map mk))[j]? = some x → ∃ v, c[off + j]? = some v ∧ Rep P (fun b => W.heap[b]?) (fun _ => undef) [] x v ∧ x.one = true := by
        intro j x e
        obtain ⟨el, e1, e2⟩ := flat_un hn hw j x e
        simp only [List.getElem?_map] at e1
        cases hr : (List.range len)[j / n]? with
        | none => simp [hr] at e1
        | some i =>
          obtain ⟨hi, hi2⟩ := List.getElem?_eq_some_iff.1 hr
          have hie : i = j / n := by simpa using hi2.symm
          have hil : j / n < len := by simpa using hi
          simp only [hr, Option.map_some, Option.some.injEq] at e1
          subst e1
          rw [hmk] at e2
          subst hie
          obtain ⟨cs', h3, h4⟩ := hys _ hil
          obtain ⟨v, h5, h6⟩ := h4.2.2 _ _ e2
          have h7 := (World.cells?_some h3).2.2 (j % n) (Nat.mod_lt _ hn)
          rw [h5] at h7
          obtain ⟨c', ty', fz', h8, _, h9⟩ := cell_heap h7
          rw [add_block, add_block] at h8
          rw [add_off, add_off] at h9
          rw [h8] at hh; cases hh
          refine ⟨v, ?_, h6, h4.2.1 x (List.mem_of_getElem? e2)⟩
          have : off + j / n * n + j % n = off + j := by have := Nat.div_add_mod j n; rw [Nat.mul_comm] at this; omega
          rw [this] at h9; exact h9
      refine .sl (w := n) (fun j => (c[off + j]?).getD undef) (by simp) (by simp; omega) hh hw hn (fun x hx => ?_) (by simp; omega) (fun j x e => ?_) (fun j x e => ?_)
      · obtain ⟨j, hj⟩ := mem_get hx
        obtain ⟨v, _, _, h⟩ := key j x hj; exact h
      · obtain ⟨v, h1, _⟩ := key j x e; rw [h1]; rfl
      · obtain ⟨v, h1, h2, _⟩ := key j x e; rw [h1]; exact h2

/-- The fields of a struct, from a place on. -/
structure OpensF (P : Program) (fs : List Field) (off n : Nat) {A : Type} (f : A → List AV) : Prop where
  len : ∀ a, (f a).length = n
  go : ∀ (H : Type) (enc : TypeId × Value → H) (W : World) (fuel : Nat) (cs : List Value), off + n = cs.length →
    (∀ fd ∈ fs, ∃ x, DataW.trod enc P W 0 (fun _ => true) true fuel fd.type ((cs.drop fd.offset).take (P.cellsOf fd.type)) = some x) → ∃ a : A, RepC P W (f a) (cs.drop off)
theorem OpensF.nil {off : Nat} : OpensF P [] off 0 (fun _ : Unit => []) :=
  ⟨fun _ => rfl, fun H enc W fuel cs h _ => ⟨(), by rw [List.drop_eq_nil_of_le (by omega)]; exact .nil⟩⟩
theorem OpensF.cons {fd : Field} {fs : List Field} {off n m : Nat} {A B : Type} {f : A → List AV} {g : B → List AV} (o : Opens P fd.type n f) (ho : fd.offset = off) (r : OpensF P fs (off + n) m g) : OpensF P (fd :: fs) off (n + m) (fun p : A × B => f p.1 ++ g p.2) := by
  refine ⟨fun p => by rw [List.length_append, o.len, r.len], fun H enc W fuel cs h hx => ?_⟩
  obtain ⟨x, h1⟩ := hx fd List.mem_cons_self
  rw [ho, o.size] at h1
  obtain ⟨a, ha⟩ := o.go H enc W fuel _ x (by rw [List.length_take, List.length_drop]; omega) h1
  obtain ⟨b, hb⟩ := r.go H enc W fuel cs (by omega) (fun fd' hf => hx fd' (List.mem_cons_of_mem _ hf))
  refine ⟨(a, b), ?_⟩
  have : cs.drop off = (cs.drop off).take n ++ cs.drop (off + n) := by
    conv => lhs; rw [← List.take_append_drop n (cs.drop off)]
    rw [List.drop_drop]
  rw [this]
  exact ha.app hb
theorem Opens.struct {t : TypeId} {fs : Array Field} {n : Nat} {A : Type} {f : A → List AV} (hu : P.underlying t = some (.struct fs)) (hc : P.cellsOf t = n) (o : OpensF P fs.toList 0 n f) : Opens P t n f := by
  refine ⟨hc, o.len, fun H enc W fuel cs x h1 h2 => ?_⟩
  obtain ⟨xs, k, rfl, rfl, h3, h4, h5⟩ := DataW.trod_struct hu h2
  obtain ⟨a, ha⟩ := o.go H enc W k cs (by omega) (fun fd hf => by
    obtain ⟨i, hi⟩ := List.mem_iff_getElem?.1 hf
    have hi' : fs[i]? = some fd := by simpa using hi
    have hlt := (Array.getElem?_eq_some_iff.1 hi').1
    exact ⟨xs[i]'(by omega), by rw [h5 i fd hi', List.getElem?_eq_getElem]⟩)
  exact ⟨a, by simpa using ha⟩
theorem Opens.array {t e : TypeId} {m n k : Nat} {A : Type} {f : A → List AV} (hu : P.underlying t = some (.array m e)) (hc : P.cellsOf t = k) (hk : k = m * n) (o : Opens P e n f) : Opens P t k (fun l : {l : List A // l.length = m} => l.1.flatMap f) := by
  have hlen : ∀ l : List A, (l.flatMap f).length = l.length * n := fun l => by
    induction l with
    | nil => simp
    | cons x l ih => rw [List.flatMap_cons, List.length_append, o.len, ih, List.length_cons, Nat.add_mul]; omega
  refine ⟨hc, fun l => by rw [hlen, l.2, hk], fun H enc W fuel cs x h1 h2 => ?_⟩
  obtain ⟨xs, q, rfl, rfl, h3, h4, h5⟩ := DataW.trod_array hu h2
  rw [o.size] at h5
  have go : ∀ j, j ≤ m → ∃ l : List A, l.length = j ∧ RepC P W (l.flatMap f) (cs.drop ((m - j) * n)) := by
    intro j
    induction j with
    | zero => intro _; exact ⟨[], rfl, by rw [Nat.sub_zero, List.drop_eq_nil_of_le (by rw [h1, hk]; exact Nat.le_refl _)]; exact .nil⟩
    | succ j ih =>
      intro hj
      obtain ⟨l, hl, hr⟩ := ih (by omega)
      have e1 : (m - j) * n = (m - (j + 1)) * n + n := by rw [show m - j = m - (j + 1) + 1 by omega, Nat.add_mul]; omega
      have hle : (m - (j + 1)) * n + n ≤ cs.length := by
        rw [h1, hk, ← e1]; exact Nat.mul_le_mul_right _ (by omega)
      have h6 := h5 (m - (j + 1)) (by omega)
      rw [List.getElem?_eq_getElem (by omega)] at h6
      obtain ⟨a, ha⟩ := o.go H enc W q _ _ (by rw [List.length_take, List.length_drop]; omega) h6
      refine ⟨a :: l, by simp [hl], ?_⟩
      have : cs.drop ((m - (j + 1)) * n) = (cs.drop ((m - (j + 1)) * n)).take n ++ cs.drop ((m - j) * n) := by
        conv => lhs; rw [← List.take_append_drop n (cs.drop ((m - (j + 1)) * n))]
        rw [List.drop_drop, e1]
      rw [this, List.flatMap_cons]
      exact ha.app hr
  obtain ⟨l, hl, hr⟩ := go m (Nat.le_refl _)
  exact ⟨⟨l, hl⟩, by simpa using hr⟩

/-- An argument of one cell, and one of a struct. -/
theorem Opens.arg {H : Type} {enc : TypeId × Value → H} {t : TypeId} {A : Type} {g : A → AV} {v : Value} {d : DataW H} {ps : List MemPlace} (o : Opens P t 1 (fun a => [g a])) (hv : v.cells = #[v]) (h : DataW.Trod enc P W 0 (fun _ => true) true t v d ps) :
    ∃ a, Rep P (fun b => W.heap[b]?) (fun _ => undef) [] (g a) v := by
  obtain ⟨fuel, hf⟩ := h
  obtain ⟨a, ha⟩ := o.go H enc W fuel v.cells.toList _ (by rw [hv]; rfl) hf
  obtain ⟨u, h1, h2⟩ := ha.2.2 0 (g a) rfl
  rw [hv] at h1; simp at h1; subst h1
  exact ⟨a, h2⟩
theorem Opens.argS {H : Type} {enc : TypeId × Value → H} {t : TypeId} {n : Nat} {A : Type} {f : A → List AV} {cs : Array Value} {d : DataW H} {ps : List MemPlace} (o : Opens P t n f) (hs : cs.size = P.cellsOf t) (h : DataW.Trod enc P W 0 (fun _ => true) true t (.agg cs) d ps) :
    ∃ a, Rep P (fun b => W.heap[b]?) (fun _ => undef) [] (.agg (f a)) (.agg cs) := by
  obtain ⟨fuel, hf⟩ := h
  obtain ⟨a, ha⟩ := o.go H enc W fuel cs.toList _ (by simp [hs, o.size]) hf
  refine ⟨a, .agg (fun j => (cs[j]?).getD undef) (by have := ha.1; simpa using this.symm) ha.2.1 (fun j x e => ?_) (fun j x e => ?_)⟩
  · obtain ⟨v, h1, _⟩ := ha.2.2 j x e; simp at h1; rw [h1]; rfl
  · obtain ⟨v, h1, h2⟩ := ha.2.2 j x e; simp at h1; rw [h1]; exact h2

/-- What is known of the world at first: all memory stays. -/
theorem SR.start (W : World) : SR P ⟨World.env W, fun _ => none, fun _ => none⟩ (fun b => W.heap[b]?) (fun _ => undef) [] W :=
  ⟨rfl, fun _ _ h => h, by simp, fun i j x e => by simp [blkOf] at e, fun i x e => by simp [blkOf] at e, by simp, fun i x e => by simp [blkOf] at e⟩
/-- A law that holds, run in a world. -/
theorem Comp.law {f : FuncId} {rs : List AV} (x : Comp P f rs (.bool true)) {args : Array Value} (hr : RepL P (fun b => W.heap[b]?) (fun _ => undef) [] rs args.toList) :
    Calls P f args W fun e W' => e = .returned (.bool true) ∧ World.env W' = World.env W ∧ ∀ (b : Nat) o, W.heap[b]? = some o → W'.heap[b]? = some o := by
  have h := (x.o.2 _ _ _ W args.toList (SR.start W) hr).calls (fun _ _ hd => by cases hd)
  have e : args.toList.toArray = args := by simp
  rw [e] at h
  refine h.mono ?_
  rintro e w' ⟨r, H', h', β', v, rfl, ⟨rfl, rfl⟩, X, s', hv⟩
  cases hv
  exact ⟨rfl, s'.env, fun b o hb => s'.imm b o (X.imm b o hb)⟩
theorem keptBut_of {W' : World} {may : MemPlace → Prop} (he : World.env W' = World.env W) (hk : ∀ (b : Nat) o, W.heap[b]? = some o → W'.heap[b]? = some o) : W.keptBut W' may := by
  refine ⟨congrArg Env0.os he, congrArg Env0.out he, fun i hi => ?_⟩
  have h1 : W.heap[i]? = some W.heap[i] := Array.getElem?_eq_getElem hi
  have h2 := hk i _ h1
  rw [h1, h2]
  generalize W.heap[i] = o
  cases o <;> simp
theorem trodAll_stays {H : Type} {enc : TypeId × Value → H} (hl : laidOutB P = true) {W' : World} {sp' : Nat → Bool} (hk : ∀ (b : Nat) o, W.heap[b]? = some o → W'.heap[b]? = some o) (hwt : ∀ p, (∃ o, W.heap[MemPlace.block p]? = some o) → sp' p.block = true) :
    ∀ {ts : List TypeId} {vs : List Value} {ds : List (DataW H)} {ps : List MemPlace}, (∀ t ∈ ts, P.readableRec t = true ∧ t < P.types.size) → (∀ p ∈ ps, ∃ o, W.heap[MemPlace.block p]? = some o) → DataW.TrodAll enc P W 0 (fun _ => true) true ts vs ds ps → DataW.TrodAll enc P W' 0 sp' true ts vs ds ps
  | [], vs, ds, ps, _, _, h => by obtain ⟨rfl, rfl, rfl⟩ := trodAll_nil h; rfl
  | t :: ts, vs, ds, ps, ht, hp, h => by
    obtain ⟨v, vs1, d, ds1, p, q, rfl, rfl, rfl, h1, h2⟩ := trodAll_cons h
    have ht0 := ht t List.mem_cons_self
    refine ⟨p, q, Go.WideElems.Trod_stays hl ht0.1 ht0.2 h1 (fun x hx => ?_) (fun x hx => hwt x (hp x (List.mem_append_left _ hx))), trodAll_stays hl hk hwt (fun t' h' => ht t' (List.mem_cons_of_mem _ h')) (fun x hx => hp x (List.mem_append_right _ hx)) h2, rfl⟩
    obtain ⟨o, ho⟩ := hp x (List.mem_append_left _ hx)
    cases x with
    | cell b off => simp only [World.sameAt, World.cell?, MemPlace.block] at ho ⊢; rw [ho, hk _ _ ho]
    | map b => simp only [World.sameAt, MemPlace.block] at ho ⊢; rw [ho, hk _ _ ho]
/-- A law's promise, when it has returned true and changed nothing. -/
theorem post_true {H : Type} {enc : TypeId × Value → H} {fn : Func} {s : ChangeSpec} {tb : TypeId} {W' : World} {args : Array Value} {ds gs : List (DataW H)} {before : List MemPlace}
    (ht : fn.resultTypes = #[tb]) (hu : P.underlying tb = some .bool) (hl : laidOutB P = true) (hr : ∀ t ∈ fn.params.toList, P.readableRec t = true ∧ t < P.types.size) (hv : s.vars = [])
    (hW : DataW.Whole enc P fn.params.toList s.vars false W args.toList ds gs before) (hs : gs = [] → s.fn H (ds ++ gs) = { results := [.lit (.bool true)], args := ds })
    (he : World.env W' = World.env W) (hk : ∀ (b : Nat) o, W.heap[b]? = some o → W'.heap[b]? = some o) : s.post enc P fn false true false false W args (.bool true) W' := by
  have hW' := hW
  obtain ⟨p, q, hA, hV, hb, hz, _⟩ := hW
  rw [hv] at hV
  obtain ⟨rfl, rfl⟩ := trodVars_none hV
  rw [List.append_nil] at hb
  subst hb
  have hs := hs rfl
  have hlt : ∀ x ∈ before, ∃ o, W.heap[MemPlace.block x]? = some o := fun x hx => ⟨_, Array.getElem?_eq_getElem (hW'.lt x hx)⟩
  refine ⟨ds, [], before, [], before, [], hW', ?_, ?_, ?_, keptBut_of he hk, fun h => by cases h⟩
  · rw [hs, ht]
    exact trodAll_cons_mk (shut_bool hu _) trodAll_mk0
  · rw [hs]
    exact trodAll_stays hl hk (fun x ⟨o, ho⟩ => by simpa using (Array.getElem?_eq_some_iff.1 ho).1) hr hlt hA
  · rw [hv, hs]; rfl
end
end GA
