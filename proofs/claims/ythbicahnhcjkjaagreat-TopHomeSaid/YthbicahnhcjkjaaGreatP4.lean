/- Part 4 of a proof: Abs30, Abs31, Abs32, Abs34, AbsS, Abs35, AbsI, Abs36, Abs37, Abs38, Abs39, Abs40, Abs43, Abs45, Abs47, Abs48, Abs49, K1, D28, FB, F0. -/
import Derived.Test.YthbicahnhcjkjaaGreatP3
import Derived.WalkKit
import Derived.ProofKit
import Derived.OpenShut
import Derived.ChangeArms
import Derived.WideKeyArgs
import Derived.Deep.Slices
import Derived.Shelf.Spec.SlicesInsert
import Derived.Shelf.Spec.SlicesInsertGrow
import Derived.Test.YthbicahnhcjkjaaGreatRows
section
namespace GA
open Go Go.RowKit Go.ChangeShapes Go.WideShapes
set_option linter.unusedVariables false

section
variable {P : Program} {W : World}

def RepC (P : Program) (W : World) (qs : List AV) (cs : List Value) : Prop :=
  qs.length = cs.length ∧ (∀ a ∈ qs, a.one = true) ∧ ∀ (j : Nat) a, qs[j]? = some a → ∃ v, cs[j]? = some v ∧ Rep P (fun b => W.heap[b]?) (fun _ => undef) [] a v
theorem RepC.nil : RepC P W [] [] := ⟨rfl, by simp, by simp⟩
theorem RepC.app {qs bs : List AV} {cs ds : List Value} (h1 : RepC P W qs cs) (h2 : RepC P W bs ds) : RepC P W (qs ++ bs) (cs ++ ds) := by
  refine ⟨by simp [h1.1, h2.1], fun a ha => ?_, fun j a e => ?_⟩
  · rcases List.mem_append.1 ha with h | h
    · exact h1.2.1 a h
    · exact h2.2.1 a h
  · rcases Nat.lt_or_ge j qs.length with hj | hj
    · rw [List.getElem?_append_left hj] at e
      obtain ⟨v, e1, e2⟩ := h1.2.2 j a e
      exact ⟨v, by rw [List.getElem?_append_left (by rw [← h1.1]; exact hj)]; exact e1, e2⟩
    · rw [List.getElem?_append_right hj] at e
      obtain ⟨v, e1, e2⟩ := h2.2.2 _ a e
      exact ⟨v, by rw [List.getElem?_append_right (by rw [← h1.1]; exact hj), ← h1.1]; exact e1, e2⟩
theorem RepC.single {a : AV} {v : Value} (h0 : a.one = true) (h : Rep P (fun b => W.heap[b]?) (fun _ => undef) [] a v) : RepC P W [a] [v] := by
  refine ⟨rfl, by simpa using h0, fun j x e => ?_⟩
  cases j with
  | zero => simp at e; subst e; exact ⟨v, rfl, h⟩
  | succ j => simp at e

structure Opens (P : Program) (t : TypeId) (n : Nat) {A : Type} (f : A → List AV) : Prop where
  size : P.cellsOf t = n
  len : ∀ a, (f a).length = n
  go : ∀ (H : Type) (enc : TypeId × Value → H) (W : World) (fuel : Nat) (cs : List Value) (x : DataW H × List MemPlace), cs.length = n → DataW.trod enc P W 0 (fun _ => true) true fuel t cs = some x → ∃ a : A, RepC P W (f a) cs

theorem Opens.as {t : TypeId} {n : Nat} {A B : Type} {f : A → List AV} {g : B → List AV} (o : Opens P t n f) (h : ∀ a, ∃ b, g b = f a) (hl : ∀ b, (g b).length = n) : Opens P t n g :=
  ⟨o.size, hl, fun H enc W fuel cs x h1 h2 => let ⟨a, h3⟩ := o.go H enc W fuel cs x h1 h2; let ⟨b, h4⟩ := h a; ⟨b, h4 ▸ h3⟩⟩
theorem Opens.int {t : TypeId} {k : IntKind} (hu : P.underlying t = some (.int k)) (hc : P.cellsOf t = 1) : Opens P t 1 (fun a : {n : Int // k.min ≤ n ∧ n ≤ k.max} => [AV.int k a.1]) :=
  ⟨hc, fun _ => rfl, fun H enc W fuel cs x h1 h2 => by
    obtain ⟨n, rfl, _, hw⟩ := DataW.trod_int hu h2
    simp only [Lit.wf, Bool.and_eq_true, decide_eq_true_eq] at hw
    exact ⟨⟨n, hw⟩, .single rfl (.int k n)⟩⟩

theorem flat_un {els : List AV} {n : Nat} (h0 : 0 < n) (hw : ∀ e ∈ els, e.cells.length = n) : ∀ (k : Nat) x, (flat els)[k]? = some x → ∃ e, els[k / n]? = some e ∧ e.cells[k % n]? = some x := by
  induction els with
  | nil => intro k x e; simp [flat] at e
  | cons y els ih =>
    intro k x e
    have hy := hw y List.mem_cons_self
    have hfl : flat (y :: els) = y.cells ++ flat els := by simp [flat]
    rw [hfl] at e
    rcases Nat.lt_or_ge k n with hk | hk
    · rw [List.getElem?_append_left (by omega)] at e
      exact ⟨y, by rw [Nat.div_eq_of_lt hk]; rfl, by rw [Nat.mod_eq_of_lt hk]; exact e⟩
    · rw [List.getElem?_append_right (by omega), hy] at e
      obtain ⟨z, h1, h2⟩ := ih (fun e he => hw e (List.mem_cons_of_mem _ he)) (k - n) x e
      have e1 : k / n = (k - n) / n + 1 := Nat.div_eq_sub_div h0 hk
      have e2 : k % n = (k - n) % n := by rw [Nat.mod_eq_sub_mod hk]
      exact ⟨z, by rw [e1]; exact h1, by rw [e2]; exact h2⟩

theorem cell_heap {a : Addr} {v : Value} (h : W.cell? a = some v) : ∃ c t fz, W.heap[a.block]? = some (.cells c t fz) ∧ a.spot = none ∧ c[a.off]? = some v := by
  unfold World.cell? at h
  split at h
  · rename_i c t fz hh
    split at h
    · cases h
    · rename_i hs; exact ⟨c, t, fz, hh, by simpa using hs, h⟩
  · cases h
theorem add_block (a : Addr) (i : Nat) : (a.add i).block = a.block := by unfold Addr.add; split <;> rfl
theorem add_off (a : Addr) (i : Nat) : (a.add i).off = a.off + i := by
  unfold Addr.add; split
  · rename_i h; simp [h]
  · rfl
theorem add_zero (a : Addr) : a.add 0 = a := by unfold Addr.add; rw [if_pos rfl]
theorem Opens.slice {t e : TypeId} {n : Nat} {A : Type} {f : A → List AV} (hu : P.underlying t = some (.slice e)) (hc : P.cellsOf t = 1) (o : Opens P e n f) (hn : 0 < n) (mk : A → AV) (hmk : ∀ a, (mk a).cells = f a) :
    Opens P t 1 (fun p : {p : Bool × List A // (p.1 = true → p.2 = []) ∧ p.2.length ≤ maxLen} => [AV.sl p.1.1 (p.1.2.map mk)]) := by
  refine ⟨hc, fun _ => rfl, fun H enc W fuel cs x h1 h2 => ?_⟩
  rcases Go.Deep.open_slice hu h2 with ⟨rfl, rfl⟩ | ⟨a, len, cap, m, nf, D, Pl, rfl, hb, hl, hm, hmd, hx, hel⟩
  · exact ⟨⟨(true, []), fun _ => rfl, by simp⟩, .single rfl .slnil⟩
  · rw [if_pos rfl] at hmd
    subst hmd
    rw [o.size] at hel
    rcases Nat.eq_zero_or_pos len with h0 | h0
    · subst h0
      exact ⟨⟨(false, []), fun h => rfl, by simp⟩, .single rfl .slemp⟩
    · have hex : ∀ i, i < len → ∃ (y : A) (cs' : List Value), W.cells? 0 (a.add (i * n)) n = some cs' ∧ RepC P W (f y) cs' := by
        intro i hi
        obtain ⟨cs', h3, h4⟩ := hel i (by omega)
        obtain ⟨y, hy⟩ := o.go H enc W nf cs' _ (World.cells?_some h3).2.1 h4
        exact ⟨y, cs', h3, hy⟩
      classical
      let ys : Nat → A := fun i => if h : i < len then Classical.choose (hex i h) else Classical.choose (hex 0 h0)
      have hys : ∀ i, i < len → ∃ cs', W.cells? 0 (a.add (i * n)) n = some cs' ∧ RepC P W (f (ys i)) cs' := fun i hi => by
        simp only [ys, dif_pos hi]; exact Classical.choose_spec (hex i hi)
      refine ⟨⟨(false, (List.range len).map ys), (fun h => by cases h), (by simp only [List.length_map, List.length_range]; omega)⟩, .single rfl ?_⟩
      dsimp only
      obtain ⟨cs0, hc0, hr0⟩ := hys 0 h0
      have hcell := (World.cells?_some hc0).2.2 0 hn
      have hcl := (World.cells?_some hc0).2.1
      rw [List.getElem?_eq_getElem (by omega), Nat.zero_mul, add_zero, add_zero] at hcell
      obtain ⟨c, ty, fz, hh, hsp, _⟩ := cell_heap hcell
      obtain ⟨b, off, sp⟩ := a
      have hsp : sp = none := hsp
      subst hsp
      have hw : ∀ e ∈ ((List.range len).map ys).map mk, e.cells.length = n := by
        intro e he
        simp only [List.mem_map] at he
        obtain ⟨y, _, rfl⟩ := he
        rw [hmk]; exact o.len y
      have key : ∀ (j : Nat) x, (flat (((List.range len).map ys).map mk))[j]? = some x → ∃ v, c[off + j]? = some v ∧ Rep P (fun b => W.heap[b]?) (fun _ => undef) [] x v ∧ x.one = true := by
        intro j x e
        obtain ⟨el, e1, e2⟩ := flat_un hn hw j x e
        simp only [List.getElem?_map] at e1
        cases hr : (List.range len)[j / n]? with
        | none => simp [hr] at e1
        | some i =>
          obtain ⟨hi, hi2⟩ := List.getElem?_eq_some_iff.1 hr
          have hie : i = j / n := by simpa using hi2.symm
          have hil : j / n < len := by simpa using hi
          simp only [hr, Option.map_some, Option.some.injEq] at e1
          subst e1
          rw [hmk] at e2
          subst hie
          obtain ⟨cs', h3, h4⟩ := hys _ hil
          obtain ⟨v, h5, h6⟩ := h4.2.2 _ _ e2
          have h7 := (World.cells?_some h3).2.2 (j % n) (Nat.mod_lt _ hn)
          rw [h5] at h7
          obtain ⟨c', ty', fz', h8, _, h9⟩ := cell_heap h7
          rw [add_block, add_block] at h8
          rw [add_off, add_off] at h9
          rw [h8] at hh; cases hh
          refine ⟨v, ?_, h6, h4.2.1 x (List.mem_of_getElem? e2)⟩
          have : off + j / n * n + j % n = off + j := by have := Nat.div_add_mod j n; rw [Nat.mul_comm] at this; omega
          rw [this] at h9; exact h9
      refine .sl (w := n) (fun j => (c[off + j]?).getD undef) (by simp) (by simp; omega) hh hw hn (fun x hx => ?_) (by simp; omega) (fun j x e => ?_) (fun j x e => ?_)
      · obtain ⟨j, hj⟩ := mem_get hx
        obtain ⟨v, _, _, h⟩ := key j x hj; exact h
      · obtain ⟨v, h1, _⟩ := key j x e; rw [h1]; rfl
      · obtain ⟨v, h1, h2, _⟩ := key j x e; rw [h1]; exact h2

structure OpensF (P : Program) (fs : List Field) (off n : Nat) {A : Type} (f : A → List AV) : Prop where
  len : ∀ a, (f a).length = n
  go : ∀ (H : Type) (enc : TypeId × Value → H) (W : World) (fuel : Nat) (cs : List Value), off + n = cs.length →
    (∀ fd ∈ fs, ∃ x, DataW.trod enc P W 0 (fun _ => true) true fuel fd.type ((cs.drop fd.offset).take (P.cellsOf fd.type)) = some x) → ∃ a : A, RepC P W (f a) (cs.drop off)
theorem OpensF.nil {off : Nat} : OpensF P [] off 0 (fun _ : Unit => []) :=
  ⟨fun _ => rfl, fun H enc W fuel cs h _ => ⟨(), by rw [List.drop_eq_nil_of_le (by omega)]; exact .nil⟩⟩
theorem OpensF.cons {fd : Field} {fs : List Field} {off n m : Nat} {A B : Type} {f : A → List AV} {g : B → List AV} (o : Opens P fd.type n f) (ho : fd.offset = off) (r : OpensF P fs (off + n) m g) : OpensF P (fd :: fs) off (n + m) (fun p : A × B => f p.1 ++ g p.2) := by
  refine ⟨fun p => by rw [List.length_append, o.len, r.len], fun H enc W fuel cs h hx => ?_⟩
  obtain ⟨x, h1⟩ := hx fd List.mem_cons_self
  rw [ho, o.size] at h1
  obtain ⟨a, ha⟩ := o.go H enc W fuel _ x (by rw [List.length_take, List.length_drop]; omega) h1
  obtain ⟨b, hb⟩ := r.go H enc W fuel cs (by omega) (fun fd' hf => hx fd' (List.mem_cons_of_mem _ hf))
  refine ⟨(a, b), ?_⟩
  have : cs.drop off = (cs.drop off).take n ++ cs.drop (off + n) := by
    conv => lhs; rw [← List.take_append_drop n (cs.drop off)]
    rw [List.drop_drop]
  rw [this]
  exact ha.app hb
theorem Opens.struct {t : TypeId} {fs : Array Field} {n : Nat} {A : Type} {f : A → List AV} (hu : P.underlying t = some (.struct fs)) (hc : P.cellsOf t = n) (o : OpensF P fs.toList 0 n f) : Opens P t n f := by
  refine ⟨hc, o.len, fun H enc W fuel cs x h1 h2 => ?_⟩
  obtain ⟨xs, k, rfl, rfl, h3, h4, h5⟩ := DataW.trod_struct hu h2
  obtain ⟨a, ha⟩ := o.go H enc W k cs (by omega) (fun fd hf => by
    obtain ⟨i, hi⟩ := List.mem_iff_getElem?.1 hf
    have hi' : fs[i]? = some fd := by simpa using hi
    have hlt := (Array.getElem?_eq_some_iff.1 hi').1
    exact ⟨xs[i]'(by omega), by rw [h5 i fd hi', List.getElem?_eq_getElem]⟩)
  exact ⟨a, by simpa using ha⟩
theorem Opens.array {t e : TypeId} {m n k : Nat} {A : Type} {f : A → List AV} (hu : P.underlying t = some (.array m e)) (hc : P.cellsOf t = k) (hk : k = m * n) (o : Opens P e n f) : Opens P t k (fun l : {l : List A // l.length = m} => l.1.flatMap f) := by
  have hlen : ∀ l : List A, (l.flatMap f).length = l.length * n := fun l => by
    induction l with
    | nil => simp
    | cons x l ih => rw [List.flatMap_cons, List.length_append, o.len, ih, List.length_cons, Nat.add_mul]; omega
  refine ⟨hc, fun l => by rw [hlen, l.2, hk], fun H enc W fuel cs x h1 h2 => ?_⟩
  obtain ⟨xs, q, rfl, rfl, h3, h4, h5⟩ := DataW.trod_array hu h2
  rw [o.size] at h5
  have go : ∀ j, j ≤ m → ∃ l : List A, l.length = j ∧ RepC P W (l.flatMap f) (cs.drop ((m - j) * n)) := by
    intro j
    induction j with
    | zero => intro _; exact ⟨[], rfl, by rw [Nat.sub_zero, List.drop_eq_nil_of_le (by rw [h1, hk]; exact Nat.le_refl _)]; exact .nil⟩
    | succ j ih =>
      intro hj
      obtain ⟨l, hl, hr⟩ := ih (by omega)
      have e1 : (m - j) * n = (m - (j + 1)) * n + n := by rw [show m - j = m - (j + 1) + 1 by omega, Nat.add_mul]; omega
      have hle : (m - (j + 1)) * n + n ≤ cs.length := by
        rw [h1, hk, ← e1]; exact Nat.mul_le_mul_right _ (by omega)
      have h6 := h5 (m - (j + 1)) (by omega)
      rw [List.getElem?_eq_getElem (by omega)] at h6
      obtain ⟨a, ha⟩ := o.go H enc W q _ _ (by rw [List.length_take, List.length_drop]; omega) h6
      refine ⟨a :: l, by simp [hl], ?_⟩
      have : cs.drop ((m - (j + 1)) * n) = (cs.drop ((m - (j + 1)) * n)).take n ++ cs.drop ((m - j) * n) := by
        conv => lhs; rw [← List.take_append_drop n (cs.drop ((m - (j + 1)) * n))]
        rw [List.drop_drop, e1]
      rw [this, List.flatMap_cons]
      exact ha.app hr
  obtain ⟨l, hl, hr⟩ := go m (Nat.le_refl _)
  exact ⟨⟨l, hl⟩, by simpa using hr⟩

theorem Opens.arg {H : Type} {enc : TypeId × Value → H} {t : TypeId} {A : Type} {g : A → AV} {v : Value} {d : DataW H} {ps : List MemPlace} (o : Opens P t 1 (fun a => [g a])) (hv : v.cells = #[v]) (h : DataW.Trod enc P W 0 (fun _ => true) true t v d ps) :
    ∃ a, Rep P (fun b => W.heap[b]?) (fun _ => undef) [] (g a) v := by
  obtain ⟨fuel, hf⟩ := h
  obtain ⟨a, ha⟩ := o.go H enc W fuel v.cells.toList _ (by rw [hv]; rfl) hf
  obtain ⟨u, h1, h2⟩ := ha.2.2 0 (g a) rfl
  rw [hv] at h1; simp at h1; subst h1
  exact ⟨a, h2⟩
theorem SR.start (W : World) : SR P ⟨World.env W, fun _ => none, fun _ => none⟩ (fun b => W.heap[b]?) (fun _ => undef) [] W :=
  ⟨rfl, fun _ _ h => h, by simp, fun i j x e => by simp [blkOf] at e, fun i x e => by simp [blkOf] at e, by simp, fun i x e => by simp [blkOf] at e⟩
theorem Comp.law {f : FuncId} {rs : List AV} (x : Comp P f rs (.bool true)) {args : Array Value} (hr : RepL P (fun b => W.heap[b]?) (fun _ => undef) [] rs args.toList) :
    Calls P f args W fun e W' => e = .returned (.bool true) ∧ World.env W' = World.env W ∧ ∀ (b : Nat) o, W.heap[b]? = some o → W'.heap[b]? = some o := by
  have h := (x.o.2 _ _ _ W args.toList (SR.start W) hr).calls (fun _ _ hd => by cases hd)
  have e : args.toList.toArray = args := by simp
  rw [e] at h
  refine h.mono ?_
  rintro e w' ⟨r, H', h', β', v, rfl, ⟨rfl, rfl⟩, X, s', hv⟩
  cases hv
  exact ⟨rfl, s'.env, fun b o hb => s'.imm b o (X.imm b o hb)⟩
theorem keptBut_of {W' : World} {may : MemPlace → Prop} (he : World.env W' = World.env W) (hk : ∀ (b : Nat) o, W.heap[b]? = some o → W'.heap[b]? = some o) : W.keptBut W' may := by
  refine ⟨congrArg Env0.os he, congrArg Env0.out he, fun i hi => ?_⟩
  have h1 : W.heap[i]? = some W.heap[i] := Array.getElem?_eq_getElem hi
  have h2 := hk i _ h1
  rw [h1, h2]
  generalize W.heap[i] = o
  cases o <;> simp
theorem trodAll_stays {H : Type} {enc : TypeId × Value → H} (hl : laidOutB P = true) {W' : World} {sp' : Nat → Bool} (hk : ∀ (b : Nat) o, W.heap[b]? = some o → W'.heap[b]? = some o) (hwt : ∀ p, (∃ o, W.heap[MemPlace.block p]? = some o) → sp' p.block = true) :
    ∀ {ts : List TypeId} {vs : List Value} {ds : List (DataW H)} {ps : List MemPlace}, (∀ t ∈ ts, P.readableRec t = true ∧ t < P.types.size) → (∀ p ∈ ps, ∃ o, W.heap[MemPlace.block p]? = some o) → DataW.TrodAll enc P W 0 (fun _ => true) true ts vs ds ps → DataW.TrodAll enc P W' 0 sp' true ts vs ds ps
  | [], vs, ds, ps, _, _, h => by obtain ⟨rfl, rfl, rfl⟩ := trodAll_nil h; rfl
  | t :: ts, vs, ds, ps, ht, hp, h => by
    obtain ⟨v, vs1, d, ds1, p, q, rfl, rfl, rfl, h1, h2⟩ := trodAll_cons h
    have ht0 := ht t List.mem_cons_self
    refine ⟨p, q, Go.WideElems.Trod_stays hl ht0.1 ht0.2 h1 (fun x hx => ?_) (fun x hx => hwt x (hp x (List.mem_append_left _ hx))), trodAll_stays hl hk hwt (fun t' h' => ht t' (List.mem_cons_of_mem _ h')) (fun x hx => hp x (List.mem_append_right _ hx)) h2, rfl⟩
    obtain ⟨o, ho⟩ := hp x (List.mem_append_left _ hx)
    cases x with
    | cell b off => simp only [World.sameAt, World.cell?, MemPlace.block] at ho ⊢; rw [ho, hk _ _ ho]
    | map b => simp only [World.sameAt, MemPlace.block] at ho ⊢; rw [ho, hk _ _ ho]
theorem post_true {H : Type} {enc : TypeId × Value → H} {fn : Func} {s : ChangeSpec} {tb : TypeId} {W' : World} {args : Array Value} {ds gs : List (DataW H)} {before : List MemPlace}
    (ht : fn.resultTypes = #[tb]) (hu : P.underlying tb = some .bool) (hl : laidOutB P = true) (hr : ∀ t ∈ fn.params.toList, P.readableRec t = true ∧ t < P.types.size) (hv : s.vars = [])
    (hW : DataW.Whole enc P fn.params.toList s.vars false W args.toList ds gs before) (hs : gs = [] → s.fn H (ds ++ gs) = { results := [.lit (.bool true)], args := ds })
    (he : World.env W' = World.env W) (hk : ∀ (b : Nat) o, W.heap[b]? = some o → W'.heap[b]? = some o) : s.post enc P fn false true false false W args (.bool true) W' := by
  have hW' := hW
  obtain ⟨p, q, hA, hV, hb, hz, _⟩ := hW
  rw [hv] at hV
  obtain ⟨rfl, rfl⟩ := trodVars_none hV
  rw [List.append_nil] at hb
  subst hb
  have hs := hs rfl
  have hlt : ∀ x ∈ before, ∃ o, W.heap[MemPlace.block x]? = some o := fun x hx => ⟨_, Array.getElem?_eq_getElem (hW'.lt x hx)⟩
  refine ⟨ds, [], before, [], before, [], hW', ?_, ?_, ?_, keptBut_of he hk, fun h => by cases h⟩
  · rw [hs, ht]
    exact trodAll_cons_mk (shut_bool hu _) trodAll_mk0
  · rw [hs]
    exact trodAll_stays hl hk (fun x ⟨o, ho⟩ => by simpa using (Array.getElem?_eq_some_iff.1 ho).1) hr hlt hA
  · rw [hv, hs]; rfl
end
end GA
end

section
namespace GA
open Go Go.RowKit
set_option linter.unusedVariables false
set_option linter.unusedSimpArgs false

section
variable {P : Program} {T : Tab} {N : Nat} {ρ : Option Nat} {own : List Nat} {E : Env} {h h' : Nat → Option Obj} {β β' : Nat → Value} {H H' Hn : List Blk} {w w' : World} {σ : St} {D : List Nat}

structure Gives (P : Program) (f : FuncId) (rs : List AV) (r : AV) (Hn : List Blk) : Prop where
  lo : lowL 0 rs = true
  lr : r.low Hn.length = true
  lH : ∀ x ∈ Hn, x.low Hn.length = true
  o : ACall P f rs [] fun r' H' => r' = r ∧ H' = Hn

theorem SR.beside (s : SR P E h β H w) {E' : Env} (hb : E'.b = E.b) (h1 : ∀ i b, blkOf β H i = some b → E'.fr b = w.heap[b]?) (h2 : ∀ b, (∀ i, blkOf β H i ≠ some b) → E'.fr b = E.fr b)
    (X : Ext h β [] h' β' Hn) (s' : SR P E' h' β' Hn w') (lo : ∀ x ∈ Hn, x.low Hn.length = true) :
    ∃ β'', Ren (H.length + ·) β' Hn β'' (H ++ Hn.map (Blk.ren (H.length + ·))) ∧ Ext h β H h' β'' (H ++ Hn.map (Blk.ren (H.length + ·))) ∧ SR P E h' β'' (H ++ Hn.map (Blk.ren (H.length + ·))) w' := by
  let β'' : Nat → Value := fun i => if i < H.length then β i else β' (i - H.length)
  have b1 : ∀ i, i < H.length → β'' i = β i := fun i hi => if_pos hi
  have b2 : ∀ i, β'' (H.length + i) = β' i := fun i => by
    show (if H.length + i < H.length then β (H.length + i) else β' (H.length + i - H.length)) = β' i
    rw [if_neg (by omega)]; congr 1; omega
  have R : Ren (H.length + ·) β' Hn β'' (H ++ Hn.map (Blk.ren (H.length + ·))) := by
    refine ⟨fun i x e => ?_, fun i hi => b2 i⟩
    rw [List.getElem?_append_right (by omega), List.getElem?_map, show H.length + i - H.length = i by omega, e]; rfl
  have hlow : ∀ i, i < H.length → (H ++ Hn.map (Blk.ren (H.length + ·)))[i]? = H[i]? := fun i hi => List.getElem?_append_left hi
  have X' : Ext h β H h' β'' (H ++ Hn.map (Blk.ren (H.length + ·))) := by
    refine ⟨X.imm, by simp, fun i x x' e e' => ?_⟩
    have hi := (List.getElem?_eq_some_iff.1 e).1
    rw [hlow i hi, e] at e'; cases e'
    have := Blk.to_refl β i x
    cases x <;> first | exact rfl | trivial | (simp only [Blk.to, b1 i hi] at this ⊢; exact this)
  have o1 : ∀ i, i < H.length → blkOf β'' (H ++ Hn.map (Blk.ren (H.length + ·))) i = blkOf β H i := fun i hi => by
    unfold blkOf; rw [hlow i hi, b1 i hi]
  have o2 : ∀ i, i < Hn.length → blkOf β'' (H ++ Hn.map (Blk.ren (H.length + ·))) (H.length + i) = blkOf β' Hn i := fun i hi => R.blkOf hi
  have hsplit : ∀ i x, blkOf β'' (H ++ Hn.map (Blk.ren (H.length + ·))) i = some x → (i < H.length ∧ blkOf β H i = some x) ∨ ∃ j, j < Hn.length ∧ i = H.length + j ∧ blkOf β' Hn j = some x := by
    intro i x e
    have hi := (blkOf_some e).1
    simp only [List.length_append, List.length_map] at hi
    by_cases hlt : i < H.length
    · exact .inl ⟨hlt, by rw [← o1 i hlt]; exact e⟩
    · refine .inr ⟨i - H.length, by omega, by omega, ?_⟩
      rw [← o2 _ (by omega), show H.length + (i - H.length) = i by omega]; exact e
  have hclash : ∀ i j b, blkOf β H i = some b → blkOf β' Hn j = some b → False := by
    intro i j b e1 e2
    have h3 := s'.fro j b e2
    rw [h1 i b e1, Array.getElem?_eq_getElem (s.lt e1)] at h3
    cases h3
  have hkeep : ∀ i b, blkOf β H i = some b → w'.heap[b]? = w.heap[b]? ∧ h' b = none := by
    intro i b e
    have hlt := s.lt e
    have e1 : E'.fr b = some w.heap[b] := by rw [h1 i b e, Array.getElem?_eq_getElem hlt]
    obtain ⟨e2, e3⟩ := s'.frm b _ e1
    exact ⟨by rw [e2, Array.getElem?_eq_getElem hlt], e3⟩
  refine ⟨β'', R, X', s'.env.trans hb, s'.imm, fun i x e => ?_, fun i j x e1 e2 => ?_, fun i x e => ?_, fun b o e => ?_, fun i x e => ?_⟩
  · by_cases hlt : i < H.length
    · rw [hlow i hlt] at e
      exact (s.blk i x e).keep X' (b1 i hlt) fun hd hd' b hb => (hkeep i b (by unfold blkOf; rw [e]; cases x <;> first | exact absurd rfl hd | exact absurd rfl hd' | exact hb)).1
    · have hi := (List.getElem?_eq_some_iff.1 e).1
      simp only [List.length_append, List.length_map] at hi
      rw [List.getElem?_append_right (by omega), List.getElem?_map] at e
      obtain ⟨y, hy, rfl⟩ := Option.map_eq_some_iff.1 e
      have := R.blk (i := i - H.length) (by omega) (s'.blk _ _ hy)
      simp only at this
      rwa [show H.length + (i - H.length) = i by omega] at this
  · rcases hsplit i x e1 with ⟨_, a1⟩ | ⟨i', _, rfl, a1⟩ <;> rcases hsplit j x e2 with ⟨_, a2⟩ | ⟨j', _, rfl, a2⟩
    · exact s.own _ _ _ a1 a2
    · exact (hclash _ _ _ a1 a2).elim
    · exact (hclash _ _ _ a2 a1).elim
    · rw [s'.own _ _ _ a1 a2]
  · rcases hsplit i x e with ⟨_, a1⟩ | ⟨i', _, rfl, a1⟩
    · exact (hkeep i x a1).2
    · exact s'.fresh _ _ a1
  · by_cases hh : ∃ i, blkOf β H i = some b
    · obtain ⟨i, hi⟩ := hh
      rw [s.fro _ _ hi] at e; cases e
    · exact s'.frm b o (by rw [h2 b (fun i hi => hh ⟨i, hi⟩)]; exact e)
  · rcases hsplit i x e with ⟨_, a1⟩ | ⟨j, _, rfl, a1⟩
    · exact s.fro _ _ a1
    · have h3 := s'.fro _ _ a1
      rw [h2 x (fun i hi => hclash _ _ _ hi a1)] at h3
      exact h3

theorem Gives.comp {f : FuncId} {rs : List AV} {r r0 : AV} (x : Gives P f rs r Hn) (hf : Froz P Hn r r0) : Comp P f rs r0 := by
  refine ⟨x.lo, x.o.1, fun E h β w vs s hr => ?_⟩
  refine (x.o.2 E h β w vs s hr).mono ?_
  rintro e w' ⟨r1, H1, h', β', v, rfl, ⟨rfl, rfl⟩, X, s', hrep⟩
  refine ⟨r0, [], hall h' β' H1 w', β, v, rfl, ⟨rfl, rfl⟩, ⟨fun b o e => hall_imm s' (X.imm b o e), Nat.le_refl _, fun i x x' e => by simp at e⟩, ?_, (hf _ _ _ _ s' v hrep).none⟩
  have s2 := s'.all
  exact ⟨s2.env, s2.imm, fun i x e => by simp at e, fun i j x e => by simp [blkOf] at e, fun i x e => by simp [blkOf] at e, s2.frm, fun i x e => by simp [blkOf] at e⟩

def SelR (f : Nat → Nat) (H : List Blk) : Nat → List Blk → Prop
  | _, [] => True
  | i, x :: l => lget H (f i) = some (x.ren f) ∧ SelR f H (i + 1) l
theorem SelR.get {f : Nat → Nat} {H : List Blk} : ∀ {l : List Blk} {i : Nat}, SelR f H i l → ∀ (j : Nat) x, l[j]? = some x → lget H (f (i + j)) = some (x.ren f)
  | [], _, _, j, x, e => by simp at e
  | y :: l, i, h, 0, x, e => by simp at e; subst e; exact h.1
  | y :: l, i, h, j + 1, x, e => by
    have := SelR.get h.2 j x (by simpa using e)
    rwa [Nat.add_right_comm] at this
structure XGive (H : List Blk) (r' r : AV) (Hn : List Blk) : Prop where
  o : ∃ l : List Nat, l.length = Hn.length ∧ l.Nodup ∧ SelR (rnF l) H 0 Hn ∧ r' = r.ren (rnF l)
theorem XGive.mk' {H : List Blk} {r' r : AV} {Hn : List Blk} (l : List Nat) (h1 : l.length = Hn.length) (h2 : l.Nodup) (h3 : SelR (rnF l) H 0 Hn) (h4 : r' = r.ren (rnF l)) : XGive H r' r Hn := ⟨l, h1, h2, h3, h4⟩
theorem Gives.body {f : FuncId} {fn : Func} {c : Code} {rs : List AV} {res : List ResultVar} {r : AV} (ok : TabOk P T) (own : List Nat) (hf : P.funcs[f]? = some fn) (hb : fn.body = some c) (hn : (fn.name == "runtime.NumGoroutine") = false)
    (hN : fn.ntmps = N) (hr : fn.results = res.toArray) (hl : rs.length ≤ N) (lo : lowL 0 rs = true) (lr : r.low Hn.length = true) (lH : ∀ x ∈ Hn, x.low Hn.length = true)
    (x : XRun P T N none own c (XIn T res fun r' H' => XGive H' r' r Hn) [] (argX rs) []) : Gives P f rs r Hn := by
  refine ⟨lo, lr, lH, ?_⟩
  obtain ⟨h1, h2⟩ := ACall.inl ok own hf hb hn hN hr hl x
  refine ⟨h1, fun E h β w vs s hrs => (h2 E h β w vs s hrs).mono ?_⟩
  rintro e w' ⟨r', H', h', β', v, rfl, ⟨l, g1, g2, g3, g4⟩, X, s', hrep⟩
  have inj : ∀ i j, i < Hn.length → j < Hn.length → rnF l i = rnF l j → i = j := by
    intro i j hi hj e
    unfold rnF at e
    rw [lget_eq, lget_eq, List.getElem?_eq_getElem (by omega), List.getElem?_eq_getElem (by omega)] at e
    exact (List.getElem_inj g2).1 e
  have R : Ren (rnF l) (fun i => β' (rnF l i)) Hn β' H' := ⟨fun i x e => by
    have := g3.get i x e
    rw [Nat.zero_add, lget_eq] at this; exact this, fun _ _ => rfl⟩
  exact ⟨r, Hn, h', _, v, rfl, ⟨rfl, rfl⟩, ⟨X.imm, Nat.zero_le _, fun i x x' e => by simp at e⟩, R.sr s' inj lH, R.unrep hrep g4.symm lr⟩

mutual
def AV.plainG : AV → Bool
  | .bool _ | .int _ _ | .nilp | .nilm | .nilf | .gr _ _ => true
  | .sl true [] => true
  | .agg cs | .tup cs => plainGL cs
  | _ => false
def plainGL : List AV → Bool
  | [] => true
  | x :: l => x.plainG && plainGL l
end
theorem plainGL_iff : ∀ {l : List AV}, plainGL l = true ↔ ∀ x ∈ l, x.plainG = true
  | [] => by simp [plainGL]
  | x :: l => by simp [plainGL, plainGL_iff (l := l)]
theorem Rep.plainG {r : AV} {v : Value} (x : Rep P h' β H r v) (hp : r.plainG = true) : Rep P h β H r v := by
  induction x with
  | bool b => exact .bool b
  | int k n => exact .int k n
  | nilp => exact .nilp
  | nilm => exact .nilm
  | nilf => exact .nilf
  | slnil => exact .slnil
  | gr h1 h2 h3 => exact .gr h1 h2 h3
  | agg us h1 h2 h3 _ ih =>
    simp only [AV.plainG] at hp; rw [plainGL_iff] at hp
    exact .agg us h1 h2 h3 fun j x e => ih j x e (hp x (List.mem_of_getElem? e))
  | tup us h1 h2 _ ih =>
    simp only [AV.plainG] at hp; rw [plainGL_iff] at hp
    exact .tup us h1 h2 fun j x e => ih j x e (hp x (List.mem_of_getElem? e))
  | _ => simp [AV.plainG] at hp
def Blk.plainG : Blk → Bool
  | .dead | .free => true
  | .cells cs => plainGL cs
  | .grow _ _ els => plainGL (flat els)
  | _ => false
theorem CellsOk.plainG {cs : List AV} {c : Array Value} (hp : plainGL cs = true) (k : CellsOk P h' β H cs c) : CellsOk P h β H cs c :=
  let ⟨us, a, b⟩ := k
  ⟨us, a, fun j x e => (b j x e).plainG (plainGL_iff.1 hp x (List.mem_of_getElem? e))⟩
theorem BlkOk.plainG {heap : Array Obj} {i : Nat} {x : Blk} (hp : x.plainG = true) (k : BlkOk P h' β H heap i x) : BlkOk P h β H heap i x := by
  cases x with
  | dead => trivial
  | free => trivial
  | cells cs =>
    obtain ⟨b, c, t, h1, h2, h3, h4, h5⟩ := k
    exact ⟨b, c, t, h1, h2, h3, h4, h5.plainG hp⟩
  | grow t nl els =>
    rcases k with k | k | ⟨h1, b, cap, c, h2, h3, h4, h5, h6, h7, h8, h9, h10, h11⟩
    · exact .inl k
    · exact .inr (.inl k)
    · exact .inr (.inr ⟨h1, b, cap, c, h2, h3, h4, h5, h6, h7, h8, h9, h10, h11.plainG hp⟩)
  | _ => simp [Blk.plainG] at hp

theorem ACall.giveL {f : FuncId} {rs rs' : List AV} {r : AV} {k : AV → List Blk → Prop} (x : Gives P f rs' r Hn) (hf : FrozL P H rs rs') (pr : r.plainG = true) (pH : ∀ x ∈ Hn, x.plainG = true)
    (hk : k (r.ren (H.length + ·)) (H ++ Hn.map (Blk.ren (H.length + ·)))) : ACall P f rs H k := by
  refine ⟨x.o.1, fun E h β w vs s hr => ?_⟩
  classical
  let E' : Env := ⟨E.b, fun b => if ∃ i, blkOf β H i = some b then w.heap[b]? else E.fr b, E.en⟩
  have hr0 : RepL P (hall h β H w) β [] rs' vs := ⟨by rw [hf.1]; exact hr.1, fun j y e => by
    obtain ⟨z, e1, e2⟩ := hf.2 j y e
    obtain ⟨v, e3, e4⟩ := hr.2 j z e1
    exact ⟨v, e3, e2 E h β w s v e4⟩⟩
  refine (x.o.2 E _ β w vs s.all hr0).mono ?_
  rintro e w' ⟨r1, H1, h', β', v, rfl, ⟨rfl, rfl⟩, X, s', hrep⟩
  have hown : ∀ i b, blkOf β H i = some b → w'.heap[b]? = w.heap[b]? ∧ ∃ o, w.heap[b]? = some o ∧ h' b = some o := fun i b e => by
    have hlt := s.lt e
    have e1 : w.heap[b]? = some w.heap[b] := Array.getElem?_eq_getElem hlt
    have e3 := X.imm b _ ((hall_own (h := h) (w := w) e).trans e1)
    have e2 := s'.imm b _ e3
    exact ⟨by rw [e2, e1], _, e1, e3⟩
  have hsub : ∀ b, h' b = none → h b = none := fun b e => by
    cases e1 : h b with
    | none => rfl
    | some o => rw [X.imm b o (hall_imm s e1)] at e; cases e
  have s2 : SR P E' h β' H1 w' := by
    refine ⟨s'.env, fun b o e => s'.imm b o (X.imm b o (hall_imm s e)), fun i x e => (s'.blk i x e).plainG (pH x (List.mem_of_getElem? e)), s'.own, fun i x e => hsub x (s'.fresh i x e), fun b o e => ?_, fun i x e => ?_⟩
    · simp only [E'] at e
      split at e
      · rename_i hh; obtain ⟨i, hi⟩ := hh
        exact ⟨(hown i b hi).1.trans e, s.fresh _ _ hi⟩
      · exact ⟨(s'.frm b o e).1, (s.frm b o e).2⟩
    · simp only [E']
      rw [if_neg]
      · exact s'.fro i x e
      · rintro ⟨j, hj⟩
        obtain ⟨_, o, _, h5⟩ := hown j x hj
        rw [s'.fresh i x e] at h5; cases h5
  obtain ⟨β'', R, X', s''⟩ := s.beside (E' := E') rfl (fun i b e => by simp only [E']; rw [if_pos ⟨i, e⟩]) (fun b hn => by simp only [E']; rw [if_neg (fun ⟨i, hi⟩ => hn i hi)]) (h' := h) (β' := β') (Hn := H1) ⟨fun _ _ e => e, Nat.zero_le _, fun i x x' e => by simp at e⟩ s2 x.lH
  exact ⟨_, _, h, β'', v, rfl, hk, X', s'', R.rep (hrep.plainG pr)⟩
theorem XCall.giveL {f : FuncId} {rs rs' : List AV} {r : AV} {k : AV → List Blk → Prop} (x : Gives P f rs' r Hn) (hf : FrozL P H rs rs') (pr : r.plainG = true) (pH : ∀ x ∈ Hn, x.plainG = true)
    (hk : k (r.ren (H.length + ·)) (H ++ Hn.map (Blk.ren (H.length + ·)))) : XCall P f rs H k := ⟨.giveL x hf pr pH hk⟩

theorem Walk.nilcell {c : Code} {Q : Post} (j o : Nat) (te : TypeId) {cs : List AV} (hj : lget H j = some (.cells cs)) (hc : lget cs o = some (.sl true [])) (x : Walk P N ρ c Q D σ (H.set j (.cells (cs.set o (.gr H.length 0))) ++ [.grow te true []])) : Walk P N ρ c Q D σ H := by
  constructor
  intro E h β a w s
  rw [lget_eq] at hj hc
  have hlt := (List.getElem?_eq_some_iff.1 hj).1
  have hlo := (List.getElem?_eq_some_iff.1 hc).1
  obtain ⟨s1, X1⟩ := s.sr.push (w' := w) s.sr.env (fun _ _ => rfl) (.slice none 0 0) (.grow te true []) (by intro b hb; simp [anchor] at hb) (fun _ => .inl ⟨rfl, rfl, by simp [upb]⟩)
  have hj1 : (H ++ [Blk.grow te true []])[j]? = some (.cells cs) := by rw [List.getElem?_append_left hlt]; exact hj
  obtain ⟨s2, X2⟩ := s1.modify (β' := upb β H.length (.slice none 0 0)) (w' := w) (x' := .cells (cs.set o (.gr H.length 0))) hj1 (fun _ _ => rfl) (.inr ⟨_, rfl, rfl⟩) s1.env (fun _ _ _ => rfl) (fun b e => .inl (by unfold blkOf; rw [hj1]; exact e)) (fun X => by
    obtain ⟨b, c, t, h1, h2, h3, h4, us, h5, h6⟩ := s1.blk j _ hj1
    refine ⟨b, c, t, h1, h2, by rw [List.length_set]; exact h3, fun y hy => ?_, us, fun i y e => ?_, fun i y e => ?_⟩
    · rcases List.mem_or_eq_of_mem_set hy with hy | rfl
      · exact h4 y hy
      · rfl
    · by_cases hio : o = i
      · subst hio; exact h5 o _ hc
      · rw [List.getElem?_set_ne hio] at e; exact h5 i y e
    · by_cases hio : o = i
      · subst hio
        rw [List.getElem?_set_self hlo] at e; cases e
        have h7 := h6 o _ hc
        cases h : us o <;> rw [h] at h7 <;> cases h7
        refine .gr rfl ⟨_, by rw [List.getElem?_set_ne (by omega), List.getElem?_append_right (Nat.le_refl _), Nat.sub_self]; rfl, rfl⟩ fun t' nl els e => ?_
        rw [List.getElem?_set_ne (by omega), List.getElem?_append_right (Nat.le_refl _), Nat.sub_self] at e
        simp at e; obtain ⟨_, _, rfl⟩ := e
        exact ⟨Nat.le_refl _, fun _ => by simp [upb]⟩
      · rw [List.getElem?_set_ne hio] at e; exact X.rep (h6 i y e))
  rw [List.set_append_left _ _ hlt] at s2 X2
  exact wpIn_mono (x.o E h _ a w ⟨s2, fun u r e => let ⟨v, h1, h2⟩ := s.fits u r e; ⟨v, h1, (X1.trans X2).rep h2⟩, s.size, s.df.ext (X1.trans X2)⟩) fun _ _ _ => Conc.ext (X1.trans X2)

noncomputable def hallN (n : Nat) (h : Nat → Option Obj) (β : Nat → Value) (H : List Blk) (w : World) : Nat → Option Obj := by
  classical exact fun b => if ∃ i, n ≤ i ∧ blkOf β H i = some b then w.heap[b]? else h b
theorem hallN_own {n b i : Nat} (hi : n ≤ i) (e : blkOf β H i = some b) : hallN n h β H w b = w.heap[b]? := by
  unfold hallN; rw [if_pos ⟨i, hi, e⟩]
theorem hallN_imm {n : Nat} (s : SR P E h β H w) {b : Nat} {o : Obj} (e : h b = some o) : hallN n h β H w b = some o := by
  unfold hallN; split
  · rename_i hh; obtain ⟨i, _, hi⟩ := hh; rw [s.fresh _ _ hi] at e; cases e
  · exact e
theorem SR.allN {H1 l : List Blk} (s : SR P E h β (H1 ++ l) w) (lo : ∀ x ∈ H1, x.low H1.length = true) : SR P E (hallN H1.length h β (H1 ++ l) w) β H1 w := by
  have s1 := s.cut lo
  have hb : ∀ i, i < H1.length → blkOf β H1 i = blkOf β (H1 ++ l) i := fun i hi => by unfold blkOf; rw [List.getElem?_append_left hi]
  have hlt : ∀ {i x}, blkOf β H1 i = some x → i < H1.length := fun e => (blkOf_some e).1
  have X : Ext h β H1 (hallN H1.length h β (H1 ++ l) w) β H1 := ⟨fun b o e => hallN_imm s e, Nat.le_refl _, fun i x x' e e' => by rw [e] at e'; cases e'; exact Blk.to_refl _ _ _⟩
  refine ⟨s1.env, fun b o e => ?_, fun i x e => (s1.blk i x e).keep X rfl (fun _ _ _ _ => rfl), s1.own, fun i x e => ?_, fun b o e => ⟨(s.frm b o e).1, ?_⟩, s1.fro⟩
  · unfold hallN at e; split at e
    · exact e
    · exact s.imm b o e
  · have hi := hlt e
    unfold hallN; rw [if_neg]
    · exact s1.fresh i x e
    · rintro ⟨j, hj, hj2⟩
      have := s.own i j x (by rw [← hb i hi]; exact e) hj2
      omega
  · unfold hallN; rw [if_neg]
    · exact (s.frm b o e).2
    · rintro ⟨j, hj, hj2⟩
      rw [s.fro _ _ hj2] at e; cases e
def FrozN (P : Program) (n : Nat) (H : List Blk) (r r' : AV) : Prop :=
  ∀ E h β w, SR P E h β H w → ∀ v, Rep P h β H r v → ∀ H1 : List Blk, Rep P (hallN n h β H w) β H1 r' v
def FrozNL (P : Program) (n : Nat) (H : List Blk) (rs rs' : List AV) : Prop := rs'.length = rs.length ∧ ∀ (j : Nat) x, rs'[j]? = some x → ∃ y, rs[j]? = some y ∧ FrozN P n H y x
theorem FrozN.low {n : Nat} {r : AV} (hl : r.low 0 = true) : FrozN P n H r r := by
  intro E h β w s v hr H1
  have h0 : Rep P h β [] r v := Rep.cut (H := []) (l := H) hr hl
  have X : Ext h β [] (hallN n h β H w) β [] := ⟨fun b o e => hallN_imm s e, Nat.le_refl _, by simp⟩
  exact (X.rep h0).none
theorem FrozNL.nil {n : Nat} : FrozNL P n H [] [] := ⟨rfl, by simp⟩
theorem FrozNL.cons {n : Nat} {r r' : AV} {rs rs' : List AV} (h1 : FrozN P n H r r') (h2 : FrozNL P n H rs rs') : FrozNL P n H (r :: rs) (r' :: rs') := by
  refine ⟨by simp [h2.1], fun j x e => ?_⟩
  cases j with
  | zero => simp at e; subst e; exact ⟨r, rfl, h1⟩
  | succ j => exact h2.2 j x (by simpa using e)
theorem FrozN.tup {n : Nat} {rs rs' : List AV} (hs : FrozNL P n H rs rs') : FrozN P n H (.tup rs) (.tup rs') := by
  intro E h β w s v hr H1
  cases hr with
  | tup us h1 h2 h3 =>
    refine .tup us (by rw [h1, hs.1]) (fun j x e => ?_) (fun j x e => ?_)
    · obtain ⟨y, e1, _⟩ := hs.2 j x e; exact h2 j y e1
    · obtain ⟨y, e1, e2⟩ := hs.2 j x e; exact e2 E h β w s _ (h3 j y e1) H1
theorem FrozN.agg {n : Nat} {rs rs' : List AV} (hone : ∀ x ∈ rs', x.one = true) (hs : FrozNL P n H rs rs') : FrozN P n H (.agg rs) (.agg rs') := by
  intro E h β w s v hr H1
  cases hr with
  | agg us h1 h0 h2 h3 =>
    refine .agg us (by rw [h1, hs.1]) hone (fun j x e => ?_) (fun j x e => ?_)
    · obtain ⟨y, e1, _⟩ := hs.2 j x e; exact h2 j y e1
    · obtain ⟨y, e1, e2⟩ := hs.2 j x e; exact e2 E h β w s _ (h3 j y e1) H1
theorem FrozN.grow {n i m : Nat} {t : TypeId} {nl : Bool} {els : List AV} (hi : n ≤ i) (hb : lget H i = some (.grow t nl els)) (hn : els.length = m) (hl : lowL 0 els = true) : FrozN P n H (.gr i m) (.sl nl els) := by
  have hb' := hb; rw [lget_eq] at hb'
  intro E h β w s v hr H1
  cases hr with
  | gr ho hlv hv =>
    obtain ⟨h1, h2⟩ := hv _ _ _ hb'
    have hβ := h2 hn
    subst hβ
    rcases s.blk i _ hb' with ⟨rfl, rfl, h3⟩ | ⟨rfl, rfl, b, h3⟩ | ⟨rfl, b, cap, c, h3, h4, h5, h6, h7, h8, h9, h10, h11, us, h12, h13⟩
    · rw [h3]; exact .slnil
    · rw [h3]; exact .slemp
    · rw [h3]
      cases els with
      | nil => exact .slemp
      | cons e0 l0 =>
        have hbo : blkOf β H i = some b := by simp only [blkOf, hb', h3, anchor]; rw [if_neg (by omega)]
        refine .sl us rfl (by simp) ((hallN_own hi hbo).trans h5) h10 h9 h11 h6 (fun j x e => ?_) (fun j x e => ?_)
        · rw [Nat.zero_add]; exact h12 j x e
        · exact FrozN.low (lowL_iff.1 (by rw [lowL_iff]; exact low_flat.1 hl) x (List.mem_of_getElem? e)) E h β w s _ (h13 j x e) H1

structure XEnd (P : Program) (n : Nat) (H : List Blk) (r' r : AV) (H1 : List Blk) : Prop where
  o : H.take n = H1 ∧ H1.length = n ∧ (∀ x ∈ H1, x.low n = true) ∧ FrozN P n H r' r
theorem ACall.bodyN {f : FuncId} {fn : Func} {c : Code} {rs : List AV} {res : List ResultVar} {r : AV} {H1 : List Blk} {k : AV → List Blk → Prop} (ok : TabOk P T) (own : List Nat) (hf : P.funcs[f]? = some fn) (hb : fn.body = some c) (hn : (fn.name == "runtime.NumGoroutine") = false)
    (hN : fn.ntmps = N) (hr : fn.results = res.toArray) (hl : rs.length ≤ N) (hk : k r H1)
    (x : XRun P T N none own c (XIn T res fun r' H' => XEnd P H.length H' r' r H1) [] (argX rs) H) : ACall P f rs H k := by
  obtain ⟨h1, h2⟩ := ACall.inl ok own hf hb hn hN hr hl x
  refine ⟨h1, fun E h β w vs s hrs => (h2 E h β w vs s hrs).mono ?_⟩
  rintro e w' ⟨r', H', h', β', v, rfl, ⟨g1, g2, g3, g4⟩, X, s', hrep⟩
  have hH : H' = H1 ++ H'.drop H.length := by rw [← g1, List.take_append_drop]
  rw [hH] at s' X hrep g4
  have s2 := s'.allN (by rw [g2]; exact g3)
  have X2 : Ext h β H h' β' H1 := X.cut (by omega)
  rw [g2] at s2
  exact ⟨r, H1, _, β', v, rfl, hk, ⟨fun b o e => hallN_imm s' (X2.imm b o e), by omega, X2.to⟩, s2, g4 E h' β' w' s' v hrep H1⟩
end
end GA
end

section
namespace GA
open Go Go.RowKit
set_option linter.unusedVariables false

section
variable {P : Program} {T : Tab} {N : Nat} {ρ : Option Nat} {H : List Blk} {σ : St} {D : List Nat}
theorem Walk.place {c : Code} {Q : Post} (x : Walk P N ρ c Q D σ (H ++ [.free])) : Walk P N ρ c Q D σ H := by
  constructor
  intro E h β a w s
  obtain ⟨s', X⟩ := s.sr.push (w' := w) s.sr.env (fun _ _ => rfl) (.pointer none) .free (by intro b hb; simp [anchor] at hb) (fun _ => trivial)
  exact wpIn_mono (x.o E h _ a w ⟨s', fun u r e => let ⟨v, h1, h2⟩ := s.fits u r e; ⟨v, h1, X.rep h2⟩, s.size, s.df.ext X⟩) fun _ _ _ => Conc.ext X
theorem XFree.at {H : List Blk} {b : Blk} {k : Nat → List Blk → Prop} (i : Nat) (h1 : lget H i = some .free) (h2 : hset H i b fun H' => k i H') : XFree H b k := ⟨i, h1, h2⟩
end
end GA
end

section
namespace GA
open Go Go.RowKit
set_option linter.unusedVariables false
section
variable {P : Program} {N : Nat} {ρ : Option Nat} {E : Env} {h h' : Nat → Option Obj} {β : Nat → Value} {H H' : List Blk} {w : World} {σ : St}

theorem gr_frz (s : SR P E h β H w) {i n : Nat} {t : TypeId} {nl : Bool} {els : List AV} (hi : H[i]? = some (.grow t nl els)) (hn : els.length = n) {v : Value} (hr : Rep P h β H (.gr i n) v) (X : Ext h β H h' β H')
    (hfz : ∀ b o, blkOf β H i = some b → w.heap[b]? = some o → h' b = some o) : Rep P h' β H' (.sl nl els) v := by
  cases hr with
  | gr ho hl hv =>
    obtain ⟨_, h2⟩ := hv _ _ _ hi
    have hβ := h2 hn
    subst hβ
    rcases s.blk i _ hi with ⟨rfl, rfl, h3⟩ | ⟨rfl, rfl, b, h3⟩ | ⟨rfl, b, cap, c, h3, h4, h5, h6, h7, h8, h9, h10, h11, us, h12, h13⟩
    · rw [h3]; exact .slnil
    · rw [h3]; exact .slemp
    · rw [h3]
      cases els with
      | nil => exact .slemp
      | cons e0 l0 =>
        have hbo : blkOf β H i = some b := by simp only [blkOf, hi, h3, anchor]; rw [if_neg (by omega)]
        exact .sl us rfl (by simp) (hfz b _ hbo h5) h10 h9 h11 h6 (fun j x e => by rw [Nat.zero_add]; exact h12 j x e) (fun j x e => X.rep (h13 j x e))

theorem Walk.freeze {c : Code} {Q : Post} {D : List Nat} (u i n : Nat) {t : TypeId} {nl : Bool} {els : List AV} (hu : σ u = some (.gr i n)) (hi : lget H i = some (.grow t nl els)) (hn : els.length = n) (x : Walk P N ρ c Q D (updX σ u (.sl nl els)) (H.set i .dead)) : Walk P N ρ c Q D σ H := by
  constructor
  intro E h β a w s
  rw [lget_eq] at hi
  obtain ⟨h', s1, X, hfz⟩ := s.sr.freeze hi
  refine wpIn_mono (x.o E h' _ a w ⟨s1, fun t' r e => ?_, s.size, s.df.ext X⟩) fun _ _ _ => Conc.ext X
  rw [updX_eq] at e; unfold upd at e
  split at e
  · rename_i hh; subst hh; cases e
    obtain ⟨v, h1, h2⟩ := s.fits _ _ hu
    exact ⟨v, h1, gr_frz s.sr hi hn h2 X hfz⟩
  · obtain ⟨v, h1, h2⟩ := s.fits t' r e
    exact ⟨v, h1, X.rep h2⟩
theorem Walk.freezeCell {c : Code} {Q : Post} {D : List Nat} (j o i n : Nat) {cs : List AV} {t : TypeId} {nl : Bool} {els : List AV} (hj : lget H j = some (.cells cs)) (hc : lget cs o = some (.gr i n)) (hi : lget H i = some (.grow t nl els)) (hn : els.length = n)
    (x : Walk P N ρ c Q D σ ((H.set i .dead).set j (.cells (cs.set o (.sl nl els))))) : Walk P N ρ c Q D σ H := by
  constructor
  intro E h β a w s
  rw [lget_eq] at hi hj hc
  have hlo := (List.getElem?_eq_some_iff.1 hc).1
  have hij : i ≠ j := by rintro rfl; rw [hi] at hj; cases hj
  obtain ⟨h', s1, X1, hfz⟩ := s.sr.freeze hi
  have hj1 : (H.set i .dead)[j]? = some (.cells cs) := by rw [List.getElem?_set_ne hij]; exact hj
  obtain ⟨s2, X2⟩ := s1.modify (β' := β) (w' := w) (x' := .cells (cs.set o (.sl nl els))) hj1 (fun _ _ => rfl) (.inr ⟨_, rfl, rfl⟩) s1.env (fun _ _ _ => rfl) (fun b e => .inl (by unfold blkOf; rw [hj1]; exact e)) (fun X => by
    obtain ⟨b, c, t, h1, h2, h3, h4, us, h5, h6⟩ := s.sr.blk j _ hj
    refine ⟨b, c, t, h1, h2, by rw [List.length_set]; exact h3, fun y hy => ?_, us, fun i y e => ?_, fun i y e => ?_⟩
    · rcases List.mem_or_eq_of_mem_set hy with hy | rfl
      · exact h4 y hy
      · rfl
    · by_cases hio : o = i
      · subst hio; exact h5 o _ hc
      · rw [List.getElem?_set_ne hio] at e; exact h5 i y e
    · by_cases hio : o = i
      · subst hio
        rw [List.getElem?_set_self hlo] at e; cases e
        exact gr_frz s.sr hi hn (h6 o _ hc) (X1.trans X) hfz
      · rw [List.getElem?_set_ne hio] at e; exact (X1.trans X).rep (h6 i y e))
  exact wpIn_mono (x.o E h' _ a w ⟨s2, fun u r e => let ⟨v, h1, h2⟩ := s.fits u r e; ⟨v, h1, (X1.trans X2).rep h2⟩, s.size, s.df.ext (X1.trans X2)⟩) fun _ _ _ => Conc.ext (X1.trans X2)

inductive FrzV (i n : Nat) (nl : Bool) (els : List AV) : AV → AV → Prop
  | same {x : AV} : FrzV i n nl els x x
  | gr : FrzV i n nl els (.gr i n) (.sl nl els)
  | agg {cs cs' : List AV} (hl : cs'.length = cs.length) (hone : ∀ x ∈ cs', x.one = true) (ho : ∀ (j : Nat) x', cs'[j]? = some x' → ∃ x, cs[j]? = some x ∧ (x' = x ∨ (x = .gr i n ∧ x' = .sl nl els))) : FrzV i n nl els (.agg cs) (.agg cs')
structure FrzL (i n : Nat) (nl : Bool) (els : List AV) (rs rs' : List AV) : Prop where
  l : rs'.length = rs.length
  o : ∀ (j : Nat) x', rs'[j]? = some x' → ∃ x, rs[j]? = some x ∧ FrzV i n nl els x x'
structure FrzC (i n : Nat) (nl : Bool) (els : List AV) (rs rs' : List AV) : Prop where
  l : rs'.length = rs.length
  o : ∀ (j : Nat) x', rs'[j]? = some x' → ∃ x, rs[j]? = some x ∧ (x' = x ∨ (x = .gr i n ∧ x' = .sl nl els))
section
variable {i n : Nat} {nl : Bool} {els : List AV}
theorem FrzC.nil : FrzC i n nl els [] [] := ⟨rfl, by simp⟩
theorem FrzC.cons {x y : AV} {rs rs' : List AV} (hx : y = x ∨ (x = .gr i n ∧ y = .sl nl els)) (h : FrzC i n nl els rs rs') : FrzC i n nl els (x :: rs) (y :: rs') := by
  refine ⟨by simp [h.l], fun j z e => ?_⟩
  cases j with
  | zero => simp at e; subst e; exact ⟨_, rfl, hx⟩
  | succ j => exact h.o j z (by simpa using e)
theorem FrzC.same {x : AV} {rs rs' : List AV} (h : FrzC i n nl els rs rs') : FrzC i n nl els (x :: rs) (x :: rs') := .cons (.inl rfl) h
theorem FrzC.gr {rs rs' : List AV} (h : FrzC i n nl els rs rs') : FrzC i n nl els (.gr i n :: rs) (.sl nl els :: rs') := .cons (.inr ⟨rfl, rfl⟩) h
theorem FrzL.nil : FrzL i n nl els [] [] := ⟨rfl, by simp⟩
theorem FrzL.cons {x y : AV} {rs rs' : List AV} (hx : FrzV i n nl els x y) (h : FrzL i n nl els rs rs') : FrzL i n nl els (x :: rs) (y :: rs') := by
  refine ⟨by simp [h.l], fun j z e => ?_⟩
  cases j with
  | zero => simp at e; subst e; exact ⟨_, rfl, hx⟩
  | succ j => exact h.o j z (by simpa using e)
theorem FrzL.same {x : AV} {rs rs' : List AV} (h : FrzL i n nl els rs rs') : FrzL i n nl els (x :: rs) (x :: rs') := .cons .same h
theorem FrzL.gr {rs rs' : List AV} (h : FrzL i n nl els rs rs') : FrzL i n nl els (.gr i n :: rs) (.sl nl els :: rs') := .cons .gr h
theorem FrzL.agg {cs cs' rs rs' : List AV} (hone : ∀ x ∈ cs', x.one = true) (hc : FrzC i n nl els cs cs') (h : FrzL i n nl els rs rs') : FrzL i n nl els (.agg cs :: rs) (.agg cs' :: rs') := .cons (.agg hc.l hone hc.o) h
theorem FrzV.rep (s : SR P E h β H w) {t : TypeId} (hi : H[i]? = some (.grow t nl els)) (hn : els.length = n) (X : Ext h β H h' β H') (hfz : ∀ b o, blkOf β H i = some b → w.heap[b]? = some o → h' b = some o) {x y : AV} (hv : FrzV i n nl els x y) {v : Value} (hr : Rep P h β H x v) : Rep P h' β H' y v := by
  cases hv with
  | same => exact X.rep hr
  | gr => exact gr_frz s hi hn hr X hfz
  | agg hl hone ho =>
    cases hr with
    | agg us h1 h2 h3 h4 =>
      refine .agg us (by rw [h1, hl]) hone (fun j x e => ?_) (fun j x e => ?_)
      · obtain ⟨z, e1, _⟩ := ho j x e; exact h3 j z e1
      · obtain ⟨z, e1, e2⟩ := ho j x e
        rcases e2 with rfl | ⟨rfl, rfl⟩
        · exact X.rep (h4 j _ e1)
        · exact gr_frz s hi hn (h4 j _ e1) X hfz
end
theorem XCall.frz {f : FuncId} {rs rs' : List AV} {k : AV → List Blk → Prop} (i n : Nat) {t : TypeId} {nl : Bool} {els : List AV} (hi : lget H i = some (.grow t nl els)) (hn : els.length = n) (hv : FrzL i n nl els rs rs')
    (H' : List Blk) (hH : ∀ E h β w, SR P E h β H w → ∀ h', SR P E h' β (H.set i .dead) w → Ext h β H h' β (H.set i .dead) → (∀ b o, blkOf β H i = some b → w.heap[b]? = some o → h' b = some o) → SR P E h' β H' w ∧ Ext h β H h' β H') (x : XCall P f rs' H' k) : XCall P f rs H k := by
  rw [lget_eq] at hi
  refine ⟨x.o.1, fun E h β w vs s hr => ?_⟩
  obtain ⟨h', s1, X, hfz⟩ := s.freeze hi
  obtain ⟨s2, X2⟩ := hH E h β w s h' s1 X hfz
  have hr' : RepL P h' β H' rs' vs := ⟨by rw [hv.l]; exact hr.1, fun j y e => by
    obtain ⟨z, e1, e2⟩ := hv.o j y e
    obtain ⟨v, e3, e4⟩ := hr.2 j z e1
    exact ⟨v, e3, e2.rep s hi hn X2 hfz e4⟩⟩
  refine (x.o.2 E h' β w vs s2 hr').mono ?_
  rintro e w' ⟨r, H'', h'', β'', v, e1, e2, e3, e4⟩
  exact ⟨r, H'', h'', β'', v, e1, e2, X2.trans e3, e4⟩
theorem XCall.freeze {f : FuncId} {rs rs' : List AV} {k : AV → List Blk → Prop} (i n : Nat) {t : TypeId} {nl : Bool} {els : List AV} (hi : lget H i = some (.grow t nl els)) (hn : els.length = n) (hv : FrzL i n nl els rs rs')
    (x : XCall P f rs' (H.set i .dead) k) : XCall P f rs H k :=
  .frz i n hi hn hv _ (fun _ _ _ _ _ _ s X _ => ⟨s, X⟩) x
theorem XCall.freezeCell {f : FuncId} {rs rs' : List AV} {k : AV → List Blk → Prop} (j o i n : Nat) {cs : List AV} {t : TypeId} {nl : Bool} {els : List AV} (hj : lget H j = some (.cells cs)) (hc : lget cs o = some (.gr i n)) (hi : lget H i = some (.grow t nl els)) (hn : els.length = n)
    (hv : FrzL i n nl els rs rs') (x : XCall P f rs' ((H.set i .dead).set j (.cells (cs.set o (.sl nl els)))) k) : XCall P f rs H k := by
  refine .frz i n hi hn hv _ (fun E h β w s h' s1 X1 hfz => ?_) x
  rw [lget_eq] at hi hj hc
  have hlo := (List.getElem?_eq_some_iff.1 hc).1
  have hij : i ≠ j := by rintro rfl; rw [hi] at hj; cases hj
  have hj1 : (H.set i .dead)[j]? = some (.cells cs) := by rw [List.getElem?_set_ne hij]; exact hj
  obtain ⟨s2, X2⟩ := s1.modify (β' := β) (w' := w) (x' := .cells (cs.set o (.sl nl els))) hj1 (fun _ _ => rfl) (.inr ⟨_, rfl, rfl⟩) s1.env (fun _ _ _ => rfl) (fun b e => .inl (by unfold blkOf; rw [hj1]; exact e)) (fun X => by
    obtain ⟨b, c, t, h1, h2, h3, h4, us, h5, h6⟩ := s.blk j _ hj
    refine ⟨b, c, t, h1, h2, by rw [List.length_set]; exact h3, fun y hy => ?_, us, fun i y e => ?_, fun i y e => ?_⟩
    · rcases List.mem_or_eq_of_mem_set hy with hy | rfl
      · exact h4 y hy
      · rfl
    · by_cases hio : o = i
      · subst hio; exact h5 o _ hc
      · rw [List.getElem?_set_ne hio] at e; exact h5 i y e
    · by_cases hio : o = i
      · subst hio
        rw [List.getElem?_set_self hlo] at e; cases e
        exact gr_frz s hi hn (h6 o _ hc) (X1.trans X) hfz
      · rw [List.getElem?_set_ne hio] at e; exact (X1.trans X).rep (h6 i y e))
  exact ⟨s2, X1.trans X2⟩
end
end GA
end

section
namespace GA
open Go Go.RowKit
set_option linter.unusedVariables false
section
variable {F : Fence} {n : Nat} {P : Program} {Q : Exit → Act → World → Prop} {a : Act} {w : World}
theorem stepR_scope {b : Frame} {k : List Item} {cs : List Frame} {c : Code} : step P (lone (b.atR a (.code (.scope c) :: k)) cs w) = .next (lone (b.atR a (.code c :: .inScope c :: k)) cs w) :=
  step_lone_go (by simp [stepG, stepG.exec, Frame.atR])
theorem stepR_inScope {b : Frame} {k : List Item} {cs : List Frame} {c : Code} : step P (lone (b.atR a (.inScope c :: k)) cs w) = .next (lone (b.atR a k) cs w) :=
  step_lone_go (by simp [stepG, stepG.exec, Frame.atR])
theorem wpIn_scope {c : Code} (h : c.wpIn F n P (Exit.noGoto Q) a w) : (Code.scope c).wpIn F n P Q a w := by
  intro b k cs hro hb hr
  have h0 : (lone (b.atR a (.code (.scope c) :: k)) cs w).fenced P F := fenced_calm hb hr rfl
  obtain ⟨e, a₁, w₁, hq, harr⟩ := h b (.inScope c :: k) cs hro hb hr
  cases e with
  | normal => exact ⟨.normal, a₁, w₁, hq, .head h0 stepR_scope (StepsIn.trans harr (.one (fenced_calm hb hr rfl) stepR_inScope))⟩
  | exit id =>
    have hx : exitTo id (.inScope c :: k) = exitTo id k := by simp [exitTo]
    exact ⟨.exit id, a₁, w₁, hq, fun k' hk => .head h0 stepR_scope (harr.1 k' (by rw [hx]; exact hk)),
      fun hr' hk => let ⟨k₁, h1, h2⟩ := harr.2 hr' (by rw [hx]; exact hk); ⟨k₁, h1, .head h0 stepR_scope h2⟩⟩
  | goto l => exact hq.elim
  | ret => exact ⟨_, a₁, w₁, hq, .of_steps (.one h0 stepR_scope) harr⟩
  | panic ch => exact ⟨_, a₁, w₁, hq, .of_steps (.one h0 stepR_scope) harr⟩
  | outgrown => exact ⟨_, a₁, w₁, hq, .of_steps (.one h0 stepR_scope) harr⟩
end
section
variable {P : Program} {T : Tab} {N : Nat} {ρ : Option Nat} {D : List Nat} {σ : St} {H : List Blk} {Q : Post} {own : List Nat}
def scopeX (Q : Post) : Post
  | .goto _, _, _, _ => False
  | e, D, σ, H => Q e D σ H
theorem Walk.scope {c : Code} (ok : TabOk P T) (own : List Nat) (x : XRun P T N ρ own c (scopeX Q) D σ H) : Walk P N ρ (.scope c) Q D σ H := by
  constructor
  intro E h β a w s
  refine wpIn_scope (wpIn_mono (XRun.sound ok x E h β a w s) ?_)
  rintro e a' w' ⟨D', σ', H', h', β', q, X, s'⟩
  cases e with
  | goto l => exact q.elim
  | _ => exact ⟨D', σ', H', h', β', q, X, s'⟩
theorem Walk.label {l : Nat} (x : Q .normal D σ H) : Walk P N ρ (.label l) Q D σ H :=
  ⟨fun E h β a w s => wpIn_label ⟨D, σ, H, h, β, x, Ext.refl _ _ _, s⟩⟩
end
end GA
end

section
namespace GA
open Go Go.RowKit
set_option linter.unusedVariables false

section
variable {P : Program} {T : Tab} {N : Nat} {ρ : Option Nat} {D : List Nat} {σ : St} {H : List Blk} {Q : Post}

def XKeep (P : Program) (n : Nat) (H : List Blk) (r r' : AV) : Prop := FrozN P n H r r' ∨ (r' = r ∧ r.low n = true)
theorem XKeep.same {n : Nat} {r : AV} (h : r.low n = true) : XKeep P n H r r := .inr ⟨rfl, h⟩
theorem XKeep.gr {n i m : Nat} {t : TypeId} {nl : Bool} {els : List AV} (hi : n ≤ i) (hb : lget H i = some (.grow t nl els)) (hn : els.length = m) (hl : lowL 0 els = true) : XKeep P n H (.gr i m) (.sl nl els) := .inl (.grow hi hb hn hl)
def SubF (P : Program) (n : Nat) (H : List Blk) : List (Nat × AV) → St → Prop
  | [], _ => True
  | (t, r') :: l, σ => (∃ r, σ t = some r ∧ XKeep P n H r r') ∧ SubF P n H l σ
theorem stX_subF {n : Nat} : ∀ {l : List (Nat × AV)} {σ : St}, SubF P n H l σ → ∀ t r, stX l t = some r → ∃ r0, σ t = some r0 ∧ XKeep P n H r0 r
  | [], _, _, _, _, e => by cases e
  | (u, x) :: l, σ, h, t, r, e => by
    simp only [stX, updX_eq, upd] at e
    split at e
    · rename_i h1; subst h1; cases e; exact h.1
    · exact stX_subF h.2 t r e

structure XAgainF {G : Type} (P : Program) (I : G → Prop) (L : G → List (Nat × AV)) (hp : G → List Blk) (μ : G → Nat) (g : G) (D' : List Nat) (σ' : St) (H' : List Blk) : Prop where
  d : D' = []
  o : ∃ g' l, I g' ∧ μ g' < μ g ∧ hp g' ++ l = H' ∧ SubF P (hp g').length H' (L g') σ'
theorem XAgainF.go {G : Type} {I : G → Prop} {L : G → List (Nat × AV)} {hp : G → List Blk} {μ : G → Nat} {g : G} (g' : G) (l : List Blk) (h1 : I g') (h2 : μ g' < μ g) (h3 : hp g' ++ l = H) (h4 : SubF P (hp g').length H (L g') σ) : XAgainF P I L hp μ g [] σ H := ⟨rfl, g', l, h1, h2, h3, h4⟩
theorem Walk.keep {c : Code} (ok : TabOk P T) (own : List Nat) (H1 l : List Blk) (L : List (Nat × AV)) (hH : H1 ++ l = H) (hlow : ∀ x ∈ H1, x.low H1.length = true) (hs : SubF P H1.length H L σ) (hD : D = []) (x : XRun P T N ρ own c Q D (stX L) (H1 ++ l.map fun _ => .dead)) : Walk P N ρ c Q D σ H := by
  subst hH; subst hD
  constructor
  intro E h β a w s
  have hd : ∀ (l : List Blk) (i : Nat) x, (l.map fun _ => Blk.dead)[i]? = some x → x = .dead := fun l i x e => by
    rw [List.getElem?_map] at e
    cases hx : l[i]? with
    | none => rw [hx] at e; cases e
    | some y => rw [hx] at e; cases e; rfl
  have hlen : (l.map fun _ => Blk.dead).length = l.length := List.length_map _
  have X : Ext h β (H1 ++ l) (hallN H1.length h β (H1 ++ l) w) β (H1 ++ l.map fun _ => .dead) := by
    refine ⟨fun b o e => hallN_imm s.sr e, by simp, fun i x x' e e' => ?_⟩
    by_cases hi : i < H1.length
    · rw [List.getElem?_append_left hi] at e e'
      rw [e] at e'; cases e'; exact Blk.to_refl _ _ _
    · rw [List.getElem?_append_right (by omega)] at e'
      have := hd _ _ _ e'
      subst this
      cases x <;> first | rfl | trivial | exact .inl rfl
  have s1 := s.sr.allN hlow
  have X1 : Ext (hallN H1.length h β (H1 ++ l) w) β H1 (hallN H1.length h β (H1 ++ l) w) β (H1 ++ l.map fun _ => .dead) :=
    ⟨fun _ _ e => e, by simp, fun i x x' e e' => by rw [List.getElem?_append_left (List.getElem?_eq_some_iff.1 e).1, e] at e'; cases e'; exact Blk.to_refl _ _ _⟩
  have hbo : ∀ i b, blkOf β (H1 ++ l.map fun _ => .dead) i = some b → blkOf β H1 i = some b := fun i b e => by
    have hlt := (blkOf_some e).1
    by_cases hi : i < H1.length
    · rw [← e]; exact (blkOf_congr rfl (List.getElem?_append_left hi)).symm
    · exfalso
      unfold blkOf at e
      cases hx : (H1 ++ l.map fun _ => Blk.dead)[i]? with
      | none => rw [hx] at e; cases e
      | some x =>
        rw [hx] at e
        rw [List.getElem?_append_right (by omega)] at hx
        have := hd _ _ _ hx
        subst this; cases e
  have s2 : SR P E (hallN H1.length h β (H1 ++ l) w) β (H1 ++ l.map fun _ => .dead) w := by
    refine s1.grown X1 s1.env s1.imm (fun i x e => ?_) (fun i j b e1 e2 => s1.own i j b (hbo _ _ e1) (hbo _ _ e2)) (fun i b e => s1.fresh i b (hbo _ _ e)) s1.frm (fun i b e => s1.fro i b (hbo _ _ e))
    by_cases hi : i < H1.length
    · rw [List.getElem?_append_left hi] at e; exact .inl ⟨e, rfl, fun _ _ => rfl⟩
    · rw [List.getElem?_append_right (by omega)] at e
      have := hd _ _ _ e
      subst this; exact .inr trivial
  refine wpIn_mono (XRun.sound ok x E _ β a w ⟨s2, fun t r e => ?_, s.size, s.df.ext X⟩) fun _ _ _ => Conc.ext X
  obtain ⟨r0, e1, e2⟩ := stX_subF hs t r e
  obtain ⟨v, h1, h2⟩ := s.fits t r0 e1
  rcases e2 with e2 | ⟨rfl, e2⟩
  · exact ⟨v, h1, e2 E h β w s.sr v h2 _⟩
  · refine ⟨v, h1, X1.rep (Rep.cut (l := l) ?_ e2)⟩
    have XA : Ext h β (H1 ++ l) (hallN H1.length h β (H1 ++ l) w) β (H1 ++ l) := ⟨fun b o e => hallN_imm s.sr e, Nat.le_refl _, fun i x x' e e' => by rw [e] at e'; cases e'; exact Blk.to_refl _ _ _⟩
    exact XA.rep h2
end
end GA
end

section
namespace GA
open Go Go.RowKit Go.Proofs
section
variable {P : Program} {E : Env} {h : Nat → Option Obj} {β : Nat → Value} {H : List Blk} {w w' : World} {ρ : Go.Shelf.Ren}

theorem setCells_env (b : Nat) : ∀ (vs : List Value) (o : Nat) (w : World), World.env (w.setCells b o vs) = World.env w
  | [], _, _ => rfl
  | v :: r, o, w => by rw [World.setCells, setCells_env b r]; rfl
theorem setCells_other (b : Nat) : ∀ (vs : List Value) (o : Nat) (w : World) (k : Nat), k ≠ b → (w.setCells b o vs).heap[k]? = w.heap[k]?
  | [], _, _, _, _ => rfl
  | v :: r, o, w, k, hk => by
    rw [World.setCells, setCells_other b r _ _ k hk]
    simp only [World.setCell, Array.getElem?_modify]
    rw [if_neg (fun e => hk e.symm)]
theorem setCells_heap (b : Nat) {t : TypeId} {fz : Nat × Nat} : ∀ (vs : List Value) (o : Nat) (w : World) (c : Array Value), w.heap[b]? = some (.cells c t fz) → o + vs.length ≤ c.size →
    ∃ c', (w.setCells b o vs).heap[b]? = some (.cells c' t fz) ∧ c'.size = c.size ∧ ∀ q, c'[q]? = if o ≤ q ∧ q < o + vs.length then vs[q - o]? else c[q]?
  | [], o, w, c, hb, _ => ⟨c, hb, rfl, fun q => by rw [if_neg (fun e => by have := e.2; simp at this; omega)]⟩
  | v :: r, o, w, c, hb, hl => by
    simp only [List.length_cons] at hl
    have h1 : (w.setCell ⟨b, o, none⟩ v).heap[b]? = some (.cells (c.setIfInBounds o v) t fz) := by
      simp only [World.setCell, Array.getElem?_modify]
      simp [hb]
    obtain ⟨c', a1, a2, a3⟩ := setCells_heap b r (o + 1) _ _ h1 (by simp; omega)
    refine ⟨c', a1, by simpa using a2, fun q => ?_⟩
    rw [a3]
    by_cases h0 : q = o
    · subst h0
      rw [if_neg (by omega), if_pos (by simp), Nat.sub_self, Array.getElem?_setIfInBounds, if_pos rfl, if_pos (by omega)]
      rfl
    · by_cases h2 : o + 1 ≤ q ∧ q < o + 1 + r.length
      · rw [if_pos h2, if_pos (by simp only [List.length_cons]; omega)]
        obtain ⟨d, rfl⟩ : ∃ d, q = o + 1 + d := ⟨q - (o + 1), by omega⟩
        rw [show o + 1 + d - (o + 1) = d by omega, show o + 1 + d - o = d + 1 by omega, List.getElem?_cons_succ]
      · rw [if_neg h2, if_neg (by simp only [List.length_cons]; omega), Array.getElem?_setIfInBounds, if_neg (fun e => h0 e.symm)]

def putAt (ys : List Int) (p : Nat) (x : Int) : List Int := ys.take p ++ x :: ys.drop p
theorem putAt_length {ys : List Int} {p : Nat} {x : Int} (hp : p ≤ ys.length) : (putAt ys p x).length = ys.length + 1 := by
  simp only [putAt, List.length_append, List.length_take, List.length_cons, List.length_drop]; omega
theorem putAt_get {ys : List Int} {p : Nat} {x : Int} (hp : p ≤ ys.length) (j : Nat) : (putAt ys p x)[j]? = if j < p then ys[j]? else if j = p then some x else ys[j - 1]? := by
  unfold putAt
  by_cases h1 : j < p
  · rw [if_pos h1, List.getElem?_append_left (by simp; omega), List.getElem?_take, if_pos h1]
  · rw [if_neg h1, List.getElem?_append_right (by simp; omega), List.length_take, Nat.min_eq_left hp]
    by_cases h2 : j = p
    · subst h2; simp
    · rw [if_neg h2]
      obtain ⟨d, rfl⟩ : ∃ d, j = p + 1 + d := ⟨j - (p + 1), by omega⟩
      rw [show p + 1 + d - p = d + 1 by omega, List.getElem?_cons_succ, List.getElem?_drop]
      congr 1; omega
def vint (z : Int) : Value := .int .i64 z
theorem flatI (ys : List Int) : flat (ys.map (AV.int .i64)) = ys.map (AV.int .i64) := by
  induction ys with
  | nil => rfl
  | cons y r ih => simp only [flat, List.map_cons, List.flatMap_cons] at ih ⊢; rw [ih]; rfl
theorem cells_ints {c : Array Value} {ys : List Int} (k : CellsOk P h β H (ys.map (AV.int .i64)) c) (j : Nat) (z : Int) (e : ys[j]? = some z) : c[j]? = some (.int .i64 z) := by
  obtain ⟨us, h1, h2⟩ := k
  have e' : (ys.map (AV.int .i64))[j]? = some (.int .i64 z) := by rw [List.getElem?_map, e]; rfl
  rw [h1 j _ e', rep_int (h2 j _ e')]
theorem ints_cells {c : Array Value} {ys : List Int} (hc : ∀ (j : Nat) z, ys[j]? = some z → c[j]? = some (.int .i64 z)) : CellsOk P h β H (ys.map (AV.int .i64)) c := by
  refine ⟨fun j => .int .i64 (ys.getD j 0), fun j x e => ?_, fun j x e => ?_⟩
  · rw [List.getElem?_map, Option.map_eq_some_iff] at e
    obtain ⟨z, e1, rfl⟩ := e
    rw [hc j z e1]; simp [List.getD, e1]
  · rw [List.getElem?_map, Option.map_eq_some_iff] at e
    obtain ⟨z, e1, rfl⟩ := e
    have e2 : ys.getD j 0 = z := by simp [List.getD, e1]
    simp only [e2]
    exact .int _ _

theorem insert_sr (s : SR P E h β H w) {i p cap b : Nat} {t : TypeId} {nl : Bool} {ys : List Int} {x : Int} (hi : H[i]? = some (.grow t nl (ys.map (AV.int .i64)))) (hp : p ≤ ys.length) (hsz : sz P t = 1)
    (hcap : ys.length + 1 ≤ cap) (hmax : cap ≤ maxLen) (he : World.env w' = World.env w) (hk : ∀ k, k < w.heap.size → blkOf β H i ≠ some k → w'.heap[k]? = w.heap[k]?)
    (hbo : blkOf β H i = some b ∨ w.heap.size ≤ b) {c' : Array Value} (hb : w'.heap[b]? = some (.cells c' t (0, 0))) (hcs : c'.size = cap) (hc : ∀ (j : Nat) z, (putAt ys p x)[j]? = some z → c'[j]? = some (.int .i64 z))
    {k : AV → List Blk → Prop} (hq : k (.gr i (ys.length + 1)) (H.set i (.grow t false ((putAt ys p x).map (AV.int .i64))))) :
    Ends P E h β H k (.returned (.slice (some ⟨b, 0, none⟩) (ys.length + 1) cap)) w' := by
  have hlt := (List.getElem?_eq_some_iff.1 hi).1
  have hpl := putAt_length (x := x) hp
  obtain ⟨s', X⟩ := s.modify (β' := upb β i (.slice (some ⟨b, 0, none⟩) (ys.length + 1) cap)) (w' := w') (x' := .grow t false ((putAt ys p x).map (AV.int .i64))) hi
    (fun j hj => by simp [upb, hj]) (.inr ⟨_, _, rfl, by simp [hpl], fun e => by simp [hpl] at e⟩) (he.trans s.env) hk
    (fun b0 hb => by simp [upb, anchor] at hb; rw [← hb.2]; exact hbo)
    (fun X => .inr (.inr ⟨rfl, b, cap, c', by simp [upb, hpl], by omega, hb, by simpa [hpl] using hcap, hmax, by rw [hsz, hcs, Nat.mul_one], by omega,
      fun e he => by rw [hsz]; obtain ⟨z, _, rfl⟩ := List.mem_map.1 he; rfl, fun e he => by rw [flatI] at he; obtain ⟨z, _, rfl⟩ := List.mem_map.1 he; rfl, by rw [flatI]; exact ints_cells hc⟩))
  refine ⟨_, _, _, _, _, rfl, hq, X, s', .gr rfl (.set hlt rfl) fun t' nl' els' e => ?_⟩
  simp [hlt] at e; obtain ⟨_, _, rfl⟩ := e; exact ⟨by simp [hpl], fun _ => by simp [upb]⟩

theorem ACall.insert (L : Lays2.n21 P ρ) {i j p : Nat} {nl : Bool} {ys : List Int} {x : Int} (hi : H[i]? = some (.grow (ρ.t 3) nl (ys.map (AV.int .i64)))) (hj : H[j]? = some (.grow (ρ.t 3) false [.int .i64 x])) (hij : i ≠ j)
    (hp : p ≤ ys.length) (hn : ys.length ≤ 1000000) {k : AV → List Blk → Prop} (hk : k (.gr i (ys.length + 1)) (H.set i (.grow (ρ.t 3) false ((putAt ys p x).map (AV.int .i64))))) :
    ACall P (ρ.f 21) [.gr i ys.length, .int .i64 p, .gr j 1] H k := by
  refine ⟨⟨_, L.f21, by kernel_rfl, by kernel_rfl⟩, fun E h β w vs s hr => ?_⟩
  obtain ⟨i0, hi0, hz0, hzs, hzb⟩ := info_parts L.i3
  have hsz : sz P (ρ.t 3) = 1 := by simp [sz, hi0, hzs]
  obtain ⟨hl, hr⟩ := hr
  match vs, hl, hr with
  | [v0, v1, v2], _, hr =>
  obtain ⟨_, e0, r0⟩ := hr 0 _ rfl
  obtain ⟨_, e1, r1⟩ := hr 1 _ rfl
  obtain ⟨_, e2, r2⟩ := hr 2 _ rfl
  cases e0; cases e1; cases e2
  have hv0 : v0 = β i := by cases r0 with | gr ho hii hv => exact (hv _ _ _ hi).2 (by simp)
  have hv2 : v2 = β j := by cases r2 with | gr ho hii hv => exact (hv _ _ _ hj).2 rfl
  have hv1 := rep_int r1
  subst hv0 hv1 hv2
  refine callsIn_wide.2 ?_
  rcases s.blk j _ hj with ⟨_, h7, _⟩ | ⟨_, h7, _⟩ | ⟨_, vb, vc, cv, j8, j9, j10, j11, j12, j13, j14, j15, j16, j17⟩
  · cases h7
  · cases h7
  have hvx : cv[0]? = some (.int .i64 x) := cells_ints (ys := [x]) (by simpa [flat, AV.cells] using j17) 0 x rfl
  have hjo : blkOf β H j = some vb := by simp [blkOf, hj, j8, anchor]; omega
  have hvs : ∀ (q : Nat) v, [vint x][q]? = some v → w.cell? ⟨vb, 0 + q, none⟩ = some v := fun q v e => by
    have hq : q = 0 := by have := (List.getElem?_eq_some_iff.1 e).1; simp at this; exact this
    subst hq; cases e
    rw [cell?_of j10]; exact hvx
  have hcsl : (ys.map vint).length = ys.length := by simp
  have h1c : ∀ v ∈ ys.map vint, v.oneCell' = true := fun v hv => by obtain ⟨z, _, rfl⟩ := List.mem_map.1 hv; rfl
  have h1v : ∀ v ∈ [vint x], v.oneCell' = true := fun v hv => by rw [List.mem_singleton.1 hv]; rfl
  have hzc : ∀ q, (Builtin.zeroCells (Value.int IntKind.i64 0).cells q).size = q := fun q => by rw [size_zeroCells]; exact Nat.mul_one q
  have hge := fun cap => grownCap_ge w (ys.length + 1) cap (ρ.t 3)
  have hle := fun cap => grownCap_le_maxLen w (ys.length + 1) cap (ρ.t 3) (by simp only [maxLen]; omega)
  -- the new row at the end
  have fresh_end : ∀ (base : Option Addr) (c : Nat), β i = .slice base ys.length c → ys.length ≤ c → c < ys.length + 1 → p = ys.length → (base = none → ys.length = 0) →
      (∀ a, base = some a → ∀ (q : Nat) v, (ys.map vint)[q]? = some v → w.cell? (a.add q) = some v) →
      Calls P (ρ.f 21) [β i, .int .i64 p, β j].toArray w (Ends P E h β H k) := by
    intro base c hb hnc hroom hpn hnil hcs
    rw [hb, j8, hpn]
    refine (Any2.slices_Insert_int_end_grow L base ys.length c vb 0 1 vc (ys.map vint) [vint x] w (by omega) hnc hroom (by omega) hcsl rfl hnil hcs hvs h1v).mono ?_
    rintro e w' ⟨rfl, rfl⟩
    refine insert_sr (w' := w.drew.alloc _) s hi (by omega : p ≤ ys.length) hsz (hge c) (hle c) rfl (fun k hk _ => Below.heap_alloc w.drew _ _ hk) (.inr (Nat.le_refl _)) (heap_alloc_new w.drew _) ?_ ?_ hk
    · simp only [Array.size_append, List.size_toArray, List.length_append, List.length_map, List.length_singleton, hzc]; have := hge c; omega
    · intro q z e
      rw [putAt_get hp] at e
      have hlq : q < ys.length + 1 := by
        split at e
        · omega
        · split at e
          · omega
          · have := (List.getElem?_eq_some_iff.1 e).1; omega
      rw [Array.getElem?_append_left (by simpa using hlq), List.getElem?_toArray]
      by_cases h1 : q < p
      · rw [if_pos h1] at e
        rw [List.getElem?_append_left (by simp; omega), List.getElem?_map, e]; rfl
      · rw [if_neg h1] at e
        have h2 : q = p := by omega
        rw [if_pos h2] at e; cases e
        rw [List.getElem?_append_right (by simp; omega), h2, hpn]; simp [vint]
  rcases s.blk i _ hi with ⟨h6, h7, h8⟩ | ⟨h6, h7, a0, h8⟩ | ⟨h6, b, cap, c, h8, h9, h10, h11, h12, h13, h14, h15, h16, h17⟩
  · have h7' : ys = [] := by simpa using h7
    subst h7'
    exact fresh_end none 0 h8 (by simp) (by simp) (by simpa using hp) (fun _ => rfl) (fun a e => by cases e)
  · have h7' : ys = [] := by simpa using h7
    subst h7'
    exact fresh_end (some a0) 0 h8 (by simp) (by simp) (by simpa using hp) (fun e => by cases e) (fun a e q v e' => by simp at e')
  · rw [flatI] at h17
    rw [hsz, Nat.mul_one] at h13
    simp only [List.length_map] at h8 h11
    have hcell := cells_ints h17
    have hcs : ∀ (q : Nat) v, (ys.map vint)[q]? = some v → w.cell? ⟨b, 0 + q, none⟩ = some v := fun q v e => by
      rw [List.getElem?_map, Option.map_eq_some_iff] at e
      obtain ⟨z, e1, rfl⟩ := e
      rw [cell?_of h10, Nat.zero_add]; exact hcell q z e1
    have hbo : blkOf β H i = some b := by simp [blkOf, hi, h8, anchor]; omega
    have hvb : vb ≠ b := fun e => hij (s.own i j b hbo (by rw [hjo, e]))
    by_cases hroom : ys.length + 1 ≤ cap
    · have hsp : ∀ q, q < ys.length + 1 → (w.cell? ⟨b, 0 + q, none⟩).isSome = true := fun q hq => by
        rw [cell?_of h10, Nat.zero_add, Array.getElem?_eq_getElem (by omega)]; rfl
      have hfz : ∀ (q : Nat), w.frozen? ⟨b, q, none⟩ = false := fun q => by simp [World.frozen?, h10]
      by_cases hpn : p = ys.length
      · rw [h8, j8, hpn]
        refine (Any2.slices_Insert_int_end_room L b 0 ys.length cap vb 0 1 vc [vint x] w (by omega) hroom (by simp only [maxLen] at h12; omega) rfl
          (fun q hq => by rw [Nat.zero_add, cell?_of h10, Array.getElem?_eq_getElem (by omega)]; rfl) (fun q hq => hfz _) hvs h1v).mono ?_
        rintro e w' ⟨rfl, rfl⟩
        obtain ⟨c', g1, g2, g3⟩ := setCells_heap b [vint x] (0 + ys.length) w c h10 (by simp; omega)
        refine insert_sr s hi hp hsz hroom h12 (setCells_env _ _ _ _) (fun k _ hne => setCells_other _ _ _ _ _ (fun e => hne (by rw [hbo, e]))) (.inl hbo) g1 (by omega) ?_ hk
        intro q z e
        rw [putAt_get hp] at e
        rw [g3]
        by_cases h1 : q < p
        · rw [if_pos h1] at e
          rw [if_neg (by omega)]; exact hcell q z e
        · rw [if_neg h1] at e
          by_cases h2 : q = p
          · rw [if_pos h2] at e; cases e
            rw [if_pos (by simp; omega)]; rw [h2, hpn]; simp [vint]
          · rw [if_neg h2] at e; have := (List.getElem?_eq_some_iff.1 e).1; omega
      · rw [h8, j8]
        refine (Any2.slices_Insert_int_shift L b 0 ys.length cap p vb 0 1 vc (ys.map vint) [vint x] w (by omega) (by omega) hroom (by simp only [maxLen] at h12; omega) hvb hcsl rfl hcs hsp (fun q _ => hfz _) hvs h1c h1v
          (ρ.t 3) (ρ.t 3) cv.size c.size (by simp [World.shape?, j10]) (by simp [World.shape?, h10]) (by omega) (by simp [World.frozen?, j10]) (by simp [World.frozen?, j10])).mono ?_
        rintro e w' ⟨rfl, rfl⟩
        obtain ⟨c1, f1, f2, f3⟩ := setCells_heap b ((ys.map vint).drop p) (0 + (p + 1)) w.drew c h10 (by simp; omega)
        obtain ⟨c', g1, g2, g3⟩ := setCells_heap b [vint x] (0 + p) _ c1 f1 (by simp; omega)
        refine insert_sr (w' := (w.drew.setCells b (0 + (p + 1)) ((ys.map vint).drop p)).setCells b (0 + p) [vint x]) s hi hp hsz hroom h12 ((setCells_env _ _ _ _).trans ((setCells_env _ _ _ _).trans rfl)) (fun k _ hne => (setCells_other _ _ _ _ _ (fun e => hne (by rw [hbo, e]))).trans (setCells_other _ _ _ _ _ (fun e => hne (by rw [hbo, e])))) (.inl hbo) g1 (by omega) ?_ hk
        intro q z e
        rw [putAt_get hp] at e
        rw [g3]
        by_cases h1 : q < p
        · rw [if_pos h1] at e
          rw [if_neg (by omega), f3, if_neg (by omega)]; exact hcell q z e
        · rw [if_neg h1] at e
          by_cases h2 : q = p
          · rw [if_pos h2] at e; cases e
            rw [if_pos (by simp; omega)]; rw [h2]; simp [vint]
          · rw [if_neg h2] at e
            have h3 := (List.getElem?_eq_some_iff.1 e).1
            rw [if_neg (by simp; omega), f3, if_pos (by simp; omega), List.getElem?_drop, List.getElem?_map, show p + (q - (0 + (p + 1))) = q - 1 by omega, e]; rfl
    · by_cases hpn : p = ys.length
      · exact fresh_end (some ⟨b, 0, none⟩) cap h8 h11 (by omega) hpn (fun e => by cases e) (fun a e q v e' => by cases e; have := hcs q v e'; rw [addr_add]; exact this)
      · rw [h8, j8]
        refine (Any2.slices_Insert_int_grow L b 0 ys.length cap p vb 0 1 vc (ys.map vint) [vint x] w (by omega) (by omega) h11 (by omega) (by omega) hcsl rfl hcs hvs h1c h1v).mono ?_
        rintro e w' ⟨rfl, rfl⟩
        obtain ⟨R, hR⟩ : ∃ R : Array Value, R = (((ys.map vint).take p).toArray ++ Builtin.zeroCells (Value.int .i64 0).cells (ys.length + 1 - p) ++ Builtin.zeroCells (Value.int .i64 0).cells (grownCap w (ys.length + 1) cap (ρ.t 3) - (ys.length + 1))) := ⟨_, rfl⟩
        have hRs : R.size = grownCap w (ys.length + 1) cap (ρ.t 3) := by
          rw [hR]; simp only [Array.size_append, List.size_toArray, List.length_take, List.length_map, hzc]; have := hge cap; omega
        rw [← hR]
        have hgc := hge cap
        have f0 : (w.alloc (.cells R (ρ.t 3))).drew.heap[w.heap.size]? = some (.cells R (ρ.t 3) (0, 0)) := heap_alloc_new w _
        obtain ⟨c1, f1, f2, f3⟩ := setCells_heap w.heap.size [vint x] p _ R f0 (by simp; omega)
        have f1' : ((w.alloc (.cells R (ρ.t 3))).drew.setCells w.heap.size p [vint x]).drew.heap[w.heap.size]? = some (.cells c1 (ρ.t 3) (0, 0)) := f1
        obtain ⟨c', g1, g2, g3⟩ := setCells_heap w.heap.size ((ys.map vint).drop p) (p + 1) _ c1 f1' (by simp; omega)
        refine insert_sr (w' := ((w.alloc (.cells R (ρ.t 3))).drew.setCells w.heap.size p [vint x]).drew.setCells w.heap.size (p + 1) ((ys.map vint).drop p)) s hi hp hsz (hge cap) (hle cap) ((setCells_env _ _ _ _).trans ((setCells_env _ _ _ _).trans rfl)) (fun k hk _ => (setCells_other _ _ _ _ _ (by omega)).trans ((setCells_other _ _ _ _ _ (by omega)).trans (Below.heap_alloc w _ _ hk))) (.inr (Nat.le_refl _)) g1 (by omega) ?_ hk
        intro q z e
        rw [putAt_get hp] at e
        rw [g3]
        by_cases h1 : q < p
        · rw [if_pos h1] at e
          rw [if_neg (by omega), f3, if_neg (by omega), hR, Array.getElem?_append_left (by simp [hzc]; omega), Array.getElem?_append_left (by simp; omega), List.getElem?_toArray, List.getElem?_take, if_pos h1, List.getElem?_map, e]; rfl
        · rw [if_neg h1] at e
          by_cases h2 : q = p
          · rw [if_pos h2] at e; cases e
            rw [if_neg (by omega), f3, if_pos (by simp; omega)]; rw [h2]; simp [vint]
          · rw [if_neg h2] at e
            have h3 := (List.getElem?_eq_some_iff.1 e).1
            rw [if_pos (by simp; omega), List.getElem?_drop, List.getElem?_map, show p + (q - (p + 1)) = q - 1 by omega, e]; rfl

structure Late (G : Prop) : Prop where
  g : G
theorem Walk.know {N : Nat} {r : Option Nat} {c : Code} {Q : Post} {D : List Nat} {σ : St} (L : List (Nat × AV)) (hs : SubX L σ) (x : Walk P N r c Q D (stX L) H) : Walk P N r c Q D σ H := ⟨AWp.weaken (stX_sub hs) x.o⟩

theorem XGetM.row {es : List (Int × AV)} {n : Int} {k : AV → Prop} (i : Nat) {te : TypeId} {nl : Bool} {els : List AV} (hi : lget H i = some (.grow te nl els)) (hnl : nl = els.isEmpty) (he : mget n es = if els.isEmpty = true then none else some (.gr i els.length)) (h : k (.gr i els.length)) : XGetM H (.sl true []) false n es k := by
  rw [lget_eq] at hi
  cases els with
  | nil => subst hnl; exact ⟨.inr ⟨rfl, rfl, he, i, te, hi, h⟩⟩
  | cons e els => exact ⟨.inl (by rw [he]; exact h)⟩
theorem Walk.nilrow {N : Nat} {r : Option Nat} {c : Code} {Q : Post} {D : List Nat} {σ : St} (te : TypeId) (x : Walk P N r c Q D σ (H ++ [.grow te true []])) : Walk P N r c Q D σ H := by
  constructor
  intro E h β a w s
  obtain ⟨s', X⟩ := s.sr.push (w' := w) s.sr.env (fun _ _ => rfl) (.slice none 0 0) (.grow te true []) (by intro b hb; simp [anchor] at hb) (fun _ => .inl ⟨rfl, rfl, by simp [upb]⟩)
  exact wpIn_mono (x.o E h _ a w ⟨s', fun u r e => let ⟨v, h1, h2⟩ := s.fits u r e; ⟨v, h1, X.rep h2⟩, s.size, s.df.ext X⟩) fun _ _ _ => Conc.ext X

structure FrzE (i n : Nat) (nl : Bool) (els : List AV) (es es' : List (Int × AV)) : Prop where
  k : es'.map (·.1) = es.map (·.1)
  o : ∀ (j : Nat) q x', es'[j]? = some (q, x') → ∃ x, es[j]? = some (q, x) ∧ (x' = x ∨ (x = .gr i n ∧ x' = .sl nl els))
theorem Walk.freezeMap {N : Nat} {r : Option Nat} {c : Code} {Q : Post} {D : List Nat} {σ : St} (j i n : Nat) {es : List (Int × AV)} (es' : List (Int × AV)) {t : TypeId} {nl : Bool} {els : List AV} (hj : lget H j = some (.map es)) (hi : lget H i = some (.grow t nl els)) (hn : els.length = n)
    (hf : FrzE i n nl els es es') (x : Walk P N r c Q D σ ((H.set i .dead).set j (.map es'))) : Walk P N r c Q D σ H := by
  constructor
  intro E h β a w s
  rw [lget_eq] at hi hj
  have hij : i ≠ j := by rintro rfl; rw [hi] at hj; cases hj
  obtain ⟨h', s1, X1, hfz⟩ := s.sr.freeze hi
  have hj1 : (H.set i .dead)[j]? = some (.map es) := by rw [List.getElem?_set_ne hij]; exact hj
  obtain ⟨s2, X2⟩ := s1.modify (β' := β) (w' := w) (x' := .map es') hj1 (fun _ _ => rfl) (.inr ⟨_, rfl, rfl⟩) s1.env (fun _ _ _ => rfl) (fun b e => .inl (by unfold blkOf; rw [hj1]; exact e)) (fun X => by
    obtain ⟨q, ents, clock, h1, h2, h3, h4, us, h5⟩ := s.sr.blk j _ hj
    have hl : es'.length = es.length := by have := congrArg List.length hf.k; simpa using this
    refine ⟨q, ents, clock, h1, h2, by rw [hf.k]; exact h3, by rw [hl]; exact h4, us, fun m key y e => ?_⟩
    obtain ⟨x0, e0, hx⟩ := hf.o m key y e
    obtain ⟨hr, born⟩ := h5 m key x0 e0
    refine ⟨?_, born⟩
    rcases hx with rfl | ⟨rfl, rfl⟩
    · exact (X1.trans X).rep hr
    · exact gr_frz s.sr hi hn hr (X1.trans X) hfz)
  exact wpIn_mono (x.o E h' _ a w ⟨s2, fun u r e => let ⟨v, h1, h2⟩ := s.fits u r e; ⟨v, h1, (X1.trans X2).rep h2⟩, s.size, s.df.ext (X1.trans X2)⟩) fun _ _ _ => Conc.ext (X1.trans X2)
end
end GA
end

section
namespace GA
open Go Go.RowKit
set_option linter.unusedVariables false

structure XNext (A : Prop) : Prop where
  o : A
def hsU (H : List Blk) : List Bool → List Blk := fun _ => H

section
variable {P : Program} {T : Tab} {N : Nat} {ρ : Option Nat} {D : List Nat} {σ : St} {H : List Blk} {Q : Post}

theorem SubX.app : ∀ {K L : List (Nat × AV)} {σ : St}, SubX K σ → SubX L σ → SubX (K ++ L) σ
  | [], _, _, _, h => h
  | (_, _) :: _, _, _, h, h2 => ⟨h.1, SubX.app h.2 h2⟩

theorem Walk.drawN {ops : List Oper} {id : Nat} (ok : TabOk P T) (hm : P.follows .mixedOrders = true) (own eff : List Nat) (HS : List Bool → List Blk) (R : List AV) (hs : Region.lexB .any ops.toArray = true) (hH : HS (eff.map fun _ => false) = H)
    (hA : ChkA P T N own ops eff HS 0 ops R σ) (hB : ChkB P T N own ops eff HS R σ (allF eff.length)) (hk : XNext (Q .normal D (xFold N ops R σ) (HS (eff.map fun j => Nat.blt j ops.length)))) : Walk P N ρ (.region id ops.toArray true) Q D σ H :=
  Walk.drawX ok hm own eff HS R hs hH hA hB hk.o

theorem Walk.loopK {c : Code} {G : Type} (ok : TabOk P T) (own : List Nat) (K : List (Nat × AV)) (hK : SubX K σ) (I : G → Prop) (L : G → List (Nat × AV)) (hp : G → List Blk) (μ : G → Nat) (g0 : G) (h0 : I g0) (hH : hp g0 = H) (hs : SubX (L g0) σ)
    (round : ∀ g, I g → XRun P T N ρ own c (thenQ (XAgain I (fun g => K ++ L g) hp μ g D) Q) D (stX (K ++ L g)) (hp g)) : Walk P N ρ (.loop c) Q D σ H :=
  Walk.loop ok own I (fun g => K ++ L g) hp μ g0 h0 hH (hK.app hs) round

theorem Walk.loopGK {c : Code} {G : Type} (ok : TabOk P T) (own : List Nat) (K : List (Nat × AV)) (hK : SubX K σ) (I : G → Prop) (L : G → List (Nat × AV)) (hp : G → List Blk) (μ : G → Nat) (g0 : G) (h0 : I g0) (hH : hp g0 = H) (hs : SubX (L g0) σ)
    (hlow : ∀ g, I g → (∀ x ∈ hp g, x.low (hp g).length = true) ∧ ∀ p ∈ K ++ L g, p.2.low (hp g).length = true) (hlen : ∀ g, I g → (hp g0).length ≤ (hp g).length)
    (round : ∀ g, I g → XRun P T N ρ own c (thenQ (XAgainG I (fun g => K ++ L g) hp μ g) Q) [] (stX (K ++ L g)) (hp g)) : Walk P N ρ (.loop c) Q [] σ H :=
  Walk.loopG ok own I (fun g => K ++ L g) hp μ g0 h0 hH (hK.app hs) hlow hlen round

theorem XAgainM.move {G : Type} {I : G → Prop} {L : G → List (Nat × AV)} {hp : G → List Blk} {μ : G → Nat} {base : Nat} {g : G} (g' : G) (A : List Blk) (x y : Blk) (u : Nat) (L0 : List (Nat × AV)) (h1 : I g') (h2 : μ g' < μ g) (h3 : hp g' = A ++ [y]) (h4 : H = A ++ [x, y])
    (h5 : L g' = (u, .ptr A.length 0) :: L0) (h6 : SubX L0 σ) (h7 : σ u = some (.ptr (A.length + 1) 0)) (hb : base ≤ A.length) (lA : ∀ z ∈ A, z.low A.length = true) (ly : y.low A.length = true) (lL : ∀ p ∈ L0, p.2.low A.length = true) : XAgainM I L hp μ base g [] σ H := by
  have hf : ∀ i, i < A.length → (fun i => if i = A.length then A.length + 1 else i) i = i := fun i hi => by simp only; rw [if_neg (by omega)]
  refine ⟨g', fun i => if i = A.length then A.length + 1 else i, h1, h2, ⟨List.nodup_nil, fun i hi => by simp at hi, fun i _ hi => by simp at hi⟩, ?_⟩
  rw [h3, h4]
  refine ⟨fun i j hi hj e => ?_, fun i hi => hf i (by omega), by simp; omega, fun i x1 e => ?_, fun i x1 hi e => ?_, fun z hz => ?_, fun t r e => ?_⟩
  · split at e <;> split at e <;> simp only [List.length_append, List.length_cons, List.length_nil] at hi hj <;> omega
  · rcases Nat.lt_or_ge i A.length with hi | hi
    · rw [List.getElem?_append_left hi] at e
      rw [if_neg (show ¬ i = A.length by omega), List.getElem?_append_left hi, e, Blk.ren_low hf (lA _ (List.mem_of_getElem? e))]
    · have hi2 : i = A.length := by
        have := (List.getElem?_eq_some_iff.1 e).1
        simp only [List.length_append, List.length_cons, List.length_nil] at this; omega
      subst hi2
      rw [List.getElem?_append_right (Nat.le_refl _), Nat.sub_self] at e
      cases e
      simp only [if_true]
      rw [List.getElem?_append_right (by omega), show A.length + 1 - A.length = 1 by omega, Blk.ren_low hf ly]; rfl
  · have hi2 : i < A.length := by omega
    rw [List.getElem?_append_left hi2] at e
    exact Blk.ren_low hf (lA _ (List.mem_of_getElem? e))
  · rw [List.mem_append, List.mem_singleton] at hz
    rcases hz with hz | rfl
    · exact GA.low_mono (by simp) (lA z hz)
    · exact GA.low_mono (by simp) ly
  · rw [h5] at e
    have hlen : A.length ≤ (A ++ [y]).length := by simp
    rcases List.mem_cons.1 (stX_mem _ _ _ e) with e1 | e1
    · cases e1
      refine ⟨?_, by simp [AV.low]⟩
      rw [h7]; simp only [AV.ren, if_true]
    · have h8 := lL _ e1
      refine ⟨?_, AV.low_mono hlen h8⟩
      rw [AV.ren_low hf h8]
      simp only [stX, updX_eq, upd] at e
      split at e
      · rename_i h9
        cases e
        simp only [AV.low, decide_eq_true_eq] at h8; omega
      · exact stX_sub h6 t r e
theorem yieldMono {i : Nat} {rs : List AV} {k k' : AV → List Blk → Prop} (x : AYield P i rs H k) (hk : ∀ r H', k r H' → k' r H') : AYield P i rs H k' :=
  ⟨x.1, fun E h β w b vs s r e => let ⟨f, tmps, assign, body, h1, h2⟩ := x.2 E h β w b vs s r e; ⟨f, tmps, assign, body, h1, h2.mono fun _ _ => Ends.mono hk⟩⟩
def IterL (P : Program) (i : Nat) (K : List Blk → Prop) : List Nat → List Blk → Prop
  | [], H => K H
  | c :: cs, H => XYield P i [.int .i64 (c : Int)] H fun r H' => (r = .bool true ∧ IterL P i K cs H') ∨ (r = .bool false ∧ K H')
theorem IterL.run {i : Nat} {K : List Blk → Prop} {S : Type} (upd : S → List Blk) (step : S → Nat → S) (I : S → List Nat → Prop)
    (x : ∀ s c cs, I s (c :: cs) → XYield P i [.int .i64 (c : Int)] (upd s) (fun r H' => r = .bool true ∧ H' = upd (step s c)) ∧ I (step s c) cs) :
    ∀ (cs : List Nat) (s : S), I s cs → K (upd (cs.foldl step s)) → IterL P i K cs (upd s)
  | [], s, _, hk => hk
  | c :: cs, s, hI, hk => by
    obtain ⟨h1, h2⟩ := x s c cs hI
    refine ⟨yieldMono h1.o ?_⟩
    rintro r H' ⟨rfl, rfl⟩
    exact .inl ⟨rfl, IterL.run upd step I x cs _ h2 hk⟩
theorem IterL.go {i : Nat} {K : List Blk → Prop} {S : Type} {cs : List Nat} (upd : S → List Blk) (step : S → Nat → S) (I : S → List Nat → Prop) (s0 : S) (hH : upd s0 = H)
    (x : ∀ s c cs, I s (c :: cs) → XYield P i [.int .i64 (c : Int)] (upd s) (fun r H' => r = .bool true ∧ H' = upd (step s c)) ∧ I (step s c) cs) (hI : I s0 cs) (hk : K (upd (cs.foldl step s0))) : IterL P i K cs H := by
  have := IterL.run upd step I x cs s0 hI hk
  rwa [hH] at this
end

section
variable {α : Type}
def vecF (W : Nat) (F : Nat → α) : List α := if h : W = 0 then [] else vecF (W - 1) F ++ [F (W - 1)]
  termination_by W
theorem vecF_eq (F : Nat → α) : ∀ W, vecF W F = (List.range W).map F
  | 0 => by rw [vecF]; rfl
  | n + 1 => by rw [vecF, dif_neg (by omega), Nat.add_sub_cancel, vecF_eq F n, List.range_succ, List.map_append]; rfl
def updV (F : Nat → α) (j : Nat) (v : α) : Nat → α := fun j' => if j' = j then v else F j'
theorem vecF_len (W : Nat) (F : Nat → α) : (vecF W F).length = W := by rw [vecF_eq]; simp
theorem vecF_get? (W : Nat) (F : Nat → α) (i : Nat) : (vecF W F)[i]? = if i < W then some (F i) else none := by
  rw [vecF_eq, List.getElem?_map]
  by_cases h : i < W
  · rw [List.getElem?_range h, if_pos h]; rfl
  · rw [List.getElem?_eq_none (by simpa using h), if_neg h]; rfl
theorem vecF_get {W : Nat} {F : Nat → α} {i : Nat} (d : α) (h : i < W) : (vecF W F).getD i d = F i := by rw [List.getD_eq_getElem?_getD, vecF_get?, if_pos h]; rfl
theorem vecF_congr {W : Nat} {F G : Nat → α} (h : ∀ i, i < W → F i = G i) : vecF W F = vecF W G := by
  apply List.ext_getElem?; intro i
  rw [vecF_get?, vecF_get?]
  by_cases h1 : i < W
  · rw [if_pos h1, if_pos h1, h i h1]
  · rw [if_neg h1, if_neg h1]
theorem vecF_set (W : Nat) (F : Nat → α) (j : Nat) (v : α) : (vecF W F).set j v = vecF W (updV F j v) := by
  apply List.ext_getElem?; intro i
  rw [List.getElem?_set, vecF_get?, vecF_get?, vecF_len]
  unfold updV
  by_cases h1 : j = i
  · subst h1; rw [if_pos rfl]
    by_cases h2 : j < W
    · rw [if_pos h2, if_pos h2, if_pos rfl]
    · rw [if_neg h2, if_neg h2]
  · rw [if_neg h1]
    by_cases h2 : i < W
    · rw [if_pos h2, if_pos h2, if_neg (fun e => h1 e.symm)]
    · rw [if_neg h2, if_neg h2]
theorem vecF_replicate (W : Nat) (v : α) : vecF W (fun _ => v) = List.replicate W v := by
  apply List.ext_getElem?; intro i
  rw [vecF_get?, List.getElem?_replicate]
variable {f : α → AV}
theorem vec_at {W : Nat} {F : Nat → α} {j : Nat} (h : j < W) : ((vecF W F).map f)[j]? = some (f (F j)) := by rw [List.getElem?_map, vecF_get?, if_pos h]; rfl
theorem XArr.vec {n : Int} {m : Nat} {k : AV → Prop} {W : Nat} {F : Nat → α} (j : Nat) (hn : n = j) (h1 : j < m) (h2 : j < W) (h : k (.pim (f (F j) :: ((vecF W F).map f).drop (j * 1 + 1)))) : XArr (.pim ((vecF W F).map f)) n m 1 k := by
  subst hn
  exact XArr.at _ (by omega) (by omega) (by rw [Int.toNat_natCast, Nat.mul_one]; exact vec_at h2) h
theorem xdrop_vec {o : Nat} {k : List AV → Prop} {W : Nat} {F : Nat → α} (j : Nat) (ho : o = j) (hj : j < W) (h : k (f (F j) :: ((vecF W F).map f).drop (j + 1))) : xdrop o ((vecF W F).map f) k := by
  subst ho; exact xdrop_at _ (vec_at hj) h
theorem xtk_vec {n W : Nat} {F : Nat → α} {k : List AV → Prop} (hn : n = W) (h : k ((vecF W F).map f)) : xtk n ((vecF W F).map f) k := by
  have : ∀ (l : List AV) (k : List AV → Prop), k l → xtk l.length l k := by
    intro l; induction l with
    | nil => intro k h; exact h
    | cons x l ih => intro k h; exact ih (fun l => k (x :: l)) h
  have e : n = ((vecF W F).map f).length := by rw [List.length_map, vecF_len, hn]
  rw [e]; exact this _ _ h
theorem xn_vec {n W : Nat} {F : Nat → α} {A : Prop} (hn : n = W) (h : A) : xn n ((vecF W F).map f) A := by
  have : ∀ (l : List AV), xn l.length l A := by
    intro l; induction l with
    | nil => exact h
    | cons x l ih => exact ih
  have e : n = ((vecF W F).map f).length := by rw [List.length_map, vecF_len, hn]
  rw [e]; exact this _
theorem xspl_vec {o : Nat} {k : List AV → Prop} {W : Nat} {F : Nat → α} (v : α) (j : Nat) (ho : o = j) (hj : j < W) (h : k ((vecF W (updV F j v)).map f)) : xspl ((vecF W F).map f) o [f v] k := by
  subst ho
  have gen : ∀ (c : List AV) (o : Nat) (v : AV) (k : List AV → Prop), o < c.length → k (c.set o v) → xspl c o [v] k := by
    intro c; induction c with
    | nil => intro o v k h _; simp at h
    | cons x c ih =>
      intro o v k h hk
      cases o with
      | zero =>
        show xspl c 0 [] fun l => k (v :: l)
        cases c <;> exact hk
      | succ o => exact ih o v (fun l => k (x :: l)) (by simpa using h) hk
  refine gen _ _ _ _ (by rw [List.length_map, vecF_len]; exact hj) ?_
  rw [← List.map_set, vecF_set]; exact h
theorem vec_low {n W : Nat} {F : Nat → α} (hf : ∀ x, (f x).low n = true) : lowL n ((vecF W F).map f) = true := lowL_map hf _
end
end GA
end

section
namespace GA
open Go Go.RowKit
set_option linter.unusedVariables false
section
variable {P : Program} {N : Nat} {ρ : Option Nat} {H : List Blk} {σ : St} {D : List Nat}

theorem flat_one : ∀ {els : List AV}, (∀ x ∈ els, x.one = true) → flat els = els
  | [], _ => rfl
  | x :: l, h => by
    have h1 := h x List.mem_cons_self
    have h2 := flat_one (els := l) fun y hy => h y (List.mem_cons_of_mem _ hy)
    have h3 : x.cells = [x] := by cases x <;> first | rfl | cases h1
    show x.cells ++ flat l = _
    rw [h3, h2]; rfl
theorem cells_one {x : AV} (h : x.one = true) : x.cells = [x] := by cases x <;> first | rfl | cases h

theorem Walk.run {T : Tab} {c : Code} {Q : Post} (ok : TabOk P T) (own : List Nat) (x : XRun P T N ρ own c Q D σ H) : Walk P N ρ c Q D σ H := ⟨XRun.sound ok x⟩
theorem XGet.set {els : List AV} {n e m : Nat} {x : AV} {k : List AV → Prop} (he : e = m) (hm : m < els.length) (hn : n = els.length) (h : k x.cells) : XGet (els.set m x) n e k := by
  subst he
  refine ⟨by rw [List.length_set]; exact hn, by omega, ?_⟩
  have : (els.set e x).getD e default = x := by rw [List.getD_eq_getElem?_getD, List.getElem?_set_self hm]; rfl
  rw [this]; exact h
theorem XPut.set {els : List AV} {n e m : Nat} {x v : AV} {k : List AV → Prop} (he : e = m) (hm : m < els.length) (hn : n = els.length) (h : k (els.set m v)) : XPut (els.set m x) n e v k := by
  subst he
  exact ⟨by rw [List.length_set]; exact hn, by omega, by rw [List.set_set]; exact h⟩
theorem FrozN.sl {n : Nat} {nl : Bool} {els els' : List AV} (hone : ∀ x ∈ els, x.one = true) (hone' : ∀ x ∈ els', x.one = true) (hs : FrozNL P n H els els') : FrozN P n H (.sl nl els) (.sl nl els') := by
  intro E h β w s v hr H1
  cases hr with
  | slnil =>
    have : els' = [] := List.eq_nil_of_length_eq_zero hs.1
    subst this; exact .slnil
  | slemp =>
    have : els' = [] := List.eq_nil_of_length_eq_zero hs.1
    subst this; exact .slemp
  | sl us hn hne hb hw hw0 ho hcap hc h3 =>
    rw [flat_one hone] at hc h3
    obtain ⟨e0, he0⟩ := List.exists_mem_of_ne_nil _ hne
    have hw1 := hw e0 he0
    rw [cells_one (hone e0 he0)] at hw1
    refine .sl us (by rw [hn, hs.1]) (fun e => hne (List.eq_nil_of_length_eq_zero (by rw [← hs.1, e]; rfl))) (hallN_imm s hb) (fun e he => by rw [cells_one (hone' e he)]; exact hw1) hw0 (fun x hx => ?_) (by rw [hs.1]; exact hcap) (fun j x e => ?_) (fun j x e => ?_)
    · rw [flat_one hone'] at hx; exact hone' x hx
    · rw [flat_one hone'] at e
      obtain ⟨y, e1, _⟩ := hs.2 j x e; exact hc j y e1
    · rw [flat_one hone'] at e
      obtain ⟨y, e1, e2⟩ := hs.2 j x e; exact e2 E h β w s _ (h3 j y e1) H1
end
end GA
end

section
namespace GA
open Go Go.RowKit
set_option linter.unusedVariables false
section
variable {P : Program} {N : Nat} {ρ : Option Nat} {H : List Blk} {σ : St} {D : List Nat} {Q : Post}

structure XFrz (u i n : Nat) (σ : St) (H : List Blk) (k : St → List Blk → Prop) : Prop where
  o : ∃ t nl els, σ u = some (.gr i n) ∧ lget H i = some (.grow t nl els) ∧ els.length = n ∧ k (updX σ u (.sl nl els)) (H.set i .dead)
theorem XFrz.go {u i n : Nat} {k : St → List Blk → Prop} {t : TypeId} {nl : Bool} {els : List AV} (hu : σ u = some (.gr i n)) (hi : lget H i = some (.grow t nl els)) (hn : els.length = n) (x : k (updX σ u (.sl nl els)) (H.set i .dead)) : XFrz u i n σ H k := ⟨t, nl, els, hu, hi, hn, x⟩
def frzQ (u i n : Nat) (Q : Post) : Post
  | .exit id, D, σ, H => XFrz u i n σ H (Q (.exit id) D)
  | e, D, σ, H => Q e D σ H
theorem Walk.thenFreeze {c : Code} (u i n : Nat) (x : Walk P N ρ c (frzQ u i n Q) D σ H) : Walk P N ρ c Q D σ H := by
  constructor
  intro E h β a w s
  refine wpIn_mono (x.o E h β a w s) fun e a' w' hc => ?_
  obtain ⟨D', σ', H', h', β', q, X, s'⟩ := hc
  cases e with
  | exit id =>
    obtain ⟨t, nl, els, hu, hi, hn, q⟩ := q.o
    rw [lget_eq] at hi
    obtain ⟨h'', s1, X1, hfz⟩ := s'.sr.freeze hi
    refine ⟨D', _, _, h'', β', q, X.trans X1, ⟨s1, fun t' r e => ?_, s'.size, s'.df.ext X1⟩⟩
    rw [updX_eq] at e; unfold upd at e
    split at e
    · rename_i hh; subst hh; cases e
      obtain ⟨v, h1, h2⟩ := s'.fits _ _ hu
      exact ⟨v, h1, gr_frz s'.sr hi hn h2 X1 hfz⟩
    · obtain ⟨v, h1, h2⟩ := s'.fits t' r e
      exact ⟨v, h1, X1.rep h2⟩
  | _ => exact ⟨D', σ', H', h', β', q, X, s'⟩
end
end GA
end

section
namespace GA
open Go Go.RowKit
set_option linter.unusedVariables false
section
variable {P : Program} {N : Nat} {ρ : Option Nat} {H : List Blk} {σ : St} {D : List Nat} {Q : Post} {E : Env} {h : Nat → Option Obj} {β : Nat → Value} {a : Act} {w : World}

structure XKeepE (P : Program) (σ : St) (H : List Blk) (k : St → List Blk → Prop) : Prop where
  o : ∃ (H1 l : List Blk) (L : List (Nat × AV)), H1 ++ l = H ∧ (∀ x ∈ H1, x.low H1.length = true) ∧ SubF P H1.length H L σ ∧ k (stX L) (H1 ++ l.map fun _ => .dead)
theorem XKeepE.go {k : St → List Blk → Prop} (H1 l : List Blk) (L : List (Nat × AV)) (hH : H1 ++ l = H) (hlow : ∀ x ∈ H1, x.low H1.length = true) (hs : SubF P H1.length H L σ) (x : k (stX L) (H1 ++ l.map fun _ => .dead)) : XKeepE P σ H k := ⟨H1, l, L, hH, hlow, hs, x⟩
theorem hallN_zero {h : Nat → Option Obj} {β : Nat → Value} {H : List Blk} {w : World} : hallN 0 h β H w = hall h β H w := by
  funext b
  by_cases hx : ∃ i, blkOf β H i = some b
  · obtain ⟨i, hi⟩ := hx
    rw [hallN_own (Nat.zero_le i) hi]
    unfold hall; rw [if_pos ⟨i, hi⟩]
  · unfold hallN hall
    rw [if_neg hx, if_neg (fun ⟨i, _, h⟩ => hx ⟨i, h⟩)]
theorem Froz.n0 {r r' : AV} (f : Froz P H r r') : FrozN P 0 H r r' := fun E h β w s v hr H1 => by
  rw [hallN_zero]
  exact (f E h β w s v hr).none
theorem XKeep.all {r r' : AV} (f : Froz P H r r') : XKeep P 0 H r r' := .inl f.n0
end
end GA
end

section
namespace GA
open Go Go.RowKit
set_option linter.unusedVariables false
section
variable {P : Program} {N : Nat} {ρ : Option Nat} {H : List Blk} {σ : St} {D : List Nat} {Q : Post}
structure XDo (P : Program) (N : Nat) (D : List Nat) (σ : St) (H : List Blk) (K : St → List Blk → Prop) : Prop where
  o : ∀ E h β a w, Stands P E N h β D σ H a w → ∃ σ' H' h' β', K σ' H' ∧ Ext h β H h' β' H' ∧ Stands P E N h' β' D σ' H' a w
def doQ (P : Program) (N : Nat) (Q : Post) : Post
  | .exit id, D, σ, H => XDo P N D σ H (Q (.exit id) D)
  | e, D, σ, H => Q e D σ H
theorem Walk.thenDo {c : Code} (x : Walk P N ρ c (doQ P N Q) D σ H) : Walk P N ρ c Q D σ H := by
  constructor
  intro E h β a w s
  refine wpIn_mono (x.o E h β a w s) fun e a' w' hc => ?_
  obtain ⟨D', σ', H', h', β', q, X, s'⟩ := hc
  cases e with
  | exit id =>
    obtain ⟨σ2, H2, h2, β2, q2, X2, s2⟩ := q.o E h' β' a' w' s'
    exact ⟨D', σ2, H2, h2, β2, q2, X.trans X2, s2⟩
  | _ => exact ⟨D', σ', H', h', β', q, X, s'⟩
theorem XDo.run {K : St → List Blk → Prop} (x : K σ H) : XDo P N D σ H K := ⟨fun E h β a w s => ⟨σ, H, h, β, x, Ext.refl _ _ _, s⟩⟩
theorem XDo.freezeMap {K : St → List Blk → Prop} (j i n : Nat) {es : List (Int × AV)} (es' : List (Int × AV)) {t : TypeId} {nl : Bool} {els : List AV} (hj : lget H j = some (.map es)) (hi : lget H i = some (.grow t nl els)) (hn : els.length = n)
    (hf : FrzE i n nl els es es') (x : XDo P N D σ ((H.set i .dead).set j (.map es')) K) : XDo P N D σ H K := by
  constructor
  intro E h β a w s
  rw [lget_eq] at hi hj
  have hij : i ≠ j := by rintro rfl; rw [hi] at hj; cases hj
  obtain ⟨h', s1, X1, hfz⟩ := s.sr.freeze hi
  have hj1 : (H.set i .dead)[j]? = some (.map es) := by rw [List.getElem?_set_ne hij]; exact hj
  obtain ⟨s2, X2⟩ := s1.modify (β' := β) (w' := w) (x' := .map es') hj1 (fun _ _ => rfl) (.inr ⟨_, rfl, rfl⟩) s1.env (fun _ _ _ => rfl) (fun b e => .inl (by unfold blkOf; rw [hj1]; exact e)) (fun X => by
    obtain ⟨q, ents, clock, h1, h2, h3, h4, us, h5⟩ := s.sr.blk j _ hj
    have hl : es'.length = es.length := by have := congrArg List.length hf.k; simpa using this
    refine ⟨q, ents, clock, h1, h2, by rw [hf.k]; exact h3, by rw [hl]; exact h4, us, fun m key y e => ?_⟩
    obtain ⟨x0, e0, hx⟩ := hf.o m key y e
    obtain ⟨hr, born⟩ := h5 m key x0 e0
    refine ⟨?_, born⟩
    rcases hx with rfl | ⟨rfl, rfl⟩
    · exact (X1.trans X).rep hr
    · exact gr_frz s.sr hi hn hr (X1.trans X) hfz)
  obtain ⟨σ2, H2, h2, β2, q2, X3, s3⟩ := x.o E h' β a w ⟨s2, fun u r e => let ⟨v, h1, h2⟩ := s.fits u r e; ⟨v, h1, (X1.trans X2).rep h2⟩, s.size, s.df.ext (X1.trans X2)⟩
  exact ⟨σ2, H2, h2, β2, q2, (X1.trans X2).trans X3, s3⟩
theorem Walk.loopGKL {T : Tab} {c : Code} {G : Type} (ok : TabOk P T) (own : List Nat) (lp : Blk) (K : List (Nat × AV)) (hK : SubX K σ) (I : G → Prop) (L : G → List (Nat × AV)) (hp : Blk → G → List Blk) (μ : G → Nat) (g0 : G) (h0 : I g0) (hH : hp lp g0 = H) (hs : SubX (L g0) σ)
    (hlow : ∀ g, I g → (∀ x ∈ hp lp g, x.low (hp lp g).length = true) ∧ ∀ p ∈ K ++ L g, p.2.low (hp lp g).length = true) (hlen : ∀ g, I g → (hp lp g0).length ≤ (hp lp g).length)
    (round : ∀ g, I g → XRun P T N ρ own c (thenQ (XAgainG I (fun g => K ++ L g) (hp lp) μ g) Q) [] (stX (K ++ L g)) (hp lp g)) : Walk P N ρ (.loop c) Q [] σ H :=
  Walk.loopGK ok own K hK I L (hp lp) μ g0 h0 hH hs hlow hlen round
theorem Walk.seq {a b : Code} (x : Walk P N ρ a (thenQ (fun D σ H => Walk P N ρ b Q D σ H) Q) D σ H) : Walk P N ρ (.seq a b) Q D σ H :=
  ⟨AWp.seq (AWp.mono x.o fun e D σ H q => by cases e <;> first | exact q.o | exact q)⟩
theorem Comp.bodyW {T : Tab} {f : FuncId} {fn : Func} {c : Code} {rs : List AV} {res : List ResultVar} {r0 : AV} (ok : TabOk P T) (own : List Nat) (hf : P.funcs[f]? = some fn) (hb : fn.body = some c) (hn : (fn.name == "runtime.NumGoroutine") = false)
    (hN : fn.ntmps = N) (hr : fn.results = res.toArray) (hl : rs.length ≤ N) (hlo : lowL 0 rs = true) (x : Walk P N none c (XFn P T res r0) [] (argX rs) []) : Comp P f rs r0 := by
  refine ⟨hlo, ?_⟩
  obtain ⟨h1, h2⟩ := ACall.inl0 (k := fun r H => XOut P H r r0) ok own hf hb hn hN hr hl (AWp.mono x.o (fun e D σ H q => by
    unfold XFn at q
    split at q
    · exact q
    · exact q
    · exact q.elim))
  refine ⟨h1, fun E h β w vs s hrs => (h2 E h β w vs s hrs).mono ?_⟩
  rintro e w' ⟨r, H', h', β', v, rfl, hk, X, s', hrep⟩
  exact ⟨r0, [], hall h' β' H' w', β', v, rfl, ⟨rfl, rfl⟩, ⟨fun b o eb => hall_imm s' (X.imm b o eb), Nat.le_refl _, by simp⟩, s'.all, hk.o E h' β' w' s' v hrep⟩
end
end GA
end

section
namespace GA
open Go Go.RowKit
set_option linter.unusedVariables false
set_option linter.unusedSimpArgs false

def lexP (A : Array Oper) : Nat → List Oper → Bool
  | _, [] => true
  | k, o :: l => o.after.toList.all (fun e => !Region.binds .any e || Nat.blt e.on k) && l.all (fun oj => oj.after.toList.any (fun e => Region.binds .any e && Nat.beq e.on k) || o.apart A oj) && lexP A (k + 1) l
theorem lex_from {ops : List Oper} : ∀ (l : List Oper) (k : Nat) (listed : Array Bool), (∀ j, l[j]? = ops[k + j]?) → k + l.length = ops.length → listed.size = ops.length → (∀ j, listed.getD j true = decide (j < k ∨ ops.length ≤ j)) → lexP ops.toArray k l = true → Region.lexFrom .any ops.toArray l.length k listed = true
  | [], k, listed, hl, hk, hs, hL, h => by
    rw [List.length_nil, Region.lexFrom, List.isEmpty_iff]
    refine List.eq_nil_iff_forall_not_mem.2 fun j hj => ?_
    obtain ⟨h1, o, ho, -⟩ := mem_ready.1 hj
    have hlt : j < ops.length := by simpa using (Array.getElem?_eq_some_iff.1 ho).1
    rw [hL, decide_eq_false_iff_not] at h1
    rw [List.length_nil] at hk
    omega
  | o :: l, k, listed, hl, hk, hs, hL, h => by
    simp only [lexP, Bool.and_eq_true] at h
    obtain ⟨⟨h1, h2⟩, h3⟩ := h
    have h0 : ops[k]? = some o := by have := hl 0; simpa using this.symm
    have hkl : k < ops.length := (List.getElem?_eq_some_iff.1 h0).1
    rw [List.length_cons] at hk
    simp only [List.length_cons, Region.lexFrom, Bool.and_eq_true]
    refine ⟨⟨?_, ?_⟩, ?_⟩
    · rw [List.contains_iff_mem]
      refine mem_ready.2 ⟨by rw [hL, decide_eq_false_iff_not]; omega, o, by simpa using h0, fun e he hb => ?_⟩
      have h4 := List.all_eq_true.1 h1 e (by simpa using he)
      rw [hb] at h4
      simp only [Bool.not_true, Bool.false_or] at h4
      have h5 : e.on < k := Nat.blt_eq.mp h4
      have h6 := hL e.on
      rw [decide_eq_true (.inl h5)] at h6
      have h7 : e.on < listed.size := by omega
      simp only [Array.getD, h7, dite_true] at h6 ⊢
      exact h6
    · unfold Region.free
      rw [show ops.toArray[k]? = some o by simpa using h0]
      dsimp only
      rw [List.all_eq_true]
      intro j hj
      have hjl : j < ops.length := by simpa using hj
      by_cases hjk : j < k ∨ ops.length ≤ j
      · rw [hL, decide_eq_true hjk]; simp
      · by_cases he : j = k
        · rw [he]; simp
        · have hj2 : l[j - k - 1]? = ops[j]? := by
            have := hl (j - k)
            rw [show k + (j - k) = j by omega] at this
            rw [← this, show j - k = (j - k - 1) + 1 by omega, List.getElem?_cons_succ]
            simp
          have hoj : ops[j]? = some ops[j] := List.getElem?_eq_getElem hjl
          rw [hoj] at hj2
          have hm := List.mem_of_getElem? hj2
          have h4 := List.all_eq_true.1 h2 _ hm
          rw [show ops.toArray[j]? = some ops[j] by simp [hjl]]
          dsimp only
          rw [Bool.or_eq_true] at h4
          rcases h4 with h4 | h4
          · obtain ⟨e, he1, he2⟩ := List.any_eq_true.1 h4
            have h5 : (ops[j].after.any fun e => Region.binds .any e && e.on == k) = true := by
              rw [Array.any_eq_true']
              refine ⟨e, by simpa using he1, ?_⟩
              rw [Bool.and_eq_true] at he2 ⊢
              exact ⟨he2.1, by rw [beq_iff_eq]; exact Nat.eq_of_beq_eq_true he2.2⟩
            rw [h5]; simp
          · rw [h4]; simp
    · refine lex_from l (k + 1) _ (fun j => ?_) (by omega) (by simpa using hs) (fun j => ?_) h3
      · have := hl (j + 1)
        rw [List.getElem?_cons_succ] at this
        rw [this]; congr 1; omega
      · by_cases hjk : k = j
        · subst hjk
          have h7 : k < listed.size := by omega
          rw [decide_eq_true (.inl (by omega))]
          simp [h7]
        · rw [getD_set_ne true hjk, hL]
          congr 1
          simp only [eq_iff_iff]
          omega
theorem lex_of {ops : List Oper} (h : (Region.noSelect ops.toArray && lexP ops.toArray 0 ops) = true) : Region.lexB .any ops.toArray = true := by
  rw [Bool.and_eq_true] at h
  simp only [Region.lexB, Bool.and_eq_true]
  refine ⟨h.1, ?_⟩
  have := lex_from (ops := ops) ops 0 (Array.replicate ops.toArray.size false) (fun j => by rw [Nat.zero_add]) (by simp) (by simp) (fun j => ?_) h.2
  · simpa using this
  · by_cases hj : j < ops.length
    · rw [decide_eq_false (by omega)]
      simp [hj]
    · rw [decide_eq_true (.inr (by omega))]
      simp [hj]
end GA
end

section
namespace GA
open Go Go.RowKit
set_option linter.unusedVariables false

def tailC : Nat → Code → Code
  | n + 1, .seq _ b => tailC n b
  | _, c => c
def theC : Option Code → Code
  | some c => c
  | none => .skip
theorem Walk.heapX {P : Program} {N : Nat} {r : Option Nat} {c : Code} {Q : Post} {D : List Nat} {σ : St} {H : List Blk} (H' : List Blk) (h : H' = H) (x : Walk P N r c Q D σ H') : Walk P N r c Q D σ H := h ▸ x
end GA
end

section
namespace GA
open Go Go.RowKit
set_option linter.unusedVariables false

section
variable {P : Program} {T : Tab} {N : Nat} {ρ : Option Nat} {D : List Nat} {σ : St} {H : List Blk} {Q : Post}
theorem Walk.weak {c : Code} (L : List (Nat × AV)) (hs : SubX L σ) (x : Walk P N ρ c Q D (stX L) H) : Walk P N ρ c Q D σ H := ⟨AWp.weaken (stX_sub hs) x.o⟩
theorem Walk.blk {id : Nat} {c : Code} (x : Walk P N ρ c (blockX id Q) D σ H) : Walk P N ρ (.block id c) Q D σ H := ⟨.block (by rw [← blockX_eq]; exact x.o)⟩
theorem Walk.loopGKW {c : Code} {G : Type} (K : List (Nat × AV)) (hK : SubX K σ) (I : G → Prop) (L : G → List (Nat × AV)) (hp : G → List Blk) (μ : G → Nat) (g0 : G) (h0 : I g0) (hH : hp g0 = H) (hs : SubX (L g0) σ)
    (hlow : ∀ g, I g → (∀ x ∈ hp g, x.low (hp g).length = true) ∧ ∀ p ∈ K ++ L g, p.2.low (hp g).length = true) (hlen : ∀ g, I g → (hp g0).length ≤ (hp g).length)
    (round : ∀ g, I g → Walk P N ρ c (thenQ (XAgainG I (fun g => K ++ L g) hp μ g) Q) [] (stX (K ++ L g)) (hp g)) : Walk P N ρ (.loop c) Q [] σ H := by
  constructor
  have hst : ∀ (l : List (Nat × AV)) t r, stX l t = some r → (t, r) ∈ l := by
    intro l; induction l with
    | nil => intro t r h; cases h
    | cons p l ih =>
      obtain ⟨u, x⟩ := p
      intro t r h; simp only [stX, updX_eq, upd] at h
      split at h
      · rename_i e; cases h; subst e; exact List.mem_cons_self
      · exact List.mem_cons_of_mem _ (ih t r h)
  refine AWp.loopG (G := {g : G // I g}) (fun g => stX (K ++ L g.1)) (fun g => hp g.1) (fun g => μ g.1) ⟨g0, h0⟩ (stX_sub (hK.app hs)) hH rfl (fun g => ⟨(hlow g.1 g.2).1, fun t r e => (hlow g.1 g.2).2 (t, r) (hst _ _ _ e)⟩) (fun g => hlen g.1 g.2) fun g => ?_
  refine (round g.1 g.2).o.mono fun e D' σ' H' q => ?_
  cases e with
  | normal => obtain ⟨h1, g', l, h2, h3, h4, h5⟩ := q; exact ⟨h1, ⟨g', h2⟩, l, h3, h4, stX_sub h5⟩
  | _ => exact q
end
end GA
end

section
namespace GA
open Go Go.RowKit
set_option linter.unusedVariables false

structure XGo (P : Program) (N : Nat) (ρ : Option Nat) (c : Code) (Q : Post) (D : List Nat) (σ : St) (H : List Blk) : Prop where
  o : Walk P N ρ c Q D σ H
def XStep (P : Program) (T : Tab) (N : Nat) (ρ : Option Nat) (own : List Nat) : Code → Post → List Nat → St → List Blk → Prop
  | .skip, Q, D, σ, H => Q .normal D σ H
  | .exit id, Q, D, σ, H => Q (.exit id) D σ H
  | .ret, Q, D, σ, H => Q .ret D σ H
  | .seq a b, Q, D, σ, H => XStep P T N ρ own a (thenQ (XGo P N ρ b Q) Q) D σ H
  | .cond c x y, Q, D, σ, H => bnd (ev σ c) fun r => match r with | .bool b => XBr b (XGo P N ρ x Q D σ H) (XGo P N ρ y Q D σ H) | _ => False
  | .block id b, Q, D, σ, H => XGo P N ρ b (blockX id Q) D σ H
  | .region id ops false, Q, D, σ, H => match manyG 12 ops.toList with | true => Walk P N ρ (.region id ops false) Q D σ H | false => XReg P T N own ops.toList ops.toList σ H (Q .normal D)
  | c, Q, D, σ, H => Walk P N ρ c Q D σ H
section
variable {P : Program} {T : Tab} {N : Nat} {ρ : Option Nat} {own : List Nat}
theorem XStep.sound (ok : TabOk P T) : ∀ {c : Code} {Q : Post} {D : List Nat} {σ : St} {H : List Blk}, XStep P T N ρ own c Q D σ H → AWp P N ρ c Q D σ H
  | .skip, _, _, _, _, x => .skip x
  | .exit _, _, _, _, _, x => .exit x
  | .ret, _, _, _, _, x => .ret x
  | .seq a b, Q, _, _, _, x => .seq (AWp.mono (Q := thenQ (XGo P N ρ b Q) Q) (XStep.sound ok (c := a) x) fun e D σ H q => by
      cases e with
      | normal => exact q.o.o
      | _ => exact q)
  | .cond c _ _, _, _, _, _, x => by
      obtain ⟨r, h1, h2⟩ := bnd_elim x
      split at h2
      · exact .cond h1 (fun h => (h2.t h).o.o) (fun h => (h2.f h).o.o)
      · exact h2.elim
  | .block id b, Q, D, σ, H, x => .block (by rw [← blockX_eq]; exact x.o.o)
  | .region id ops false, Q, D, σ, H, x => by
      unfold XStep at x
      split at x
      · exact x.o
      · exact .regionX ok x
  | .region _ _ true, _, _, _, _, x => x.o
  | .loop _, _, _, _, _, x => x.o
  | .rangeFunc .., _, _, _, _, x => x.o
  | .scope _, _, _, _, _, x => x.o
  | .label _, _, _, _, _, x => x.o
  | .goto _, _, _, _, _, x => x.o
  | .refuse _, _, _, _, _, x => x.o
theorem XGo.go {c : Code} {Q : Post} {D : List Nat} {σ : St} {H : List Blk} (ok : TabOk P T) (own : List Nat) (x : XStep P T N ρ own c Q D σ H) : XGo P N ρ c Q D σ H := ⟨⟨XStep.sound ok x⟩⟩
theorem Walk.step {c : Code} {Q : Post} {D : List Nat} {σ : St} {H : List Blk} (ok : TabOk P T) (own : List Nat) (x : XStep P T N ρ own c Q D σ H) : Walk P N ρ c Q D σ H := ⟨XStep.sound ok x⟩
theorem XGo.at {c : Code} {Q : Post} {D : List Nat} {σ : St} {H : List Blk} (L : List (Nat × AV)) (hs : SubX L σ) (x : Walk P N ρ c Q D (stX L) H) : XGo P N ρ c Q D σ H := ⟨.weak L hs x⟩
end
end GA
end

section
namespace GA
open Go Go.RowKit
set_option linter.unusedVariables false

theorem XBr.y {p : Prop} [Decidable p] {A B : Prop} (x : p → A) (h : p := by first | omega | (simp only [List.length_map]; omega)) : XBr (decide p) A B := .yes (decide_eq_true h) (x h)
theorem XBr.n {p : Prop} [Decidable p] {A B : Prop} (x : ¬ p → B) (h : ¬ p := by first | omega | (simp only [List.length_map]; omega)) : XBr (decide p) A B := .no (decide_eq_false h) (x h)
theorem XBr.y1 {a b : Int} {A B : Prop} (x : a = b → A) (h : a = b := by omega) : XBr (a == b) A B := .yes (beq_iff_eq.2 h) (x h)
theorem XBr.n1 {a b : Int} {A B : Prop} (x : a ≠ b → B) (h : a ≠ b := by omega) : XBr (a == b) A B := .no (beq_eq_false_iff_ne.2 h) (x h)
theorem XBr.y2 {a b : Int} {A B : Prop} (x : a ≠ b → A) (h : a ≠ b := by omega) : XBr (a != b) A B := .yes (bne_iff_ne.2 h) (x h)
theorem XBr.n2 {a b : Int} {A B : Prop} (x : a = b → B) (h : a = b := by omega) : XBr (a != b) A B := .no (by rw [h]; exact bne_self_eq_false b) (x h)
theorem XInt.a {x : Int} {k : AV → Prop} (y : k (.int .i64 x)) (l : -9223372036854775808 ≤ x := by omega) (u : x ≤ 9223372036854775807 := by omega) : XInt .i64 x k := .i64 l u y
theorem XHold.a {p A : Prop} (x : A) (h : p := by first | omega | rfl | decide | exact ⟨rfl, by decide, rfl⟩ | exact wideI _ | (unfold Room; constructor <;> ((try simp) <;> omega)) | exact ⟨rfl, by simp only [List.length_map], by unfold Room; constructor <;> ((try simp) <;> omega)⟩ | exact ⟨by omega, by omega, by unfold Room; constructor <;> ((try simp) <;> omega)⟩ | fail) : XHold p A := ⟨h, x⟩
theorem XIx.a {α : Type} [Inhabited α] {f : α → AV} {xs : List α} {i w : Nat} {k : AV → Prop} (x : k (.pim (f (xs.getD i default)).cells)) (h : i < xs.length := by omega) (hw : ∀ x, (f x).cells.length = w := by intro _; rfl) : XIx (xs.map f) (i : Int) w k := .nat h hw x
theorem XIx.b {α : Type} [Inhabited α] {f : α → AV} {xs : List α} {n : Int} {w : Nat} {k : AV → Prop} (x : k (.pim (f (xs.getD n.toNat default)).cells)) (h1 : 0 ≤ n := by omega) (h2 : n < xs.length := by omega) (hw : ∀ x, (f x).cells.length = w := by intro _; rfl) : XIx (xs.map f) n w k := .map h1 h2 hw x
end GA
end

section
namespace GA
open Go Go.RowKit Go.Proofs
set_option pp.deepTerms true
set_option maxRecDepth 8000
set_option linter.unusedVariables false
set_option linter.unusedSimpArgs false

theorem mixed_ok : Tryz.prog.follows .mixedOrders = true := by kernel_rfl

theorem find_none {α : Type} {p : α → Bool} {xs : List α} {d : α} (h : ∀ j, j < xs.length → p (xs.getD j d) = false) : xs.findIdx? p = none := by
  rw [List.findIdx?_eq_none_iff]; intro x hx
  obtain ⟨j, hj, rfl⟩ := List.mem_iff_getElem.1 hx
  have := h j hj; rwa [List.getD_eq_getElem?_getD, List.getElem?_eq_getElem hj] at this
theorem find_some {α : Type} {p : α → Bool} {xs : List α} {d : α} {i : Nat} (hi : i < xs.length) (hp : p (xs.getD i d) = true) (h : ∀ j, j < i → p (xs.getD j d) = false) : xs.findIdx? p = some i := by
  rw [List.findIdx?_eq_some_iff_getElem]
  refine ⟨hi, by rwa [List.getD_eq_getElem?_getD, List.getElem?_eq_getElem hi] at hp, fun j hj => ?_⟩
  have := h j hj; rw [List.getD_eq_getElem?_getD, List.getElem?_eq_getElem (by omega)] at this; simpa using this
theorem getD_mem {α : Type} {xs : List α} {d : α} {i : Nat} (hi : i < xs.length) : xs.getD i d ∈ xs := by
  rw [List.getD_eq_getElem?_getD, List.getElem?_eq_getElem hi]; exact List.getElem_mem hi
def idxR {α : Type} (p : α → Bool) (xs : List α) : Int := match xs.findIdx? p with | some i => i | none => -1
theorem idxR_pos {α : Type} {p : α → Bool} {xs : List α} : (0 ≤ idxR p xs) ↔ xs.any p = true := by
  unfold idxR
  cases h : xs.findIdx? p with
  | none => rw [List.findIdx?_eq_none_iff] at h; simp; intro x hx; simpa using h x hx
  | some i =>
    rw [List.findIdx?_eq_some_iff_getElem] at h; obtain ⟨h1, h2, _⟩ := h
    simp; exact ⟨_, List.getElem_mem h1, h2⟩

def keptL (xs : List Int) (g : Int) : List Int := xs.filter fun x => decide (g ≤ x)
structure Sk where
  m : Int
  o : Int
  deriving Inhabited, DecidableEq
def skA (s : Sk) : AV := .agg [.int .i64 s.m, .int .i64 s.o]
def prA (p : Int × Int) : AV := .agg [.int .i64 p.1, .int .i64 p.2]
theorem wideSk (xs : List Sk) : wide 2 (xs.map skA) = true := wide_map (f := skA) (n := 2) (fun _ => rfl) (fun _ => rfl) xs
theorem widePr (xs : List (Int × Int)) : wide 2 (xs.map prA) = true := wide_map (f := prA) (n := 2) (fun _ => rfl) (fun _ => rfl) xs


structure Ld where
  bears : Int
  shrink : Int
  nls : Bool
  sacks : List Sk
  nla : Bool
  apart : List (Int × Int)
  nlw : Bool
  wth : List (Int × Int)
def weightR (l : Ld) (s : Sk) : Int := s.m - s.m * l.shrink / 100
def bitsF : Nat → Nat → Nat → List Int
  | 0, _, _ => []
  | f + 1, i, s => if s = 0 then [] else if s % 2 = 1 then (i : Int) :: bitsF f (i + 1) (s / 2) else bitsF f (i + 1) (s / 2)
def bits (s : Nat) : List Int := bitsF 62 0 s
theorem wrap_nat {n : Nat} (h : n < 9223372036854775808) : IntKind.i64.wrap (n : Int) = n := by
  simp only [IntKind.wrap, IntKind.bits, IntKind.signed]; simp; omega
theorem bv_nat (a : Nat) : BitVec.ofInt IntKind.i64.bits (a : Int) = BitVec.ofNat 64 a := BitVec.ofInt_natCast ..
theorem iand_nat {a b : Nat} (ha : a < 9223372036854775808) (hb : b < 9223372036854775808) : iand .i64 a b = ((a &&& b : Nat) : Int) := by
  have h : a &&& b < 9223372036854775808 := Nat.lt_of_le_of_lt Nat.and_le_left ha
  unfold iand
  rw [bv_nat, bv_nat]
  have : (BitVec.ofNat 64 a &&& BitVec.ofNat 64 b).toNat = a &&& b := by
    rw [BitVec.toNat_and, BitVec.toNat_ofNat, BitVec.toNat_ofNat, Nat.mod_eq_of_lt (by omega), Nat.mod_eq_of_lt (by omega)]
  exact (congrArg (fun n : Nat => IntKind.i64.wrap (n : Int)) this).trans (wrap_nat h)
theorem ior_nat {a b : Nat} (ha : a < 9223372036854775808) (hb : b < 9223372036854775808) : ior .i64 a b = ((a ||| b : Nat) : Int) := by
  have h : a ||| b < 2 ^ 63 := Nat.or_lt_two_pow (n := 63) (by omega) (by omega)
  unfold ior
  rw [bv_nat, bv_nat]
  have : (BitVec.ofNat 64 a ||| BitVec.ofNat 64 b).toNat = a ||| b := by
    rw [BitVec.toNat_or, BitVec.toNat_ofNat, BitVec.toNat_ofNat, Nat.mod_eq_of_lt (by omega), Nat.mod_eq_of_lt (by omega)]
  exact (congrArg (fun n : Nat => IntKind.i64.wrap (n : Int)) this).trans (wrap_nat (by omega))
def diff (a b : Nat) : Nat := a ^^^ (a &&& b)
theorem iandn_nat {a b : Nat} (ha : a < 9223372036854775808) (hb : b < 9223372036854775808) : iandn .i64 a b = ((diff a b : Nat) : Int) := by
  have h0 : a &&& b < 2 ^ 63 := Nat.lt_of_le_of_lt Nat.and_le_left (by omega)
  have h : a ^^^ (a &&& b) < 2 ^ 63 := Nat.xor_lt_two_pow (n := 63) (by omega) h0
  unfold iandn
  rw [bv_nat, bv_nat]
  have hbv : BitVec.ofNat 64 a &&& ~~~ (BitVec.ofNat 64 b) = BitVec.ofNat 64 a ^^^ (BitVec.ofNat 64 a &&& BitVec.ofNat 64 b) := by
    apply BitVec.eq_of_getLsbD_eq; intro i hi; simp
    cases (BitVec.ofNat 64 a).getLsbD i <;> cases (BitVec.ofNat 64 b).getLsbD i <;> simp_all
  have : (BitVec.ofNat 64 a &&& ~~~ (BitVec.ofNat 64 b)).toNat = a ^^^ (a &&& b) := by
    rw [hbv, BitVec.toNat_xor, BitVec.toNat_and, BitVec.toNat_ofNat, BitVec.toNat_ofNat, Nat.mod_eq_of_lt (by omega), Nat.mod_eq_of_lt (by omega)]
  exact (congrArg (fun n : Nat => IntKind.i64.wrap (n : Int)) this).trans (wrap_nat (by omega))
theorem shl_nat {k : Nat} (hk : k ≤ 64) : (1 : Int) * 2 ^ (min (k : Int).toNat IntKind.i64.bits) = ((2 ^ k : Nat) : Int) := by
  have : min (k : Int).toNat IntKind.i64.bits = k := by simp only [Int.toNat_natCast, IntKind.bits]; omega
  rw [this]; simp
def natA (n : Nat) : AV := .int .i64 n
structure Dk where
  l : Ld
  hv : List Nat
  nd : List Nat
theorem bitsF_bound : ∀ (f i s k : Nat), s < 2 ^ k → ∀ x ∈ bitsF f i s, (i : Int) ≤ x ∧ x < (i + k : Nat)
  | 0, _, _, _, _, x, hx => by simp [bitsF] at hx
  | f + 1, i, s, k, hs, x, hx => by
    unfold bitsF at hx
    split at hx
    · simp at hx
    · rename_i h0
      cases k with
      | zero => simp at hs; omega
      | succ k =>
        have ih := bitsF_bound f (i + 1) (s / 2) k (by rw [Nat.pow_succ] at hs; omega)
        split at hx
        · rcases List.mem_cons.1 hx with rfl | hx
          · omega
          · have := ih x hx; omega
        · have := ih x hx; omega
def joinStep (b : List Nat) (p : Int × Int) : List Nat :=
  let all := b.getD p.1.toNat 0 ||| b.getD p.2.toNat 0
  b.mapIdx fun i x => if all / 2 ^ i % 2 = 1 then x ||| all else x
def hsK (H : List Blk) : List Bool → List Blk := fun _ => H
theorem joinStep_len (b : List Nat) (p : Int × Int) : (joinStep b p).length = b.length := by simp [joinStep]
theorem pow9 {n : Nat} (h : n ≤ 9) : 2 ^ n ≤ 512 ∧ 0 < 2 ^ n := ⟨Nat.pow_le_pow_right (n := 2) (by omega) h, Nat.two_pow_pos n⟩
def lowb (s : Nat) : Nat := diff s (s - 1)
def sumW : List Nat → Nat → Nat
  | [], _ => 0
  | w :: ws, s => (if s % 2 = 1 then w else 0) + sumW ws (s / 2)
def wt (l : Ld) (s : Sk) : Nat := (weightR l s).toNat
def wts (l : Ld) : List Nat := l.sacks.map (wt l)
def ndI (n : Nat) : List Nat := (List.range 9).map fun i => if i < n then 2 ^ i else 0
theorem sumW_zero : ∀ ws : List Nat, sumW ws 0 = 0
  | [] => rfl
  | w :: ws => by unfold sumW; rw [Nat.zero_div, sumW_zero ws]; rfl
theorem ndI_len (n : Nat) : (ndI n).length = 9 := by simp [ndI]
structure LdOk (l : Ld) : Prop where
  n : l.sacks.length ≤ 9
  na : l.apart.length ≤ 8
  nw : l.wth.length ≤ 8
  b1 : 1 ≤ l.bears
  b2 : l.bears ≤ 100
  s1 : 0 ≤ l.shrink
  s2 : l.shrink ≤ 90
  sk : ∀ s ∈ l.sacks, 1 ≤ s.m ∧ s.m ≤ 100 ∧ 0 ≤ s.o ∧ s.o ≤ 5
  ap : ∀ p ∈ l.apart, 0 ≤ p.1 ∧ p.1 < l.sacks.length ∧ 0 ≤ p.2 ∧ p.2 < l.sacks.length ∧ p.1 ≠ p.2
  wp : ∀ p ∈ l.wth, 0 ≤ p.1 ∧ p.1 < l.sacks.length ∧ 0 ≤ p.2 ∧ p.2 < l.sacks.length ∧ p.1 ≠ p.2
theorem wt_le {l : Ld} (o : LdOk l) {s : Sk} (hs : s ∈ l.sacks) : (wt l s : Int) = weightR l s ∧ 1 ≤ wt l s ∧ wt l s ≤ 100 := by
  have h := o.sk s hs
  have h1 := o.s1
  have h2 := o.s2
  have e : s.m * l.shrink ≤ s.m * 90 := Int.mul_le_mul_of_nonneg_left h2 (by omega)
  have e0 : 0 ≤ s.m * l.shrink := Int.mul_nonneg (by omega) h1
  unfold wt weightR
  omega
structure MOk (m : List (Int × Nat)) : Prop where
  z : look 0 m = some 0
  le : ∀ k v, look k m = some v → v ≤ 10
theorem diff_bit (a b i : Nat) : (diff a b).testBit i = (a.testBit i && !b.testBit i) := by
  unfold diff; simp only [Nat.testBit_xor, Nat.testBit_and]
  cases a.testBit i <;> cases b.testBit i <;> rfl
def Sub (a b : Nat) : Prop := ∀ i, a.testBit i = true → b.testBit i = true
theorem Sub.le {a b : Nat} (h : Sub a b) : a ≤ b := by
  have : a &&& b = a := by
    apply Nat.eq_of_testBit_eq; intro i; rw [Nat.testBit_and]
    cases e : a.testBit i
    · rfl
    · rw [h i e]; rfl
  rw [← this]; exact Nat.and_le_right
structure LS where
  left : Nat
  m : List (Int × Nat)
  out : List Nat
theorem MOk.zero : MOk [(0, 0)] := ⟨rfl, fun k v h => by simp only [look] at h; split at h <;> cases h; omega⟩
theorem Sub.zero (a : Nat) : Sub 0 a := fun i h => by rw [Nat.zero_testBit] at h; cases h
structure LdW (l : Ld) : Prop where
  w : l.nla = true → l.apart = []
  h1 : l.sacks.length ≤ 100000
  h2 : l.apart.length ≤ 1000
  h3 : l.wth.length ≤ 1000
abbrev bytes (xs : List Int) : List AV := xs.map (.int .u8)
theorem lowBy {n : Nat} (xs : List Int) : lowL n (bytes xs) = true := lowL_map (fun _ => rfl) xs
structure Hp where
  nl : Bool
  bs : List Int
  nx : Nat
  rd : Int
  deriving Inhabited
def hpC (h : Hp) : Blk := .cells [.sl h.nl (bytes h.bs), .int .i64 h.nx, .int .u32 h.rd]
structure Hp.Ok (h : Hp) : Prop where
  l : h.bs.length < 9223372036854775808
  n : h.nx < h.bs.length ∨ h.nx = 0
def hpN (h : Hp) : Int := IntKind.u32.wrap (40503 * IntKind.u32.wrap (h.rd + 1))
def hpM (h : Hp) : Int := if h.nx < h.bs.length then IntKind.u32.wrap (hpN h + IntKind.u32.wrap (331 * IntKind.u32.wrap (h.bs.getD h.nx default))) else hpN h
def hpV' (n : Int) : Int := iand .u32 (ixor .u32 n (n.fdiv (2 ^ (min (9 : Int).toNat IntKind.u32.bits)))) 32767
def hpV (h : Hp) : Int := hpV' (hpM h)
def hpS (h : Hp) : Hp := if h.bs.length ≤ h.nx + 1 then ⟨h.nl, h.bs, 0, IntKind.u32.wrap (h.rd + 1)⟩ else ⟨h.nl, h.bs, h.nx + 1, h.rd⟩
theorem hpV_bound (n : Int) : 0 ≤ hpV' n ∧ hpV' n ≤ 32767 := by
  unfold hpV' iand
  have h1 : (BitVec.ofInt IntKind.u32.bits (ixor .u32 n (n.fdiv (2 ^ (min (9 : Int).toNat IntKind.u32.bits)))) &&& BitVec.ofInt IntKind.u32.bits 32767).toNat ≤ 32767 := by
    rw [BitVec.toNat_and]
    exact Nat.le_trans Nat.and_le_right (by decide)
  generalize (BitVec.ofInt IntKind.u32.bits (ixor .u32 n (n.fdiv (2 ^ (min (9 : Int).toNat IntKind.u32.bits)))) &&& BitVec.ofInt IntKind.u32.bits 32767).toNat = m at h1 ⊢
  simp only [IntKind.wrap, IntKind.bits, IntKind.signed]
  constructor <;> simp <;> omega
theorem hpS_ok {h : Hp} (o : h.Ok) : (hpS h).Ok := by
  unfold hpS; split
  · exact ⟨o.l, .inr rfl⟩
  · exact ⟨o.l, .inl (by dsimp only; omega)⟩
theorem hpC_low {n : Nat} (h : Hp) : (hpC h).low n = true := by simp only [hpC, Blk.low, lowL, AV.low, lowBy]; rfl
theorem hpC_ren (f : Nat → Nat) (h : Hp) : (hpC h).ren f = hpC h := Blk.ren_low (n := 0) (fun i hi => by omega) (hpC_low h)

theorem XInt.w {q : IntKind} {x : Int} {k : AV → Prop} (h : k (.int q (q.wrap x))) : XInt q x k := ⟨h⟩

def HpOk (f : FuncId) (qs : List AV) (h : Hp) (r : AV) (h' : Hp) : Prop :=
  lowL 0 qs = true ∧ ACall Tryz.prog f (.ptr 0 0 :: qs) [hpC h] fun r' H' => r' = r ∧ H' = [hpC h']
theorem XCall.hp {f : FuncId} {qs : List AV} {h h' : Hp} {r : AV} (x : HpOk f qs h r h') (hr : r.low 0 = true) {H : List Blk} {k : AV → List Blk → Prop} {j : Nat} (h0 : lget H j = some (hpC h))
    (hk : k r (H.set j (hpC h'))) : XCall Tryz.prog f (.ptr j 0 :: qs) H k := by
  constructor
  have e := ACall.frame (ρ := fun i => j + i) (H := H) (k := k) x.2 (fun a b _ _ h => by have : j + a = j + b := h; omega) ?_ (fun y hy => by simp at hy; subst hy; exact hpC_low h) ?_ ?_
  · have hd : renL (fun i => j + i) qs = qs := renL_low0 x.1
    rw [List.map_cons, ← renL_eq, hd] at e
    exact e
  · intro i x1 hi
    rw [lget_eq] at h0
    rcases i with _ | i
    · simp only [List.getElem?_cons_zero, Option.some.injEq] at hi; subst hi
      rw [hpC_ren]; exact h0
    · simp at hi
  · simp only [lowL, AV.low, lowL_mono (Nat.zero_le _) x.1]; rfl
  · rintro r1 H1' ⟨rfl, rfl⟩
    rw [lget_eq] at h0
    have hj := (List.getElem?_eq_some_iff.1 h0).1
    refine ⟨rfl, H.set j (hpC h'), by simp, fun i x1 hi => ?_, fun q hq => ?_, ?_⟩
    · rcases i with _ | i
      · simp only [List.getElem?_cons_zero, Option.some.injEq] at hi; subst hi
        rw [hpC_ren]; simp [hj]
      · simp at hi
    · exact List.getElem?_set_ne (by have := hq 0 (by simp); simpa using this)
    · rw [AV.ren_low (n := 0) (fun i hi => by omega) hr]; exact hk

theorem hpM_lt {u : Hp} (h : (u.nx : Int) < u.bs.length) : hpM u = IntKind.u32.wrap (hpN u + IntKind.u32.wrap (331 * IntKind.u32.wrap (u.bs.getD u.nx default))) := if_pos (by omega)
theorem hpM_ge {u : Hp} (h : ¬ (u.nx : Int) < u.bs.length) : hpM u = hpN u := if_neg (by omega)
theorem hpS_end {u : Hp} (h : (u.bs.length : Int) ≤ u.nx + 1) : [hpC (hpS u)] = [Blk.cells [AV.sl u.nl (bytes u.bs), AV.int IntKind.i64 0, AV.int IntKind.u32 (IntKind.u32.wrap (u.rd + 1))]] := by
  unfold hpS; rw [if_pos (by omega)]; rfl
theorem hpS_on {u : Hp} (h : ¬ (u.bs.length : Int) ≤ u.nx + 1) : [hpC (hpS u)] = [Blk.cells [AV.sl u.nl (bytes u.bs), AV.int IntKind.i64 (u.nx + 1), AV.int IntKind.u32 u.rd]] := by
  unfold hpS; rw [if_neg (by omega)]; rfl
theorem i64_small {n : Int} (h1 : 0 ≤ n) (h2 : n ≤ 32767) : IntKind.i64.wrap n = n := by
  simp only [IntKind.wrap, IntKind.bits, IntKind.signed]; simp; omega
theorem pick_end {u : Hp} {n : Int} {H1 : List Blk} (hn : hpM u = n) (hS : [hpC (hpS u)] = H1) : XCut [hpC u].length [] H1 (.int .i64 (IntKind.i64.wrap (hpV' n))) fun r' H' => r' = .int .i64 (hpV u) ∧ H' = [hpC (hpS u)] := by
  subst hn; subst hS
  obtain ⟨h1, h2⟩ := hpV_bound (hpM u)
  rw [i64_small h1 h2]
  exact XCut.mk' [hpC (hpS u)] [] rfl rfl (fun x hx => by simp only [List.mem_cons, List.not_mem_nil, or_false] at hx; subst hx; exact hpC_low _) rfl ⟨rfl, rfl⟩
theorem pick_c (u : Hp) (o : u.Ok) : HpOk 68 [] u (.int .i64 (hpV u)) (hpS u) := by
  have hl := o.l
  have hn := o.n
  refine ⟨rfl, ?_⟩
  refine ACall.bodyK (T := tab) (res := [.tmp 2]) tab_ok [] Tryz.func68 rfl (by kernel_rfl) Tryz.ntmps68 rfl (by simp only [List.length_cons, List.length_nil]; decide) ?_; conv => whnf
  repeat' ((refine XInt.w ?_); conv => whnf)
  apply Walk.drawX tab_ok mixed_ok [] [] (hsK _) [_, _, _, _, _, _, _, _, _, _] (by kernel_rfl) rfl
  · skip
    repeat' first | ((with_reducible first | apply Chk.go | apply ChkA.go); conv => whnf) | (with_reducible first | apply XAnd.mk | exact trivial) | (exact XSame.mk rfl rfl) | fail
  · skip
    repeat' first | ((with_reducible first | apply ChkF.go | apply ChkB.go); conv => whnf) | (with_reducible first | apply XAnd.mk | exact trivial) | fail
  · conv => whnf
    repeat' first | ((with_reducible refine XInt.a ?_); conv => whnf) | ((with_reducible apply XBr.dec) <;> (intro h; first | (exfalso; omega) | ((try simp only [List.length_map] at h); first | (exfalso; omega) | (conv => whnf)))) | fail
    · apply Walk.drawX tab_ok mixed_ok [] [] (hsK _) [_, _, _, _, _, _, _, _, _, _, _, _, _, _, _] (by kernel_rfl) rfl
      · skip
        repeat' first | ((with_reducible first | apply Chk.go | apply ChkA.go); conv => whnf) | (refine XIx.a ?_; conv => whnf) | (with_reducible first | apply XAnd.mk | exact trivial) | (exact XSame.mk rfl rfl) | ((refine XInt.w ?_); conv => whnf) | fail
      · skip
        repeat' first | ((with_reducible first | apply ChkF.go | apply ChkB.go); conv => whnf) | (with_reducible first | apply XAnd.mk | exact trivial) | fail
      · conv => whnf
        repeat' ((with_reducible refine XInt.a ?_); conv => whnf)
        apply Walk.drawX tab_ok mixed_ok [] [] (hsK _) [_, _, _, _, _, _, _, _, _, _] (by kernel_rfl) rfl
        · skip
          repeat' first | ((with_reducible first | apply Chk.go | apply ChkA.go); conv => whnf) | (with_reducible first | apply XAnd.mk | exact trivial) | (exact XSame.mk rfl rfl) | fail
        · skip
          repeat' first | ((with_reducible first | apply ChkF.go | apply ChkB.go); conv => whnf) | (with_reducible first | apply XAnd.mk | exact trivial) | fail
        · conv => whnf
          repeat' first | ((with_reducible apply XBr.dec) <;> (intro h; first | (exfalso; omega) | ((try simp only [List.length_map] at h); first | (exfalso; omega) | (conv => whnf)))) | ((with_reducible refine XHold.mk ?_ ?_); (first | omega | rfl | decide | exact ⟨rfl, by decide, rfl⟩ | exact wideI _ | exact widePr _ | exact wideSk _ | (unfold Room; constructor <;> ((try simp) <;> omega)) | exact ⟨rfl, by simp only [List.length_map], by unfold Room; constructor <;> ((try simp) <;> omega)⟩ | exact ⟨by omega, by omega, by unfold Room; constructor <;> ((try simp) <;> omega)⟩); conv => whnf) | ((refine XInt.w ?_); conv => whnf) | fail
          · exact pick_end (hpM_lt (by assumption)) (hpS_end h)
          · exact pick_end (hpM_lt (by assumption)) (hpS_on h)
    · skip
      apply Walk.drawX tab_ok mixed_ok [] [] (hsK _) [_, _, _, _, _, _, _, _, _, _] (by kernel_rfl) rfl
      · skip
        repeat' first | ((with_reducible first | apply Chk.go | apply ChkA.go); conv => whnf) | (with_reducible first | apply XAnd.mk | exact trivial) | (exact XSame.mk rfl rfl) | fail
      · skip
        repeat' first | ((with_reducible first | apply ChkF.go | apply ChkB.go); conv => whnf) | (with_reducible first | apply XAnd.mk | exact trivial) | fail
      · conv => whnf
        repeat' first | ((with_reducible apply XBr.dec) <;> (intro h; first | (exfalso; omega) | ((try simp only [List.length_map] at h); first | (exfalso; omega) | (conv => whnf)))) | ((with_reducible refine XHold.mk ?_ ?_); (first | omega | rfl | decide | exact ⟨rfl, by decide, rfl⟩ | exact wideI _ | exact widePr _ | exact wideSk _ | (unfold Room; constructor <;> ((try simp) <;> omega)) | exact ⟨rfl, by simp only [List.length_map], by unfold Room; constructor <;> ((try simp) <;> omega)⟩ | exact ⟨by omega, by omega, by unfold Room; constructor <;> ((try simp) <;> omega)⟩); conv => whnf) | ((refine XInt.w ?_); conv => whnf) | fail
        · exact pick_end (hpM_ge (by assumption)) (hpS_end h)

def modV (h : Hp) (n : Int) : Int := (hpV h).tmod (max 1 (n + 1))
theorem modV_bound (h : Hp) (n : Int) : 0 ≤ modV h n ∧ modV h n ≤ max 0 n := by
  have hb := hpV_bound (hpM h)
  have h1 : 0 ≤ hpV h := hb.1
  unfold modV
  rw [Int.tmod_eq_emod_of_nonneg h1]
  have h2 := Int.emod_nonneg (hpV h) (show max 1 (n + 1) ≠ 0 by omega)
  have h3 := Int.emod_lt_of_pos (hpV h) (show 0 < max 1 (n + 1) by omega)
  omega
theorem hp_end {u u' : Hp} {r : AV} (hr : r.low 1 = true) : XCut [hpC u].length [] [hpC u'] r fun r' H' => r' = r ∧ H' = [hpC u'] :=
  XCut.mk' [hpC u'] [] rfl rfl (fun x hx => by simp only [List.mem_cons, List.not_mem_nil, or_false] at hx; subst hx; exact hpC_low _) hr ⟨rfl, rfl⟩
theorem upto_c (u : Hp) (n : Int) (o : u.Ok) (h1 : -100000 ≤ n) (h2 : n ≤ 100000) : HpOk 17 [.int .i64 n] u (.int .i64 (modV u n)) (hpS u) := by
  refine ⟨rfl, ?_⟩
  refine ACall.bodyK (T := tab) (res := [.tmp 4]) tab_ok [] Tryz.func17 rfl (by kernel_rfl) Tryz.ntmps17 rfl (by simp only [List.length_cons, List.length_nil]; decide) ?_; conv => whnf
  refine XCall.hp (j := 0) (pick_c u o) rfl rfl ?_
  conv => whnf
  repeat' first | ((with_reducible refine XInt.a ?_); conv => whnf) | ((with_reducible refine XHold.mk ?_ ?_); (first | omega | rfl | decide | exact ⟨rfl, by decide, rfl⟩ | exact wideI _ | exact widePr _ | exact wideSk _ | (unfold Room; constructor <;> ((try simp) <;> omega)) | exact ⟨rfl, by simp only [List.length_map], by unfold Room; constructor <;> ((try simp) <;> omega)⟩ | exact ⟨by omega, by omega, by unfold Room; constructor <;> ((try simp) <;> omega)⟩); conv => whnf) | fail
  exact hp_end rfl
theorem from_c (u : Hp) (lo hi : Int) (o : u.Ok) (h1 : -10000 ≤ lo) (h2 : lo ≤ 10000) (h3 : -10000 ≤ hi) (h4 : hi ≤ 10000) : HpOk 18 [.int .i64 lo, .int .i64 hi] u (.int .i64 (lo + modV u (hi - lo))) (hpS u) := by
  have hb := modV_bound u (hi - lo)
  refine ⟨rfl, ?_⟩
  refine ACall.bodyK (T := tab) (res := [.tmp 6]) tab_ok [] Tryz.func18 rfl (by kernel_rfl) Tryz.ntmps18 rfl (by simp only [List.length_cons, List.length_nil]; decide) ?_; conv => whnf
  repeat' first | ((first | (with_reducible refine XInt.a ?_) | (refine XCall.hp (j := 0) (upto_c u (hi - lo) o (by omega) (by omega)) rfl rfl ?_)); conv => whnf) | fail
  exact hp_end rfl
theorem once_c (u : Hp) (n : Int) (o : u.Ok) (h1 : -10000 ≤ n) (h2 : n ≤ 10000) : HpOk 19 [.int .i64 n] u (.bool (modV u (n - 1) == 0)) (hpS u) := by
  have hb := modV_bound u (n - 1)
  refine ⟨rfl, ?_⟩
  refine ACall.bodyK (T := tab) (res := [.tmp 4]) tab_ok [] Tryz.func19 rfl (by kernel_rfl) Tryz.ntmps19 rfl (by simp only [List.length_cons, List.length_nil]; decide) ?_; conv => whnf
  repeat' first | ((first | (with_reducible refine XInt.a ?_) | (refine XCall.hp (j := 0) (upto_c u (n - 1) o (by omega) (by omega)) rfl rfl ?_)); conv => whnf) | fail
  exact hp_end rfl
structure Prs where
  ap : List (Int × Int)
  wt : List (Int × Int)
  u : Hp
theorem isEmpty_app {α : Type} (l : List α) (x : α) : (l ++ [x]).isEmpty = (l.isEmpty && false) := by cases l <;> rfl
def hp0 (nl : Bool) (bs : List Int) : Hp := ⟨nl, bs, 0, 0⟩
theorem hp0_ok {nl : Bool} {bs : List Int} (h : bs.length < 9223372036854775808) : (hp0 nl bs).Ok := ⟨h, .inr rfl⟩
def Fle (a b : Int × Int) : Prop := a.1 * b.2 ≤ b.1 * a.2
theorem Fle.refl (a : Int × Int) : Fle a a := Int.le_refl _
theorem Fle.trans {a b c : Int × Int} (h1 : Fle a b) (h2 : Fle b c) (ha : 0 ≤ a.2) (hb : 0 < b.2) (hc : 0 ≤ c.2) : Fle a c := by
  unfold Fle at *
  have e1 : a.1 * b.2 * c.2 ≤ b.1 * a.2 * c.2 := Int.mul_le_mul_of_nonneg_right h1 hc
  have e2 : b.1 * c.2 * a.2 ≤ c.1 * b.2 * a.2 := Int.mul_le_mul_of_nonneg_right h2 ha
  have e3 : a.1 * c.2 * b.2 ≤ c.1 * a.2 * b.2 := by
    calc a.1 * c.2 * b.2 = a.1 * b.2 * c.2 := by rw [Int.mul_right_comm]
      _ ≤ b.1 * a.2 * c.2 := e1
      _ = b.1 * c.2 * a.2 := by rw [Int.mul_right_comm]
      _ ≤ c.1 * b.2 * a.2 := e2
      _ = c.1 * a.2 * b.2 := by rw [Int.mul_right_comm]
  exact Int.le_of_mul_le_mul_right e3 hb
def nxQ (parts s : List Int) (i : Nat) : Int × Int := (parts.getD i 0, 2 * s.getD i 0 + 1)
def lsQ (parts s : List Int) (i : Nat) : Int × Int := (parts.getD i 0, 2 * s.getD i 0 - 1)
def Web (parts s : List Int) : Prop := ∀ i j, i < 6 → j < 6 → 0 < s.getD i 0 → Fle (nxQ parts s j) (lsQ parts s i)

theorem Web.none {parts s : List Int} (h : Web parts s) (hs : ∀ i, 0 ≤ s.getD i 0) (hp : ∀ i, 0 ≤ parts.getD i 0) (hg : ∃ j, j < 6 ∧ 0 < parts.getD j 0) {i : Nat} (hi : i < 6) (h0 : parts.getD i 0 = 0) : s.getD i 0 = 0 := by
  obtain ⟨j, hj, hw⟩ := hg
  rcases Int.lt_or_le 0 (s.getD i 0) with h1 | h1
  · exfalso
    have h2 := h i j hi hj h1
    unfold Fle nxQ lsQ at h2; simp only at h2
    rw [h0, Int.zero_mul] at h2
    have := Int.mul_pos hw (show 0 < 2 * s.getD i 0 - 1 by omega)
    omega
  · have := hs i; omega
theorem bit_ext {a b : Nat} (h : ∀ i, a.testBit i = b.testBit i) : a = b := Nat.eq_of_testBit_eq h
theorem Sub.refl (a : Nat) : Sub a a := fun _ h => h
theorem Sub.trans {a b c : Nat} (h : Sub a b) (k : Sub b c) : Sub a c := fun i x => k i (h i x)
theorem sub_half {a m : Nat} (h : Sub a m) : Sub (a / 2) (m / 2) := fun i x => by
  have := h (i + 1) (by rw [Nat.testBit_succ]; exact x)
  rwa [Nat.testBit_succ] at this
theorem sub_odd {a m : Nat} (h : Sub a m) : a % 2 ≤ m % 2 := by
  have := h 0
  simp only [Nat.testBit_zero, decide_eq_true_eq] at this
  omega
theorem sub_diff (s c : Nat) : Sub (diff s c) s := fun i h => by rw [diff_bit, Bool.and_eq_true] at h; exact h.1
theorem sub_pow {i c : Nat} : Sub (2 ^ i) c ↔ c.testBit i = true := by
  constructor
  · intro h; exact h i (by rw [Nat.testBit_two_pow_self])
  · intro h j hj; rw [Nat.testBit_two_pow, decide_eq_true_eq] at hj; subst hj; exact h
inductive Pk (R : Nat → Bool) : Nat → Nat → Prop
  | nil : Pk R 0 0
  | cons {n set : Nat} (c : Nat) (hr : R c = true) (hs : Sub c set) (h0 : c ≠ 0) (t : Pk R n (diff set c)) : Pk R (n + 1) set
theorem diff_diff (s a b : Nat) : diff (diff s a) b = diff (diff s b) a := bit_ext fun i => by
  simp only [diff_bit]; cases s.testBit i <;> cases a.testBit i <;> cases b.testBit i <;> rfl
theorem ne_zero_bit {c i : Nat} (h : c.testBit i = true) : c ≠ 0 := fun e => by rw [e, Nat.zero_testBit] at h; cases h
theorem Pk.first {R : Nat → Bool} {n set i : Nat} (h : Pk R n set) (hi : set.testBit i = true) : ∃ c k, n = k + 1 ∧ R c = true ∧ Sub c set ∧ c.testBit i = true ∧ Pk R k (diff set c) := by
  induction h with
  | nil => rw [Nat.zero_testBit] at hi; cases hi
  | @cons n set c hr hs h0 t ih =>
    cases hc : c.testBit i
    · obtain ⟨c', k, h1, h2, h3, h4, h5⟩ := ih (by rw [diff_bit, hi, hc]; rfl)
      subst h1
      refine ⟨c', k + 1, rfl, h2, h3.trans (sub_diff _ _), h4, .cons c hr (fun j hj => ?_) h0 (by rw [diff_diff]; exact h5)⟩
      rw [diff_bit, hs j hj]
      cases hc' : c'.testBit j
      · rfl
      · have := h3 j hc'; rw [diff_bit, hj, Bool.not_true, Bool.and_false] at this; cases this
    · exact ⟨c, n, rfl, hr, hs, hc, t⟩
theorem Pk.zero {R : Nat → Bool} {n : Nat} (h : Pk R n 0) : n = 0 := by
  cases h with
  | nil => rfl
  | cons c hr hs h0 t => exact absurd (Nat.le_zero.1 hs.le) h0
theorem Pk.none {R : Nat → Bool} {set : Nat} (h : Pk R 0 set) : set = 0 := by cases h; rfl
structure IsOpt (R : Nat → Bool) (set v : Nat) : Prop where
  le : v ≤ 10
  lo : ∀ n, Pk R n set → v ≤ n
  is : v < 10 → Pk R v set
def allP (b : List Nat) (p : Int × Int) : Nat := b.getD p.1.toNat 0 ||| b.getD p.2.toNat 0
theorem joinStep_get (b : List Nat) (p : Int × Int) {i : Nat} (hi : i < b.length) : (joinStep b p).getD i 0 = if (allP b p).testBit i = true then b.getD i 0 ||| allP b p else b.getD i 0 := by
  have e : (allP b p).testBit i = decide ((b.getD p.1.toNat 0 ||| b.getD p.2.toNat 0) / 2 ^ i % 2 = 1) := Nat.testBit_eq_decide_div_mod_eq
  rw [e]
  unfold joinStep allP
  simp only [List.getD_eq_getElem?_getD, List.getElem?_mapIdx, List.getElem?_eq_getElem hi, Option.map_some, Option.getD_some, decide_eq_true_eq]
theorem joinStep_none (b : List Nat) (p : Int × Int) {i : Nat} (hi : ¬ i < b.length) : (joinStep b p).getD i 0 = 0 := by
  rw [List.getD_eq_getElem?_getD, List.getElem?_eq_none (by rw [joinStep_len]; omega)]; rfl
def Cl (l : Ld) (c : Nat) : Prop := ∀ p ∈ l.wth, c.testBit p.1.toNat = c.testBit p.2.toNat
def Inv (c : Nat) (b : List Nat) : Prop := ∀ i, (c.testBit i = true → Sub (b.getD i 0) c) ∧ (c.testBit i = false → ∀ j, (b.getD i 0).testBit j = true → c.testBit j = false)
theorem Inv.step {c : Nat} {b : List Nat} {p : Int × Int} (h : Inv c b) (hp : c.testBit p.1.toNat = c.testBit p.2.toNat) : Inv c (joinStep b p) := by
  intro i
  by_cases hi : i < b.length
  · rw [joinStep_get b p hi]
    split
    · rename_i ha
      unfold allP at ha ⊢
      cases h1 : c.testBit p.1.toNat
      · have k1 := (h p.1.toNat).2 h1
        have k2 := (h p.2.toNat).2 (hp ▸ h1)
        have hci : c.testBit i = false := by
          rw [Nat.testBit_or, Bool.or_eq_true] at ha
          exact ha.elim (k1 i) (k2 i)
        refine ⟨fun e => (by rw [hci] at e; cases e), fun _ j hj => ?_⟩
        rw [Nat.testBit_or, Nat.testBit_or, Bool.or_eq_true, Bool.or_eq_true] at hj
        rcases hj with hj | hj | hj
        · exact (h i).2 hci j hj
        · exact k1 j hj
        · exact k2 j hj
      · have k1 := (h p.1.toNat).1 h1
        have k2 := (h p.2.toNat).1 (hp ▸ h1)
        have hci : c.testBit i = true := by
          rw [Nat.testBit_or, Bool.or_eq_true] at ha
          exact ha.elim (k1 i) (k2 i)
        refine ⟨fun _ j hj => ?_, fun e => (by rw [hci] at e; cases e)⟩
        rw [Nat.testBit_or, Nat.testBit_or, Bool.or_eq_true, Bool.or_eq_true] at hj
        rcases hj with hj | hj | hj
        · exact (h i).1 hci j hj
        · exact k1 j hj
        · exact k2 j hj
    · exact h i
  · rw [joinStep_none b p hi]
    exact ⟨fun _ => Sub.zero _, fun _ j hj => by rw [Nat.zero_testBit] at hj; cases hj⟩
theorem ndI_get {n i : Nat} (hi : i < 9) : (ndI n).getD i 0 = if i < n then 2 ^ i else 0 := by
  unfold ndI; rw [List.getD_eq_getElem?_getD, List.getElem?_map, List.getElem?_range hi]; rfl
theorem Inv.zero (c n : Nat) : Inv c (ndI n) := by
  intro i
  by_cases hi : i < 9
  · rw [ndI_get hi]
    split
    · refine ⟨fun h => sub_pow.2 h, fun h j hj => ?_⟩
      rw [Nat.testBit_two_pow, decide_eq_true_eq] at hj; subst hj; exact h
    · exact ⟨fun _ => Sub.zero _, fun _ j hj => by rw [Nat.zero_testBit] at hj; cases hj⟩
  · rw [List.getD_eq_getElem?_getD, List.getElem?_eq_none (by rw [ndI_len]; omega)]
    exact ⟨fun _ => Sub.zero _, fun _ j hj => by rw [Option.getD_none, Nat.zero_testBit] at hj; cases hj⟩
structure RightP (l : Ld) (c : Nat) : Prop where
  w : (sumW (wts l) c : Int) ≤ l.bears
  wp : Cl l c
  ap : ∀ p ∈ l.apart, ¬ (c.testBit p.1.toNat = true ∧ c.testBit p.2.toNat = true)
theorem diff_half (a b : Nat) : diff a b / 2 = diff (a / 2) (b / 2) := bit_ext fun i => by
  rw [← Nat.testBit_succ, diff_bit, diff_bit, Nat.testBit_succ, Nat.testBit_succ]
theorem diff_odd {a b : Nat} (h : Sub b a) : diff a b % 2 + b % 2 = a % 2 := by
  have e := diff_bit a b 0
  have hs := sub_odd h
  simp only [Nat.testBit_zero] at e
  rcases Nat.mod_two_eq_zero_or_one a with ha | ha <;> rcases Nat.mod_two_eq_zero_or_one b with hb | hb <;> rcases Nat.mod_two_eq_zero_or_one (diff a b) with hc | hc <;> simp [ha, hb, hc] at e hs ⊢
theorem sumW_split : ∀ (ws : List Nat) (s c : Nat), Sub c s → sumW ws (diff s c) + sumW ws c = sumW ws s
  | [], _, _, _ => rfl
  | w :: ws, s, c, h => by
    have ih := sumW_split ws (s / 2) (c / 2) (sub_half h)
    have ho := diff_odd h
    unfold sumW
    rw [diff_half]
    rcases Nat.mod_two_eq_zero_or_one s with ha | ha <;> rcases Nat.mod_two_eq_zero_or_one c with hb | hb <;> rcases Nat.mod_two_eq_zero_or_one (diff s c) with hc | hc <;> simp only [ha, hb, hc] at ho ⊢ <;> simp <;> omega
theorem sumW_le_of : ∀ (ws vs : List Nat) (s : Nat), ws.length = vs.length → (∀ i, ws.getD i 0 ≤ vs.getD i 0) → sumW ws s ≤ sumW vs s
  | [], [], _, _, _ => Nat.le_refl _
  | w :: ws, v :: vs, s, hl, h => by
    have h0 := h 0
    have := sumW_le_of ws vs (s / 2) (by simpa using hl) (fun i => by simpa using h (i + 1))
    simp only [List.getD_cons_zero] at h0
    unfold sumW; split <;> omega
  | [], _ :: _, _, hl, _ => by simp at hl
  | _ :: _, [], _, hl, _ => by simp at hl
theorem Pk.sum {R : Nat → Bool} {n set : Nat} (h : Pk R n set) (ws : List Nat) (k : Nat) (hR : ∀ c, Sub c set → R c = true → sumW ws c ≤ k) : sumW ws set ≤ n * k := by
  induction h with
  | nil => rw [sumW_zero]; exact Nat.zero_le _
  | @cons n set c hr hs h0 t ih =>
    have h1 := ih fun c' hc' => hR c' (hc'.trans (sub_diff _ _))
    have h2 := hR c hs hr
    have h3 := sumW_split ws set c hs
    rw [Nat.succ_mul]; omega
theorem wshrink {m s s' : Int} (h0 : 0 ≤ m) (h : s ≤ s') : m - m * s' / 100 ≤ m - m * s / 100 := by
  have h1 : m * s ≤ m * s' := Int.mul_le_mul_of_nonneg_left h h0
  have := Int.ediv_le_ediv (show (0 : Int) < 100 by decide) h1
  omega
theorem RightP.bears {l : Ld} {b : Int} (hb : l.bears ≤ b) {c : Nat} (h : RightP l c) : RightP { l with bears := b } c :=
  ⟨by have := h.w; show (sumW (wts l) c : Int) ≤ b; omega, h.wp, h.ap⟩
theorem RightP.shrink {l : Ld} (o : LdOk l) {s : Int} (hs : l.shrink ≤ s) {c : Nat} (h : RightP l c) : RightP { l with shrink := s } c :=
  ⟨by
    have h1 := h.w
    have h2 := sumW_le_of (wts { l with shrink := s }) (wts l) c (by simp [wts]) (fun i => by
      simp only [wts, List.getD_eq_getElem?_getD, List.getElem?_map]
      cases e : l.sacks[i]? with
      | none => simp
      | some x =>
        simp only [Option.map_some, Option.getD_some]
        have hx := o.sk x (List.mem_of_getElem? e)
        unfold wt weightR
        have := wshrink (m := x.m) (by omega) hs
        dsimp only; omega)
    show (sumW (wts { l with shrink := s }) c : Int) ≤ l.bears
    omega, h.wp, h.ap⟩
theorem bits_sum (ps : List Int) (h0 : ∀ x ∈ ps, 0 ≤ x) : ∀ (f i s : Nat), s < 2 ^ f → ((bitsF f i s).map fun x => ps.getD x.toNat 0).sum = (sumW ((ps.drop i).map Int.toNat) s : Int)
  | 0, i, s, h => by
    have : s = 0 := by simpa using h
    subst this
    rw [sumW_zero]; rfl
  | f + 1, i, s, h => by
    have ih := bits_sum ps h0 f (i + 1) (s / 2) (by rw [Nat.pow_succ] at h; omega)
    have e : bitsF (f + 1) i s = if s = 0 then [] else if s % 2 = 1 then (i : Int) :: bitsF f (i + 1) (s / 2) else bitsF f (i + 1) (s / 2) := rfl
    rw [e]
    by_cases hs : s = 0
    · subst hs; rw [if_pos rfl, sumW_zero]; rfl
    · rw [if_neg hs]
      by_cases hi : i < ps.length
      · have hd : ps.drop i = ps.getD i 0 :: ps.drop (i + 1) := by
          rw [List.drop_eq_getElem_cons hi, List.getD_eq_getElem?_getD, List.getElem?_eq_getElem hi]; rfl
        have hp : 0 ≤ ps.getD i 0 := h0 _ (getD_mem hi)
        rw [hd, List.map_cons]
        unfold sumW
        by_cases ho : s % 2 = 1
        · rw [if_pos ho, if_pos ho, List.map_cons, List.sum_cons, ih]
          have : (i : Int).toNat = i := rfl
          rw [this]; omega
        · rw [if_neg ho, if_neg ho, ih]; omega
      · have hd : ps.drop i = [] := List.drop_eq_nil_of_le (by omega)
        have hd2 : ps.drop (i + 1) = [] := List.drop_eq_nil_of_le (by omega)
        have hg : ps.getD i 0 = 0 := by rw [List.getD_eq_getElem?_getD, List.getElem?_eq_none (by omega)]; rfl
        rw [hd2] at ih
        have z : ∀ k, sumW (([] : List Int).map Int.toNat) k = 0 := fun k => rfl
        rw [z] at ih
        rw [hd, z]
        by_cases ho : s % 2 = 1
        · rw [if_pos ho, List.map_cons, List.sum_cons, ih]
          have : (i : Int).toNat = i := rfl
          rw [this, hg]; rfl
        · rw [if_neg ho, ih]
structure PR where
  u : Int
  ps : List Int
structure PR.Ok (n : Nat) (r : PR) : Prop where
  u1 : 1 ≤ r.u
  u2 : r.u ≤ 12
  n : r.ps.length = n
  ps : ∀ x ∈ r.ps, 0 ≤ x ∧ x ≤ 12
def wsL (l : Ld) : List Int := l.sacks.map (weightR l)
def e0 (l : Ld) : AV := .agg [.int .i64 l.bears, .sl (wsL l).isEmpty (ints (wsL l))]
inductive BS where
  | a (v : Hp)
  | b (v : Hp) (r : PR)
  | c (v : Hp) (r s : PR)
  | d (v : Hp) (r s t : PR)
def BS.Ok (n : Nat) : BS → Prop
  | .a v => v.Ok
  | .b v r => v.Ok ∧ r.Ok n
  | .c v r s => v.Ok ∧ r.Ok n ∧ s.Ok n
  | .d v r s t => v.Ok ∧ r.Ok n ∧ s.Ok n ∧ t.Ok n
def BS.k : BS → Nat
  | .a _ => 0
  | .b _ _ => 1
  | .c _ _ _ => 2
  | .d _ _ _ _ => 3
def setN : List Bool → Nat
  | [] => 0
  | b :: bs => 2 * setN bs + b.toNat
theorem setN_bit : ∀ (bs : List Bool) (k : Nat), (setN bs).testBit k = bs.getD k false
  | [], k => by simp [setN]
  | b :: bs, 0 => by
    unfold setN; rw [Nat.testBit_zero]; cases b <;> simp <;> omega
  | b :: bs, k + 1 => by
    unfold setN; rw [Nat.testBit_succ, show (2 * setN bs + b.toNat) / 2 = setN bs by cases b <;> simp <;> omega, setN_bit bs k]; rfl
def boolN (n s : Nat) : List Bool := (List.range n).map fun k => s.testBit k
theorem boolN_len (n s : Nat) : (boolN n s).length = n := by simp [boolN]
theorem boolN_get {n s k : Nat} (hk : k < n) : (boolN n s).getD k false = s.testBit k := by
  unfold boolN; rw [List.getD_eq_getElem?_getD, List.getElem?_map, List.getElem?_range hk]; rfl
def lsK (bs : List Bool) (k : Nat) : List Int := ((List.range k).filter fun j => bs.getD j false).map fun j : Nat => (j : Int)
def lsN (bs : List Bool) : List Int := lsK bs bs.length
theorem bitsF_ls : ∀ (f i s : Nat), s < 2 ^ f → bitsF f i s = ((List.range f).filter fun j => s.testBit j).map fun j => ((i + j : Nat) : Int)
  | 0, i, s, h => rfl
  | f + 1, i, s, h => by
    have ih := bitsF_ls f (i + 1) (s / 2) (by rw [Nat.pow_succ] at h; omega)
    have e : bitsF (f + 1) i s = if s = 0 then [] else if s % 2 = 1 then (i : Int) :: bitsF f (i + 1) (s / 2) else bitsF f (i + 1) (s / 2) := rfl
    have e2 : ((List.range (f + 1)).filter fun j => s.testBit j).map (fun j => ((i + j : Nat) : Int)) = (if s % 2 = 1 then [(i : Int)] else []) ++ ((List.range f).filter fun j => (s / 2).testBit j).map fun j => ((i + 1 + j : Nat) : Int) := by
      rw [List.range_succ_eq_map, List.filter_cons, List.filter_map]
      have h0 : s.testBit 0 = decide (s % 2 = 1) := Nat.testBit_zero s
      have hf : ((fun j => s.testBit j) ∘ Nat.succ) = fun j => (s / 2).testBit j := by funext j; exact Nat.testBit_succ ..
      rw [hf, h0]
      by_cases hs : s % 2 = 1
      · rw [if_pos hs, if_pos (by simp [hs]), List.map_cons, List.map_map]
        show _ :: _ = _ :: _
        congr 1
        apply List.map_congr_left; intro j _; show ((i + (j + 1) : Nat) : Int) = _; congr 1; omega
      · rw [if_neg hs, if_neg (by simp [hs]), List.map_map]
        show _ = _
        rw [List.nil_append]
        apply List.map_congr_left; intro j _; show ((i + (j + 1) : Nat) : Int) = _; congr 1; omega
    rw [e, e2]
    by_cases h0 : s = 0
    · subst h0
      rw [if_pos rfl]
      have : ((List.range f).filter fun j => (0 / 2).testBit j) = [] := by rw [List.filter_eq_nil_iff]; intro j _; simp
      rw [this]; rfl
    · rw [if_neg h0, ih]
      by_cases hs : s % 2 = 1
      · rw [if_pos hs, if_pos hs]; rfl
      · rw [if_neg hs, if_neg hs]; rfl
theorem bits_ls {n s : Nat} (hn : n ≤ 9) (h : s < 2 ^ n) : lsN (boolN n s) = bits s := by
  have hp := pow9 hn
  have e : bits s = ((List.range 62).filter fun j => s.testBit j).map fun j => ((0 + j : Nat) : Int) := bitsF_ls 62 0 s (by omega)
  rw [e]
  have hr : List.range 62 = List.range n ++ (List.range (62 - n)).map (n + ·) := by rw [← List.range_add]; congr 1; omega
  rw [hr, List.filter_append]
  have h2 : ((List.range (62 - n)).map (n + ·)).filter (fun j => s.testBit j) = [] := by
    rw [List.filter_eq_nil_iff]
    intro j hj
    obtain ⟨k, _, rfl⟩ := List.mem_map.1 hj
    rw [Nat.testBit_lt_two_pow (Nat.lt_of_lt_of_le h (Nat.pow_le_pow_right (by omega) (by omega)))]; simp
  rw [h2, List.append_nil]
  unfold lsN lsK
  rw [boolN_len]
  have h3 : ((List.range n).filter fun j => (boolN n s).getD j false) = (List.range n).filter fun j => s.testBit j := by
    apply List.filter_congr
    intro j hj
    exact boolN_get (List.mem_range.1 hj)
  rw [h3]
  apply List.map_congr_left; intro j _; congr 1; omega
theorem drop_next {α : Type} [Inhabited α] {xs : List α} {k : Nat} (h : k < xs.length) : xs.drop k = xs.getD k default :: xs.drop (k + 1) := by
  rw [List.drop_eq_getElem_cons h, List.getD_eq_getElem?_getD, List.getElem?_eq_getElem h]; rfl
structure DelOk (xs : List Int) (g : Int) (j : Nat) (ys : List Int) : Prop where
  n : ys.length = xs.length
  h : ys.take (keptL (xs.take j) g).length = keptL (xs.take j) g
  t : ∀ i, j ≤ i → ys.getD i default = xs.getD i default
  lt : (keptL (xs.take j) g).length < j
def wsum (l : Ld) (is : List Int) : Int := (is.map fun i => (l.sacks.map (weightR l)).getD i.toNat 0).sum
theorem wsum_bits {l : Ld} (o : LdOk l) {s : Nat} (hs : s < 2 ^ l.sacks.length) : wsum l (bits s) = (sumW (wts l) s : Int) := by
  have hp := pow9 o.n
  have h0 : ∀ x ∈ l.sacks.map (weightR l), 0 ≤ x := fun x hx => by
    obtain ⟨k, hk, rfl⟩ := List.mem_map.1 hx
    have := wt_le o hk; omega
  have := bits_sum (l.sacks.map (weightR l)) h0 62 0 s (by omega)
  rw [List.drop_zero, List.map_map] at this
  exact this
theorem bits_in {n s : Nat} (hn : n ≤ 9) (hs : s < 2 ^ n) : ∀ x ∈ bits s, 0 ≤ x ∧ x < n := fun x hx => by
  have := bitsF_bound 62 0 s n hs x hx; omega
theorem Pk.more {R : Nat → Bool} {k u c : Nat} (h : Pk R k u) (hc : R c = true) (hd : ∀ i, ¬ (u.testBit i = true ∧ c.testBit i = true)) : ∃ k', k' ≤ k + 1 ∧ Pk R k' (u ||| c) := by
  by_cases h0 : c = 0
  · subst h0; rw [Nat.or_zero]; exact ⟨k, by omega, h⟩
  · have e : diff (u ||| c) c = u := bit_ext fun i => by
      rw [diff_bit, Nat.testBit_or]
      have := hd i
      cases h1 : u.testBit i <;> cases h2 : c.testBit i <;> simp_all
    exact ⟨k + 1, Nat.le_refl _, .cons c hc (fun i hi => by rw [Nat.testBit_or, hi, Bool.or_true]) h0 (by rw [e]; exact h)⟩
def compN (is : List Int) (c : Nat) : Nat := setN (is.map fun i => c.testBit i.toNat)
theorem compN_bit (is : List Int) (c j : Nat) : (compN is c).testBit j = (decide (j < is.length) && c.testBit (is.getD j default).toNat) := by
  unfold compN
  rw [setN_bit, List.getD_eq_getElem?_getD, List.getElem?_map, List.getD_eq_getElem?_getD]
  by_cases h : j < is.length
  · rw [List.getElem?_eq_getElem h]; simp [h]
  · rw [List.getElem?_eq_none (by omega)]; simp [h]
theorem sumW_comp (w : Int → Nat) (c : Nat) : ∀ is : List Int, sumW (is.map w) (compN is c) = ((is.filter fun i => c.testBit i.toNat).map w).sum
  | [] => rfl
  | i :: is => by
    have ih := sumW_comp w c is
    have e : compN (i :: is) c = 2 * compN is c + (c.testBit i.toNat).toNat := rfl
    show (if compN (i :: is) c % 2 = 1 then w i else 0) + sumW (is.map w) (compN (i :: is) c / 2) = _
    rw [e, List.filter_cons]
    cases hb : c.testBit i.toNat
    · rw [if_neg (by show ¬ (2 * compN is c + 0) % 2 = 1; omega), if_neg (by simp), show (2 * compN is c + false.toNat) / 2 = compN is c by show (2 * compN is c + 0) / 2 = _; omega, ih]; simp
    · rw [if_pos (by show (2 * compN is c + 1) % 2 = 1; omega), if_pos rfl, show (2 * compN is c + true.toNat) / 2 = compN is c by show (2 * compN is c + 1) / 2 = _; omega, ih]; simp
theorem bits_filter {n s c : Nat} (hn : n ≤ 9) (hs : s < 2 ^ n) (h : Sub c s) : (bits s).filter (fun i => c.testBit i.toNat) = bits c := by
  have hc : c < 2 ^ n := Nat.lt_of_le_of_lt h.le hs
  rw [← bits_ls hn hs, ← bits_ls hn hc]
  unfold lsN lsK
  rw [boolN_len, boolN_len, List.filter_map, List.filter_filter]
  congr 1
  refine List.filter_congr fun i hi => ?_
  have hin := List.mem_range.1 hi
  rw [boolN_get hin, boolN_get hin]
  show (c.testBit ((i : Int)).toNat && s.testBit i) = c.testBit i
  rw [Int.toNat_natCast]
  cases hb : c.testBit i
  · rfl
  · rw [h i hb]; rfl
structure SubL (l u : Ld) (is : List Int) : Prop where
  b : u.bears = l.bears
  s : u.shrink = l.shrink
  k : u.sacks = is.map fun i => l.sacks.getD i.toNat default
  ap : ∀ p ∈ u.apart, ∃ q ∈ l.apart, q.1 = is.getD p.1.toNat default ∧ q.2 = is.getD p.2.toNat default
  wp : ∀ p ∈ u.wth, ∃ q ∈ l.wth, q.1 = is.getD p.1.toNat default ∧ q.2 = is.getD p.2.toNat default
theorem SubL.wts {l u : Ld} {is : List Int} (h : SubL l u is) : GA.wts u = is.map fun i => wt l (l.sacks.getD i.toNat default) := by
  unfold GA.wts
  rw [h.k, List.map_map]
  refine List.map_congr_left fun i _ => ?_
  show (weightR u _).toNat = (weightR l _).toNat
  unfold weightR; rw [h.s]
theorem SubL.sum {l u : Ld} {s : Nat} (o : LdOk l) (hs : s < 2 ^ l.sacks.length) (h : SubL l u (bits s)) {c : Nat} (hc : Sub c s) : sumW (GA.wts u) (compN (bits s) c) = sumW (GA.wts l) c := by
  have hcl : c < 2 ^ l.sacks.length := Nat.lt_of_le_of_lt hc.le hs
  rw [h.wts, sumW_comp, bits_filter o.n hs hc]
  have e := wsum_bits o hcl
  have : wsum l (bits c) = ((((bits c).map fun i => wt l (l.sacks.getD i.toNat default)).sum : Nat) : Int) := by
    unfold wsum
    have hb : ∀ x ∈ bits c, 0 ≤ x ∧ x < l.sacks.length := bits_in o.n hcl
    generalize bits c = xs at hb
    induction xs with
    | nil => rfl
    | cons x xs ih =>
      have hx := hb x List.mem_cons_self
      have hw := wt_le o (getD_mem (xs := l.sacks) (i := x.toNat) (d := default) (by omega))
      rw [List.map_cons, List.map_cons, List.sum_cons, List.sum_cons, Int.natCast_add, ← ih fun y hy => hb y (List.mem_cons_of_mem _ hy), hw.1]
      congr 1
      rw [List.getD_eq_getElem?_getD, List.getElem?_map, List.getD_eq_getElem?_getD, List.getElem?_eq_getElem (by omega)]; rfl
  omega
theorem SubL.right {l u : Ld} {s : Nat} (o : LdOk l) (hs : s < 2 ^ l.sacks.length) (h : SubL l u (bits s)) (hp : ∀ p ∈ u.apart, p.1.toNat < (bits s).length ∧ p.2.toNat < (bits s).length) (hq : ∀ p ∈ u.wth, p.1.toNat < (bits s).length ∧ p.2.toNat < (bits s).length) {c : Nat} (hc : Sub c s) (hr : RightP l c) : RightP u (compN (bits s) c) := by
  refine ⟨by rw [h.sum o hs hc, h.b]; exact hr.w, fun p hp' => ?_, fun p hp' => ?_⟩
  · obtain ⟨q, hq1, e1, e2⟩ := h.wp p hp'
    have := hq p hp'
    rw [compN_bit, compN_bit, ← e1, ← e2, hr.wp q hq1, decide_eq_true this.1, decide_eq_true this.2]
  · obtain ⟨q, hq1, e1, e2⟩ := h.ap p hp'
    rw [compN_bit, compN_bit, ← e1, ← e2]
    intro hh
    simp only [Bool.and_eq_true] at hh
    exact hr.ap q hq1 ⟨hh.1.2, hh.2.2⟩
end GA
end

section
namespace GA
open Go Go.RowKit Go.ChangeShapes Go.WideShapes Go.ChangeAt Go.Proofs Go.Proofs.YthbicahnhcjkjaaGreat
set_option linter.unusedVariables false
set_option linter.unusedSimpArgs false

section
variable {P : Program} {w : World} {r : Reach} {base : Nat} {t : TypeId} {v : Value}
theorem okWide_len {e : TypeId} (ht : P.underlying t = some (.slice e)) (h : Value.okWide P w r base t v) : ∃ a len cap, v = .slice a len cap ∧ len < 9223372036854775808 := by
  simp only [Value.okWide, ht, Cell.okWide] at h
  cases v with
  | slice a len cap =>
    refine ⟨a, len, cap, rfl, ?_⟩
    cases a with
    | none =>
      cases len with
      | zero => omega
      | succ n => simp [Cell.ok, ht] at h
    | some a =>
      simp only [Cell.ok, ht] at h
      have h1 : IntKind.i64.max = 9223372036854775807 := by decide
      omega
  | _ => simp_all [Cell.ok]
theorem okWide_has {k : IntKind} (ht : P.underlying t = some (.int k)) (h : Value.okWide P w r base t v) : ∃ n, v = .int k n ∧ k.min ≤ n ∧ n ≤ k.max := by
  obtain ⟨n, rfl⟩ := okWide_int ht h
  refine ⟨n, rfl, ?_⟩
  simp only [Value.okWide, ht, Cell.okWide] at h
  simp only [Cell.ok, ht, IntKind.has] at h
  exact h.2
end
theorem rep_len {P : Program} {h : Nat → Option Obj} {β : Nat → Value} {H : List Blk} {nl : Bool} {els : List AV} {a : Option Addr} {len cap : Nat} (x : Rep P h β H (.sl nl els) (.slice a len cap)) : els.length = len := by
  cases x with
  | slnil => rfl
  | slemp => rfl
  | sl us h1 => exact h1.symm
theorem ownK : ownKnob Tryz.prog.godebug = none := by kernel_rfl
theorem oByte : Opens Tryz.prog 5 1 (fun a : {n : Int // IntKind.u8.min ≤ n ∧ n ≤ IntKind.u8.max} => [AV.int .u8 a.1]) := .int (by kernel_rfl) (by kernel_rfl)
theorem oBytes : Opens Tryz.prog 22 1 (fun p : Bool × List Int => [AV.sl p.1 (bytes p.2)]) :=
  (Opens.slice (t := 22) (by kernel_rfl) (by kernel_rfl) oByte (by decide) (fun a => .int .u8 a.1) (fun _ => rfl)).as (fun p => ⟨(p.1.1, p.1.2.map (·.1)), by simp [bytes]⟩) (fun _ => rfl)
end GA
end

section
namespace GA
open Go Go.RowKit Go.Proofs
set_option linter.unusedVariables false
set_option linter.unusedSimpArgs false

def inZ (n lo hi : Int) : Bool := decide (lo ≤ n) && decide (n ≤ hi)
theorem inZ_iff {n lo hi : Int} : inZ n lo hi = true ↔ lo ≤ n ∧ n ≤ hi := by simp [inZ]
theorem one1 {a : AV} (h : a.one = true) : ∀ x ∈ [a], x.one = true := fun x hx => by rw [List.mem_singleton] at hx; rw [hx]; exact h
theorem ints_len (xs : List Int) : (ints xs).length = xs.length := List.length_map _
end GA
end

section
namespace GA
open Go Go.RowKit Go.Proofs
set_option maxRecDepth 8000
set_option linter.unusedVariables false
set_option linter.unusedSimpArgs false

abbrev Wy := Int × Int × Int
abbrev Rw := Bool × List Int
abbrev Sps := Bool × List (Int × Int)
abbrev Tru := Bool × List Sps
structure Sn where
  places : Int
  home : Int
  bed : Int
  last : Int
  nw : Bool
  ways : List Wy
  nk : Bool
  looks : List Rw
  nt : Bool
  truths : List Tru
instance : Inhabited Sn := ⟨⟨0, 0, 0, 0, true, [], true, [], true, []⟩⟩
def wyA (w : Wy) : AV := .agg [.int .i64 w.1, .int .i64 w.2.1, .int .i64 w.2.2]
def rwA (r : Rw) : AV := .sl r.1 (ints r.2)
def sgA (x : Int × Int) : AV := .agg [.int .i64 x.1, .int .i64 x.2]
def spsA (r : Sps) : AV := .sl r.1 (r.2.map sgA)
def trA (t : Tru) : AV := .agg [.sl t.1 (t.2.map spsA)]
def snC (s : Sn) : List AV := [.int .i64 s.places, .int .i64 s.home, .int .i64 s.bed, .int .i64 s.last, .sl s.nw (s.ways.map wyA), .sl s.nk (s.looks.map rwA), .sl s.nt (s.truths.map trA)]
def snA (s : Sn) : AV := .agg (snC s)
theorem wyL {n : Nat} (w : Wy) : (wyA w).low n = true := rfl
theorem sgL {n : Nat} (w : Int × Int) : (sgA w).low n = true := rfl
theorem rwL {n : Nat} (r : Rw) : (rwA r).low n = true := lowI r.2
theorem lowWy {n : Nat} (xs : List Wy) : lowL n (xs.map wyA) = true := lowL_map (fun _ => rfl) xs
theorem lowSg {n : Nat} (xs : List (Int × Int)) : lowL n (xs.map sgA) = true := lowL_map (fun _ => rfl) xs
theorem lowRk {n : Nat} (xs : List Rw) : lowL n (xs.map rwA) = true := lowL_map (fun _ => rwL _) xs
theorem spsL {n : Nat} (r : Sps) : (spsA r).low n = true := lowSg r.2
theorem lowSps {n : Nat} (xs : List Sps) : lowL n (xs.map spsA) = true := lowL_map (fun _ => spsL _) xs
theorem trL {n : Nat} (t : Tru) : (trA t).low n = true := by unfold trA; simp only [AV.low, lowL, lowSps]; rfl
theorem lowTr {n : Nat} (xs : List Tru) : lowL n (xs.map trA) = true := lowL_map (fun _ => trL _) xs
theorem snCL {n : Nat} (s : Sn) : lowL n (snC s) = true := by unfold snC; simp only [lowL, AV.low, lowWy, lowRk, lowTr]; rfl
theorem snL {n : Nat} (s : Sn) : (snA s).low n = true := snCL s
theorem snOne (s : Sn) : ∀ x ∈ snC s, x.one = true := by simp [snC, AV.one]
def bsum (f : Nat → Bool) : Nat → Nat
  | 0 => 0
  | n + 1 => bsum f n + if f n = true then 2 ^ n else 0
theorem bsum_lt (f : Nat → Bool) : ∀ n, bsum f n < 2 ^ n
  | 0 => by simp [bsum]
  | n + 1 => by
    have := bsum_lt f n
    rw [bsum, Nat.pow_succ]
    split <;> omega
theorem bsum_bit (f : Nat → Bool) : ∀ n i, (bsum f n).testBit i = (decide (i < n) && f i)
  | 0, i => by simp [bsum]
  | n + 1, i => by
    have hlt := bsum_lt f n
    have ih := bsum_bit f n i
    rw [bsum]
    by_cases hf : f n = true
    · rw [if_pos hf, show bsum f n + 2 ^ n = 2 ^ n * 1 + bsum f n by omega, Nat.testBit_two_pow_mul_add 1 hlt]
      by_cases hi : i < n
      · rw [if_pos hi, ih]; simp [hi, show i < n + 1 by omega]
      · rw [if_neg hi, show (1 : Nat) = 2 ^ 0 from rfl, Nat.testBit_two_pow]
        by_cases he : i = n
        · subst he; simp [hf]
        · simp [show ¬ i < n + 1 by omega]; omega
    · rw [if_neg hf, Nat.add_zero, ih]
      by_cases he : i = n
      · subst he; simp [hf]
      · congr 1; rw [decide_eq_decide]; omega
theorem bsum_congr {f g : Nat → Bool} : ∀ {n : Nat}, (∀ i, i < n → f i = g i) → bsum f n = bsum g n
  | 0, _ => rfl
  | n + 1, h => by rw [bsum, bsum, bsum_congr fun i hi => h i (by omega), h n (by omega)]
theorem bsum_set {f : Nat → Bool} {n i : Nat} (h : i < n) : bsum f n ||| 2 ^ i = bsum (updV f i true) n := by
  refine bit_ext fun k => ?_
  rw [Nat.testBit_or, bsum_bit, bsum_bit, Nat.testBit_two_pow]
  unfold updV
  by_cases he : i = k
  · subst he; simp [h]
  · rw [if_neg (fun e => he e.symm)]; simp [he]
def dryT (s : Sn) (t p m : Nat) : Bool := ((s.truths.getD t default).2.getD p default).2.any fun x => inZ m x.1 x.2
def drN (s : Sn) (p m : Nat) : Nat := bsum (fun t => dryT s t p m) s.truths.length
def allN (s : Sn) : Nat := 2 ^ s.truths.length - 1
def lookZ (s : Sn) (t p : Nat) : Int := (s.looks.getD t default).2.getD p default
def partN (s : Sn) (p left n : Nat) : Nat := bsum (fun t => lookZ s t p == n && left.testBit t) s.looks.length
def partsK (s : Sn) (p left : Nat) : Nat → List Nat
  | 0 => []
  | n + 1 => partsK s p left n ++ if partN s p left n = 0 then [] else [partN s p left n]
def partsL (s : Sn) (p left : Nat) : List Nat := partsK s p left 4
structure Sta where
  p : Nat
  m : Nat
  l : Nat
  deriving DecidableEq
instance : Inhabited Sta := ⟨⟨0, 0, 0⟩⟩
def staA (x : Sta) : AV := .agg [natA x.p, natA x.m, natA x.l]
def safeB (s : Sn) (x : Sta) : Bool := diff x.l (drN s x.p x.m) == 0 && x.l != 0
def leadB (w : Wy) (p q : Int) : Bool := w.1 == p && w.2.1 == q || w.1 == q && w.2.1 == p
def waysQ (s : Sn) (p q : Nat) : List (Int × Int) := (if p = q then [((p : Int), (1 : Int))] else []) ++ (s.ways.filter fun w => leadB w p q).map fun w => ((q : Int), w.2.2)
def waysK (s : Sn) (p : Nat) : Nat → List (Int × Int)
  | 0 => []
  | q + 1 => waysK s p q ++ waysQ s p q
def waysL (s : Sn) (p : Nat) : List (Int × Int) := waysK s p s.places.toNat
def outS (s : Sn) (x : Sta) (t : Int × Int) : List Sta := (partsL s t.1.toNat x.l).map fun l => ⟨t.1.toNat, (x.m + t.2).toNat, l⟩
def afterS (s : Sn) (x : Sta) (t : Int × Int) : List Sta :=
  if safeB s x = true ∧ inZ (x.m + t.2) 0 s.last = true ∧ (waysL s x.p).contains t = true ∧ (outS s x t).all (safeB s) = true then outS s x t else []
def stepsS (s : Sn) (x : Sta) : List (Int × Int) := (waysL s x.p).filter fun t => !(afterS s x t).isEmpty
def minL (f : Sta → Int) : List Sta → Int
  | [] => 0
  | x :: l => l.foldl (fun n y => min n (f y)) (f x)
def gainZ (s : Sn) (f : Sta → Int) (x : Sta) (t : Int × Int) : Int :=
  let n := minL f (afterS s x t)
  if n ≠ -1 ∧ (x.p : Int) = s.bed ∧ t.1 = s.bed then n + 1 else n
def homeZ (s : Sn) (x : Sta) : Int := if (x.p : Int) = s.home then 0 else -1
def bestZ (s : Sn) (f : Sta → Int) (x : Sta) : Int := if safeB s x = true then (stepsS s x).foldl (fun n t => max n (gainZ s f x t)) (homeZ s x) else -1
def worthK (s : Sn) : Nat → Sta → Int
  | 0, _ => -1
  | k + 1, x => bestZ s (worthK s k) x
def worthZ (s : Sn) (x : Sta) : Int := worthK s (s.last + 1 - x.m).toNat x
def nvs (W : Nat) (F : Nat → Nat) : List AV := (vecF W F).map natA
theorem nvs_len (W : Nat) (F : Nat → Nat) : (nvs W F).length = W := by unfold nvs; rw [List.length_map, vecF_len]
theorem nvs_low {n : Nat} (W : Nat) (F : Nat → Nat) : lowL n (nvs W F) = true := vec_low fun _ => rfl
theorem nvs0 (W : Nat) : List.replicate W (AV.int .i64 0) = nvs W fun _ => 0 := by unfold nvs; rw [vecF_replicate, List.map_replicate]; rfl
def spX (s : Sn) (t p k : Nat) : Int × Int := (((s.truths.getD t default).2.getD p default).2).getD k default
def dryW (s : Sn) (i p k : Nat) (m0 : Int) (t q m : Nat) : Bool :=
  if t < i then dryT s t q m
  else if t = i then (if q < p then dryT s i q m else if q = p then ((((s.truths.getD i default).2.getD p default).2.take k).any fun x => inZ m x.1 x.2) || (decide ((spX s i p k).1 ≤ m) && decide ((m : Int) < m0) && decide ((m : Int) ≤ (spX s i p k).2)) else false)
  else false
def dryG (T : Nat) (F : Nat → Nat → Nat → Bool) (j : Nat) : Nat := bsum (fun t => F t (j / 61) (j % 61)) T
theorem dryG_set {T i p m : Nat} {F F' : Nat → Nat → Nat → Bool} (hi : i < T) (hm : m < 61) (h : ∀ t q k, F' t q k = if t = i ∧ q = p ∧ k = m then true else F t q k) : dryG T F' = updV (dryG T F) (61 * p + m) (dryG T F (61 * p + m) ||| 2 ^ i) := by
  funext j
  unfold updV
  by_cases hj : j = 61 * p + m
  · rw [if_pos hj]
    unfold dryG
    have h1 : j / 61 = p := by omega
    have h2 : j % 61 = m := by omega
    rw [← hj, bsum_set hi, h1, h2]
    refine bsum_congr fun t ht => ?_
    rw [h]
    unfold updV
    by_cases e : t = i
    · rw [if_pos ⟨e, rfl, rfl⟩, if_pos e]
    · rw [if_neg (fun h => e h.1), if_neg e]
  · rw [if_neg hj]
    unfold dryG
    refine bsum_congr fun t ht => ?_
    rw [h, if_neg (fun h => hj (by omega))]
theorem dryW_min {s : Sn} {i p k : Nat} {m : Nat} (h1 : (spX s i p k).1 ≤ m) (h2 : (m : Int) ≤ (spX s i p k).2) (t q n : Nat) : dryW s i p k ((m : Int) + 1) t q n = if t = i ∧ q = p ∧ n = m then true else dryW s i p k m t q n := by
  unfold dryW
  by_cases e1 : t < i
  · rw [if_pos e1, if_neg (fun h => by omega), if_pos e1]
  · rw [if_neg e1]
    by_cases e2 : t = i
    · rw [if_pos e2]
      by_cases e3 : q < p
      · rw [if_pos e3, if_neg (fun h => by omega), if_neg e1, if_pos e2, if_pos e3]
      · rw [if_neg e3]
        by_cases e4 : q = p
        · rw [if_pos e4]
          by_cases e5 : n = m
          · rw [if_pos ⟨e2, e4, e5⟩, e5]
            have a1 : decide ((spX s i p k).1 ≤ (m : Int)) = true := decide_eq_true h1
            have a2 : decide ((m : Int) < (m : Int) + 1) = true := decide_eq_true (by omega)
            have a3 : decide ((m : Int) ≤ (spX s i p k).2) = true := decide_eq_true h2
            rw [a1, a2, a3]; simp
          · rw [if_neg (fun h => e5 h.2.2), if_neg e1, if_pos e2, if_neg e3, if_pos e4]
            have : decide ((n : Int) < (m : Int) + 1) = decide ((n : Int) < (m : Int)) := by rw [decide_eq_decide]; omega
            rw [this]
        · rw [if_neg e4, if_neg (fun h => e4 h.2.1), if_neg e1, if_pos e2, if_neg e3, if_neg e4]
    · rw [if_neg e2, if_neg (fun h => e2 h.1), if_neg e1, if_neg e2]
def dryV (s : Sn) (i p k : Nat) : Nat → Nat → Nat → Bool := dryW s i p k (spX s i p k).1
theorem dryV_eq (s : Sn) (i p k t q m : Nat) : dryV s i p k t q m = if t < i then dryT s t q m else if t = i then (if q < p then dryT s i q m else if q = p then ((((s.truths.getD i default).2.getD p default).2.take k).any fun x => inZ m x.1 x.2) else false) else false := by
  unfold dryV dryW
  have h : (decide ((spX s i p k).1 ≤ (m : Int)) && decide ((m : Int) < (spX s i p k).1) && decide ((m : Int) ≤ (spX s i p k).2)) = false := by
    by_cases h : (spX s i p k).1 ≤ (m : Int)
    · rw [show decide ((m : Int) < (spX s i p k).1) = false from decide_eq_false (by omega)]; simp
    · rw [decide_eq_false h]; rfl
  rw [h, Bool.or_false]
theorem dryV_span {s : Sn} {i p k : Nat} (hk : k < ((s.truths.getD i default).2.getD p default).2.length) : dryW s i p k ((spX s i p k).2 + 1) = dryV s i p (k + 1) := by
  funext t q m
  rw [dryV_eq]
  unfold dryW
  by_cases e1 : t < i
  · rw [if_pos e1, if_pos e1]
  · rw [if_neg e1, if_neg e1]
    by_cases e2 : t = i
    · rw [if_pos e2, if_pos e2]
      by_cases e3 : q < p
      · rw [if_pos e3, if_pos e3]
      · rw [if_neg e3, if_neg e3]
        by_cases e4 : q = p
        · rw [if_pos e4, if_pos e4, take_next hk, List.any_append]
          congr 1
          show _ = (inZ m (spX s i p k).1 (spX s i p k).2 || false)
          rw [Bool.or_false]
          unfold inZ
          by_cases h : (m : Int) ≤ (spX s i p k).2
          · rw [show decide ((m : Int) < (spX s i p k).2 + 1) = true from decide_eq_true (by omega), Bool.and_true]
          · rw [decide_eq_false h, Bool.and_false, Bool.and_false]
        · rw [if_neg e4, if_neg e4]
    · rw [if_neg e2, if_neg e2]
theorem dryV_row (s : Sn) (i p : Nat) : dryV s i p ((s.truths.getD i default).2.getD p default).2.length = dryV s i (p + 1) 0 := by
  funext t q m
  rw [dryV_eq, dryV_eq]
  by_cases e1 : t < i
  · rw [if_pos e1, if_pos e1]
  · rw [if_neg e1, if_neg e1]
    by_cases e2 : t = i
    · rw [if_pos e2, if_pos e2, List.take_length]
      by_cases e3 : q < p
      · rw [if_pos e3, if_pos (by omega)]
      · rw [if_neg e3]
        by_cases e4 : q = p
        · rw [if_pos e4, if_pos (by omega), e4]; rfl
        · rw [if_neg e4, if_neg (by omega)]
          by_cases e5 : q = p + 1
          · rw [if_pos e5]; rfl
          · rw [if_neg e5]
    · rw [if_neg e2, if_neg e2]
theorem dryT_far {s : Sn} {t q m : Nat} (h : (s.truths.getD t default).2.length ≤ q) : dryT s t q m = false := by
  unfold dryT
  rw [List.getD_eq_getElem?_getD (l := (s.truths.getD t default).2), List.getElem?_eq_none h]; rfl
theorem dryV_truth (s : Sn) (i : Nat) : dryV s i (s.truths.getD i default).2.length 0 = dryV s (i + 1) 0 0 := by
  funext t q m
  rw [dryV_eq, dryV_eq]
  by_cases e1 : t < i
  · rw [if_pos e1, if_pos (by omega)]
  · rw [if_neg e1]
    by_cases e2 : t = i
    · rw [if_pos e2, if_pos (show t < i + 1 by omega), e2]
      by_cases e3 : q < (s.truths.getD i default).2.length
      · rw [if_pos e3]
      · rw [if_neg e3, dryT_far (by omega)]
        split <;> rfl
    · rw [if_neg e2, if_neg (by omega)]
      by_cases e3 : t = i + 1
      · rw [if_pos e3]
        by_cases e4 : q < 0
        · omega
        · rw [if_neg e4]
          split <;> rfl
      · rw [if_neg e3]
theorem dryV_beg (s : Sn) : dryV s 0 0 0 = fun _ _ _ => false := by
  funext t q m
  rw [dryV_eq, if_neg (by omega)]
  split
  · rw [if_neg (by omega)]
    split <;> rfl
  · rfl
theorem dryV_end (s : Sn) {t q m : Nat} (ht : t < s.truths.length) : dryV s s.truths.length 0 0 t q m = dryT s t q m := by rw [dryV_eq, if_pos ht]
theorem dryG_end (s : Sn) {p m : Nat} (hm : m < 61) : dryG s.truths.length (dryV s s.truths.length 0 0) (61 * p + m) = drN s p m := by
  unfold dryG drN
  rw [show (61 * p + m) / 61 = p by omega, show (61 * p + m) % 61 = m by omega]
  exact bsum_congr fun t ht => dryV_end s ht
theorem dryG_beg (s : Sn) (T : Nat) : dryG T (dryV s 0 0 0) = fun _ => 0 := by
  funext j
  unfold dryG
  rw [dryV_beg]
  induction T with
  | zero => rfl
  | succ n ih => rw [bsum, ih]; rfl
def cntB (s : Sn) : Bool := inZ s.places 1 5 && inZ s.truths.length 1 4 && decide ((s.ways.length : Int) ≤ 10) && decide ((s.looks.length : Int) = s.truths.length) && s.looks.all (fun l => decide ((l.2.length : Int) = s.places)) && s.truths.all (fun t => decide ((t.2.length : Int) = s.places))
def plB (s : Sn) (p : Int) : Bool := inZ p 0 (s.places - 1)
def wyB (s : Sn) (i : Nat) : Wy := s.ways.getD i default
def agnI (s : Sn) (i : Nat) : Bool := (wyB s i).1 == (wyB s i).2.1 || (s.ways.take i).any fun x => leadB x (wyB s i).1 (wyB s i).2.1
def agnB (s : Sn) : Bool := (List.range s.ways.length).any (agnI s)
def spBad (pv : Option Int) (lo : Int) : Bool := match pv with | some h => decide (lo ≤ h + 1) | none => false
def spE (last : Int) : Option Int → List (Int × Int) → Int
  | _, [] => 0
  | pv, x :: l => if (inZ x.1 0 last && inZ x.2 x.1 last) = false then 3 else if spBad pv x.1 = true then 4 else spE last (some x.2) l
def firstE : List Int → Int
  | [] => 0
  | e :: l => if e ≠ 0 then e else firstE l
theorem firstE_iff : ∀ {l : List Int}, firstE l = 0 ↔ ∀ e ∈ l, e = 0
  | [] => by simp [firstE]
  | e :: l => by
    rw [firstE]
    by_cases h : e = 0
    · rw [if_neg (fun h' => h' h), firstE_iff]; simp [h]
    · rw [if_pos h]; simp [h]
def trE (s : Sn) (t : Tru) : Int := firstE (t.2.map fun r => spE s.last none r.2)
def snE (s : Sn) : Int :=
  if cntB s = false then 2
  else if inZ s.last 1 60 = false ∨ s.ways.all (fun w => inZ w.2.2 1 20) = false then 3
  else if s.looks.all (fun l => l.2.all fun n => inZ n 0 3) = false then 3
  else if plB s s.home = false ∨ plB s s.bed = false ∨ s.ways.all (fun w => plB s w.1 && plB s w.2.1) = false then 1
  else if s.home = s.bed then 5
  else if agnB s = true then 5
  else firstE (s.truths.map (trE s))
structure SnOk (s : Sn) : Prop where
  p1 : 1 ≤ s.places
  p2 : s.places ≤ 5
  t1 : 1 ≤ s.truths.length
  t2 : s.truths.length ≤ 4
  w1 : s.ways.length ≤ 10
  k1 : s.looks.length = s.truths.length
  kl : ∀ l ∈ s.looks, (l.2.length : Int) = s.places
  tl : ∀ t ∈ s.truths, (t.2.length : Int) = s.places
  l1 : 1 ≤ s.last
  l2 : s.last ≤ 60
  wm : ∀ w ∈ s.ways, 1 ≤ w.2.2 ∧ w.2.2 ≤ 20
  kn : ∀ l ∈ s.looks, ∀ n ∈ l.2, 0 ≤ n ∧ n ≤ 3
  h1 : 0 ≤ s.home ∧ s.home < s.places
  b1 : 0 ≤ s.bed ∧ s.bed < s.places
  wp : ∀ w ∈ s.ways, 0 ≤ w.1 ∧ w.1 < s.places ∧ 0 ≤ w.2.1 ∧ w.2.1 < s.places
  hb : s.home ≠ s.bed
  wa : ∀ i, i < s.ways.length → agnI s i = false
  sp : ∀ t ∈ s.truths, ∀ r ∈ t.2, spE s.last none r.2 = 0
theorem snE_iff {s : Sn} : snE s = 0 ↔ SnOk s := by
  unfold snE
  constructor
  · intro h
    split at h; · cases h
    split at h; · cases h
    split at h; · cases h
    split at h; · cases h
    split at h; · cases h
    split at h; · cases h
    rename_i h1 h2 h3 h4 h5 h6
    have h1 : cntB s = true := by simpa using h1
    unfold cntB at h1
    simp only [Bool.and_eq_true, inZ_iff, decide_eq_true_eq, List.all_eq_true] at h1
    obtain ⟨⟨⟨⟨⟨a1, a2⟩, a3⟩, a4⟩, a5⟩, a6⟩ := h1
    have h2 := not_or.1 h2
    have b1 : inZ s.last 1 60 = true := by simpa using h2.1
    have b2 : s.ways.all (fun w => inZ w.2.2 1 20) = true := by simpa using h2.2
    have b3 : s.looks.all (fun l => l.2.all fun n => inZ n 0 3) = true := by simpa using h3
    have h4 := not_or.1 h4
    have h4' := not_or.1 h4.2
    have c1 : plB s s.home = true := by simpa using h4.1
    have c2 : plB s s.bed = true := by simpa using h4'.1
    have c3 : s.ways.all (fun w => plB s w.1 && plB s w.2.1) = true := by simpa using h4'.2
    unfold plB at c1 c2
    rw [inZ_iff] at b1 c1 c2
    rw [List.all_eq_true] at b2 b3 c3
    have h6 : agnB s = false := by simpa using h6
    unfold agnB at h6
    rw [List.any_eq_false] at h6
    rw [firstE_iff] at h
    refine ⟨a1.1, a1.2, by omega, by omega, by omega, by omega, a5, a6, b1.1, b1.2, fun w hw => inZ_iff.1 (b2 w hw), fun l hl n hn => inZ_iff.1 (List.all_eq_true.1 (b3 l hl) n hn), by omega, by omega, fun w hw => ?_, h5, fun i hi => by simpa using h6 i (List.mem_range.2 hi), fun t ht r hr => ?_⟩
    · have := c3 w hw
      unfold plB at this
      rw [Bool.and_eq_true, inZ_iff, inZ_iff] at this
      omega
    · have := h _ (List.mem_map_of_mem ht)
      unfold trE at this
      rw [firstE_iff] at this
      exact this _ (List.mem_map_of_mem (f := fun r : Sps => spE s.last none r.2) hr)
  · intro o
    have a1 := o.p1; have a2 := o.p2; have a3 := o.t1; have a4 := o.t2; have a5 := o.w1; have a6 := o.k1; have a7 := o.l1; have a8 := o.l2; have a9 := o.h1; have a10 := o.b1
    have c1 : cntB s = true := by
      unfold cntB
      simp only [Bool.and_eq_true, inZ_iff, decide_eq_true_eq, List.all_eq_true]
      exact ⟨⟨⟨⟨⟨⟨a1, a2⟩, by omega, by omega⟩, by omega⟩, by omega⟩, o.kl⟩, o.tl⟩
    have c2 : s.ways.all (fun w => inZ w.2.2 1 20) = true := List.all_eq_true.2 fun w hw => inZ_iff.2 (o.wm w hw)
    have c3 : s.looks.all (fun l => l.2.all fun n => inZ n 0 3) = true := List.all_eq_true.2 fun l hl => List.all_eq_true.2 fun n hn => inZ_iff.2 (o.kn l hl n hn)
    have c4 : s.ways.all (fun w => plB s w.1 && plB s w.2.1) = true := List.all_eq_true.2 fun w hw => by
      have := o.wp w hw
      unfold plB
      rw [Bool.and_eq_true, inZ_iff, inZ_iff]
      omega
    have c5 : agnB s = false := by
      unfold agnB
      rw [List.any_eq_false]
      intro i hi
      rw [o.wa i (List.mem_range.1 hi)]; simp
    rw [if_neg (by rw [c1]; simp), if_neg (by rw [inZ_iff.2 ⟨a7, a8⟩, c2]; simp), if_neg (by rw [c3]; simp), if_neg (by unfold plB; rw [inZ_iff.2 ⟨a9.1, by omega⟩, inZ_iff.2 ⟨a10.1, by omega⟩]; unfold plB at c4; rw [c4]; simp), if_neg o.hb, if_neg (by rw [c5]; simp), firstE_iff]
    intro e he
    obtain ⟨t, ht, rfl⟩ := List.mem_map.1 he
    unfold trE
    rw [firstE_iff]
    intro e he
    obtain ⟨r, hr, rfl⟩ := List.mem_map.1 he
    exact o.sp t ht r hr
theorem spE_ok {last : Int} : ∀ {l : List (Int × Int)} {pv : Option Int}, spE last pv l = 0 → ∀ x ∈ l, 0 ≤ x.1 ∧ x.1 ≤ x.2 ∧ x.2 ≤ last
  | [], _, _, x, hx => by cases hx
  | y :: l, pv, h, x, hx => by
    rw [spE] at h
    split at h
    · cases h
    · rename_i h1
      split at h
      · cases h
      · rcases List.mem_cons.1 hx with rfl | hx
        · have h1 : (inZ x.1 0 last && inZ x.2 x.1 last) = true := by simpa using h1
          rw [Bool.and_eq_true, inZ_iff, inZ_iff] at h1
          omega
        · exact spE_ok h x hx
end GA
end
