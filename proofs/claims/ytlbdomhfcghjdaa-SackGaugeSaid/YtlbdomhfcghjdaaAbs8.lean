/- Slices that are built, made, and appended to. -/
import Derived.Test.YtlbdomhfcghjdaaAbs7
import Derived.Great.BuildSlice
namespace GA
open Go Go.RowKit

/-- Of a slice type: its elements' type, their cells, their bytes. -/
def slE (P : Program) (t : TypeId) : Option (TypeId × Nat × Nat) :=
  match P.underlying t with
  | some (.slice e) => match P.info? e, zeroA P e with | some i, some z => if z.cells.length = i.size ∧ 0 < i.size ∧ z.isTup = false then some (e, i.size, i.bytes) else none | _, _ => none
  | _ => none

def dense : Nat → List (Nat × AV) → Option (List AV)
  | _, [] => some []
  | i, (j, v) :: l => if j = i then (dense (i + 1) l).map (v :: ·) else none
def wide (w : Nat) : List AV → Bool
  | [] => true
  | e :: l => e.cells.length == w && !e.isTup && wide w l

def opBuildSlice (P : Program) (own : Bool) (t : TypeId) (len : Nat) (ps : List (Nat × AV)) (H : List Blk) (k : AV → List Blk → Prop) : Prop :=
  bnd (slE P t) fun x => bnd (dense 0 ps) fun els => (els.length = len ∧ len * x.2.1 ≤ 16777216 ∧ wide x.2.1 els = true) ∧
    (if own = true then k (.gr H.length len) (H ++ [.grow x.1 false els]) else if len = 0 then k .se H else k (.sl false els) H)

def opMakeSlice (P : Program) (t : TypeId) (l c : AV) (H : List Blk) (k : AV → List Blk → Prop) : Prop :=
  match l, c with
  | .int _ l, .int _ c => bnd (slE P t) fun x => bnd (zeroA P x.1) fun z => (0 ≤ l ∧ l ≤ c ∧ c * x.2.2 ≤ 140737488355328 ∧ c ≤ 4611686018427387904) ∧
      k (.gr H.length l.toNat) (H ++ [.grow x.1 false (List.replicate l.toNat z)])
  | _, _ => False

/-- What a slice holds that is read. -/
def elsOf (H : List Blk) : AV → Option (List AV)
  | .sl _ els => some els
  | .se => some []
  | .gr i n => match H[i]? with | some (.grow _ _ els) => if els.length = n then some els else none | _ => none
  | _ => none

def opAppend (P : Program) (t : TypeId) (s x : AV) (H : List Blk) (k : AV → List Blk → Prop) : Prop :=
  bnd (slE P t) fun y => bnd (elsOf H x) fun new => (wide y.2.1 new = true) ∧
    match s with
    | .sl true _ => ((new.length : Int) * y.2.2 ≤ 140737488355328 ∧ (new.length : Int) ≤ 4611686018427387904) ∧ k (.gr H.length new.length) (H ++ [.grow y.1 new.isEmpty new])
    | .se => ((new.length : Int) * y.2.2 ≤ 140737488355328 ∧ (new.length : Int) ≤ 4611686018427387904) ∧ k (.gr H.length new.length) (H ++ [.grow y.1 false new])
    | .gr i n => match H[i]? with
      | some (.grow te nl els) => (te = y.1 ∧ els.length = n ∧ ((n + new.length : Nat) : Int) * y.2.2 ≤ 140737488355328 ∧ ((n + new.length : Nat) : Int) ≤ 4611686018427387904) ∧
          k (.gr i (n + new.length)) (H.set i (.grow te (nl && new.isEmpty) (els ++ new)))
      | _ => False
    | _ => False

section
variable {P : Program} {E : Env} {h : Nat → Option Obj} {β : Nat → Value} {H : List Blk} {w : World} {σ : St} {a : Act}

theorem slE_spec {t : TypeId} {x : TypeId × Nat × Nat} (e : slE P t = some x) : ∃ el i z, P.underlying t = some (.slice el) ∧ P.info? el = some i ∧ zeroA P el = some z ∧ z.cells.length = i.size ∧ 0 < i.size ∧ z.isTup = false ∧ x = (el, i.size, i.bytes) := by
  unfold slE at e
  split at e
  · rename_i el h1
    split at e
    · rename_i i z h2 h3
      split at e
      · rename_i h4
        cases e
        exact ⟨el, i, z, h1, h2, h3, h4.1, h4.2.1, h4.2.2, rfl⟩
      · cases e
    · cases e
  · cases e

theorem wide_spec {n : Nat} : ∀ {els : List AV}, wide n els = true → ∀ e ∈ els, e.cells.length = n ∧ e.isTup = false
  | [], _ => by simp
  | a :: l, hw => by
    simp only [wide, Bool.and_eq_true, beq_iff_eq, Bool.not_eq_true'] at hw
    intro e he
    rcases List.mem_cons.1 he with rfl | he
    · exact hw.1
    · exact wide_spec hw.2 e he

theorem flat_append (a b : List AV) : flat (a ++ b) = flat a ++ flat b := by simp [flat]

/-- Cells of a list of values that stand for values. -/
theorem rows_ok (s : SR P E h β H w) {n : Nat} : ∀ {rs : List AV} {vs : List Value}, RepL P h β H rs vs → wide n rs = true →
    ∃ cs : List Value, cs.length = rs.length * n ∧ (∀ x ∈ flat rs, x.one = true) ∧ (∀ u ∈ cs, u.oneCell' = true) ∧ cs = vs.flatMap (fun v => v.cells.toList) ∧
      ∃ us : Nat → Value, (∀ (j : Nat) x, (flat rs)[j]? = some x → cs[j]? = some (us j)) ∧ ∀ (j : Nat) x, (flat rs)[j]? = some x → Rep P h β H x (us j)
  | [], vs, hr, _ => by
    have : vs = [] := List.eq_nil_of_length_eq_zero hr.1
    subst this
    exact ⟨[], by simp, by simp [flat], by simp, rfl, fun _ => undef, by simp [flat], by simp [flat]⟩
  | r :: rs, vs, hr, hw => by
    have hr0 := hr
    obtain ⟨h1, h2⟩ := hr
    obtain ⟨v, h3, h4⟩ := h2 0 r rfl
    cases vs with
    | nil => simp at h1
    | cons v' vs =>
      simp at h3; subst h3
      simp only [wide, Bool.and_eq_true, beq_iff_eq, Bool.not_eq_true'] at hw
      obtain ⟨g1, g2, g3, us, g4, g5⟩ := cells_of s h4 hw.1.2
      obtain ⟨cs, i1, i2, i3, i4, us', i5, i6⟩ := rows_ok s (n := n) (rs := rs) (vs := vs) ⟨by simpa using h1, fun j x e => by simpa using h2 (j + 1) x (by simpa using e)⟩ hw.2
      have hlen : v'.cells.toList.length = n := by simp [g1, hw.1.1]
      have hrl : r.cells.length = n := hw.1.1
      refine ⟨v'.cells.toList ++ cs, by simp only [List.length_append, hlen, i1, List.length_cons, Nat.succ_mul]; omega, ?_, ?_, by simp [i4], fun j => if j < n then us j else us' (j - n), ?_, ?_⟩
      · intro x hx
        simp only [flat, List.flatMap_cons, List.mem_append] at hx
        rcases hx with hx | hx
        · exact g2 x hx
        · exact i2 x hx
      · intro u hu
        rcases List.mem_append.1 hu with hu | hu
        · exact g3 u hu
        · exact i3 u hu
      · intro j x e
        simp only [flat, List.flatMap_cons] at e
        by_cases hj : j < n
        · rw [List.getElem?_append_left (by omega)] at e
          rw [List.getElem?_append_left (by omega)]
          simp only [hj, if_true]
          simpa using g4 j x e
        · rw [List.getElem?_append_right (by omega), hrl] at e
          rw [List.getElem?_append_right (by omega), hlen]
          simp only [hj, if_false]
          exact i5 _ x e
      · intro j x e
        simp only [flat, List.flatMap_cons] at e
        by_cases hj : j < n
        · rw [List.getElem?_append_left (by omega)] at e
          simp only [hj, if_true]; exact g5 j x e
        · rw [List.getElem?_append_right (by omega), hrl] at e
          simp only [hj, if_false]; exact i6 _ x e

/-- The cells that are read out of a slice. -/
theorem elsOf_ok (s : SR P E h β H w) {x : AV} {v : Value} (hx : Rep P h β H x v) {new : List AV} (e : elsOf H x = some new) {n : Nat} (hw : wide n new = true) :
    (new = [] ∧ v = .slice none 0 0) ∨ ∃ (a : Addr) (c : Nat) (news : List Value), v = .slice (some a) new.length c ∧ news.length = new.length * n ∧ (∀ (j : Nat) u, news[j]? = some u → w.cell? (a.add j) = some u) ∧ (∀ u ∈ news, u.oneCell' = true) ∧
      (∀ x ∈ flat new, x.one = true) ∧ ∃ us : Nat → Value, (∀ (j : Nat) x, (flat new)[j]? = some x → news[j]? = some (us j)) ∧ ∀ (j : Nat) x, (flat new)[j]? = some x → Rep P h β H x (us j) := by
  have hww := fun e he => (wide_spec hw e he).1
  have hfl := flat_length hww
  have key : ∀ (b off : Nat) (c : Array Value) (t : TypeId) (fz : Nat × Nat) (us : Nat → Value), w.heap[b]? = some (.cells c t fz) → (∀ (j : Nat) x, (flat new)[j]? = some x → c[off + j]? = some (us j)) → (∀ (j : Nat) x, (flat new)[j]? = some x → Rep P h β H x (us j)) →
      (∀ x ∈ flat new, x.one = true) → ∃ news : List Value, news.length = new.length * n ∧ (∀ (j : Nat) u, news[j]? = some u → w.cell? ((⟨b, off, none⟩ : Addr).add j) = some u) ∧ (∀ u ∈ news, u.oneCell' = true) ∧
      (∀ x ∈ flat new, x.one = true) ∧ ∃ us : Nat → Value, (∀ (j : Nat) x, (flat new)[j]? = some x → news[j]? = some (us j)) ∧ ∀ (j : Nat) x, (flat new)[j]? = some x → Rep P h β H x (us j) := by
    intro b off c t fz us hb hc hr hone
    have hget : ∀ j, j < (flat new).length → (flat new)[j]? = some ((flat new).getD j default) := fun j hj => by rw [List.getD_eq_getElem?_getD, List.getElem?_eq_getElem hj]; simp
    refine ⟨(List.range (flat new).length).map us, by simp [hfl], fun j u e => ?_, fun u hu => ?_, hone, us, fun j x e => ?_, hr⟩
    · have hj : j < (flat new).length := by have := (List.getElem?_eq_some_iff.1 e).1; simpa using this
      simp [hj] at e; subst e
      rw [addr_add, cell?_of hb]; exact hc j _ (hget j hj)
    · simp at hu; obtain ⟨j, hj, rfl⟩ := hu
      exact (hr j _ (hget j hj)).one (hone _ (List.mem_of_getElem? (hget j hj)))
    · have hj : j < (flat new).length := (List.getElem?_eq_some_iff.1 e).1
      simp [hj]
  cases hx with
  | slnil => cases e; exact .inl ⟨rfl, rfl⟩
  | slemp => cases e; exact .inr ⟨_, _, [], rfl, by simp, by simp, by simp, by simp [flat], fun _ => undef, by simp [flat], by simp [flat]⟩
  | se => cases e; exact .inr ⟨_, _, [], rfl, by simp, by simp, by simp, by simp [flat], fun _ => undef, by simp [flat], by simp [flat]⟩
  | @sl b off cap c t fz els w' nn us hn hne hb hw' hw0 hone hcap hc hr =>
    cases e
    subst hn
    obtain ⟨news, h1⟩ := key b off c t fz us (s.imm _ _ hb) hc hr hone
    exact .inr ⟨_, _, news, rfl, h1⟩
  | @gr i m v ho hi hv =>
    simp only [elsOf] at e
    split at e
    · rename_i t nl els e1
      split at e <;> cases e
      rename_i e2
      have hv' := (hv _ _ _ e1).2 e2
      rcases s.blk i _ e1 with ⟨_, h7, h8⟩ | ⟨_, h7, a, h8⟩ | ⟨_, b, cap, c, h8, h9, h10, h11, h12, h13, h14, h15, h16, us, h17, h18⟩
      · exact .inl ⟨h7, hv'.trans h8⟩
      · subst h7; exact .inr ⟨a, 0, [], hv'.trans h8, by simp, by simp, by simp, by simp [flat], fun _ => undef, by simp [flat], by simp [flat]⟩
      · obtain ⟨news, h1⟩ := key b 0 c t (0, 0) us h10 (fun j x e => by rw [Nat.zero_add]; exact h17 j x e) h18 h16
        exact .inr ⟨_, _, news, hv'.trans h8, h1⟩
    · cases e
  | _ => cases e

theorem cells_app {els new : List AV} {c : Array Value} {k : Nat} {tail : List Value} {news : List Value} (hs : CellsOk P h β H (flat els) c) (hlc : (flat els).length ≤ c.size) (hk : k = (flat els).length)
    (us : Nat → Value) (h1 : ∀ (j : Nat) x, (flat new)[j]? = some x → news[j]? = some (us j)) (h2 : ∀ (j : Nat) x, (flat new)[j]? = some x → Rep P h β H x (us j)) :
    CellsOk P h β H (flat (els ++ new)) (c.toList.take k ++ news ++ tail).toArray := by
  obtain ⟨vs, a1, a2⟩ := hs
  subst hk
  refine ⟨fun j => if j < (flat els).length then vs j else us (j - (flat els).length), fun j x e => ?_, fun j x e => ?_⟩
  · rw [flat_append] at e
    rw [List.getElem?_toArray]
    by_cases hj : j < (flat els).length
    · rw [List.getElem?_append_left hj] at e
      rw [List.append_assoc, List.getElem?_append_left (by simp; omega), List.getElem?_take, if_pos hj]
      simp only [hj, if_true]
      simpa using a1 j x e
    · rw [List.getElem?_append_right (by omega)] at e
      have h3 := h1 _ x e
      have h4 := (List.getElem?_eq_some_iff.1 h3).1
      have hm : (List.take (flat els).length c.toList).length = (flat els).length := by simp; omega
      rw [List.append_assoc, List.getElem?_append_right (by omega), hm, List.getElem?_append_left h4]
      simp only [hj, if_false]
      exact h3
  · rw [flat_append] at e
    by_cases hj : j < (flat els).length
    · rw [List.getElem?_append_left hj] at e
      simp only [hj, if_true]; exact a2 j x e
    · rw [List.getElem?_append_right (by omega)] at e
      simp only [hj, if_false]; exact h2 _ x e

theorem evP_L (F : Fits P h β H σ a) : ∀ {l : List (Nat × Operand)} {rs : List (Nat × AV)} {i : Nat} {els : List AV}, evP σ l = some rs → dense i rs = some els →
    RepL P h β H els (l.map fun x => a.eval x.2) ∧ (l.map fun x => x.1) = (List.range els.length).map (i + ·)
  | [], rs, i, els, e, d => by cases e; cases d; exact ⟨.nil, rfl⟩
  | (q, x) :: l, rs, i, els, e, d => by
    unfold evP at e
    split at e <;> cases e
    rename_i r rs h1 h2
    simp only [dense] at d
    split at d
    · rename_i hq
      cases hd : dense (i + 1) rs with
      | none => simp [hd] at d
      | some els' =>
        simp [hd] at d; subst d; subst hq
        obtain ⟨i1, i2⟩ := evP_L F h2 hd
        refine ⟨.cons (F.ev h1) i1, ?_⟩
        simp only [List.map_cons, i2, List.length_cons, List.range_succ_eq_map, List.map_map, Nat.add_zero]
        congr 1
        apply List.map_congr_left; intro j _; simp; omega
    · cases d

/-- Filling a row densely. -/
theorem fill_dense (n : Nat) : ∀ (vs : List Value) (i : Nat) (cells : Array Value), (∀ v ∈ vs, v.cells.size = n) → (i + vs.length) * n ≤ cells.size →
    ∃ cells', Instr.fill (fun i => some (i * n, n)) cells (((List.range vs.length).map (i + ·)).zip vs) = some cells' ∧ cells'.size = cells.size ∧
      cells'.toList = cells.toList.take (i * n) ++ vs.flatMap (fun v => v.cells.toList) ++ cells.toList.drop ((i + vs.length) * n)
  | [], i, cells, _, _ => ⟨cells, rfl, rfl, by simp⟩
  | v :: vs, i, cells, hv, hl => by
    have hvn : v.cells.size = n := hv v (by simp)
    have hs1 : (i + (v :: vs).length) * n = i * n + n + vs.length * n := by simp [Nat.add_mul]; omega
    let cells1 : Array Value := v.cells.zipIdx.foldl (fun cs (x : Value × Nat) => cs.setIfInBounds (i * n + x.2) x.1) cells
    have q : cells1 = (v.cells.toList.zipIdx 0).foldl (fun cs (x : Value × Nat) => cs.setIfInBounds (i * n + x.2) x.1) cells := by
      simp only [cells1]; rw [← Array.foldl_toList, Array.toList_zipIdx]
    have qs : cells1.size = cells.size := by rw [q]; exact foldl_set_size _ _ _ _
    have ql : cells1.toList = cells.toList.take (i * n) ++ v.cells.toList ++ cells.toList.drop (i * n + n) := by
      apply List.ext_getElem?
      intro k
      by_cases hk : k < cells.size
      · rw [Array.getElem?_toList, q, foldl_set_get (i * n) _ 0 cells (by simp [hvn]; omega) k hk]
        simp only [Array.length_toList, hvn, Nat.add_zero]
        by_cases h1 : k < i * n
        · rw [if_neg (by omega), List.append_assoc, List.getElem?_append_left (by simp; omega), List.getElem?_take, if_pos h1, Array.getElem?_toList]
        · by_cases h2 : k < i * n + n
          · rw [if_pos ⟨by omega, h2⟩, List.append_assoc, List.getElem?_append_right (by simp; omega), List.getElem?_append_left (by simp [hvn]; omega)]
            congr 1; simp; omega
          · rw [if_neg (by omega), List.getElem?_append_right (by simp [hvn]; omega), List.getElem?_drop, Array.getElem?_toList]
            congr 1; simp [hvn]; omega
      · rw [List.getElem?_eq_none (by simp [qs]; omega), List.getElem?_eq_none (by simp [hvn]; omega)]
    obtain ⟨cells', e1, e2, e3⟩ := fill_dense n vs (i + 1) cells1 (fun x hx => hv x (by simp [hx])) (by rw [qs]; simp [Nat.add_mul] at hl ⊢; omega)
    refine ⟨cells', ?_, e2.trans qs, ?_⟩
    · have hz : ((List.range (v :: vs).length).map (i + ·)).zip (v :: vs) = (i, v) :: ((List.range vs.length).map (i + 1 + ·)).zip vs := by
        simp only [List.length_cons, List.range_succ_eq_map, List.map_cons, List.map_map, List.zip_cons_cons, Nat.add_zero]
        congr 3
        funext j; simp only [Function.comp]; omega
      rw [hz]
      simp only [Instr.fill]
      rw [if_neg (by simp only [ne_eq, Bool.or_eq_true, decide_eq_true_eq]; omega)]
      exact e1
    · rw [e3, ql]
      have hm : ((i + 1) * n) = i * n + n := Nat.succ_mul i n
      have hcl : cells.toList.length = cells.size := by simp
      rw [hm, List.take_append, List.take_append, List.take_of_length_le (l := List.take (i * n) cells.toList) (by simp; omega)]
      have ht : (List.take (i * n) cells.toList).length = i * n := by simp; omega
      have hvl : v.cells.toList.length = n := by simp [hvn]
      rw [ht, show i * n + n - i * n = n by omega, List.take_of_length_le (l := v.cells.toList) (by omega)]
      rw [show i * n + n - (List.take (i * n) cells.toList ++ v.cells.toList).length = 0 by simp [hvl]; omega, List.take_zero, List.append_nil]
      rw [List.drop_append, List.drop_of_length_le (l := List.take (i * n) cells.toList ++ v.cells.toList) (by simp [hvl, Nat.add_mul]; omega), List.nil_append, List.drop_drop]
      simp only [List.flatMap_cons, List.append_assoc]
      congr 4
      simp only [List.length_append, ht, hvl, List.length_cons, Nat.add_mul]; omega

theorem buildSlice_run (s : SR P E h β H w) (F : Fits P h β H σ a) {t : TypeId} {len : Nat} {l : List (Nat × Operand)} {rs : List (Nat × AV)} (e1 : evP σ l = some rs) {x : TypeId × Nat × Nat} (e2 : slE P t = some x)
    {els : List AV} (e3 : dense 0 rs = some els) (e4 : els.length = len) (e5 : len * x.2.1 ≤ 16777216) (e6 : wide x.2.1 els = true) :
    ∃ cells : Array Value, (Instr.buildSlice t len (l.map fun x => (x.1, a.eval x.2)).toArray).run P w = .ok (.slice (some ⟨w.heap.size, 0, none⟩) len len) (w.alloc (.cells cells x.1)) ∧ cells.size = len * x.2.1 ∧
      (∀ y ∈ flat els, y.one = true) ∧ CellsOk P h β H (flat els) cells := by
  obtain ⟨el, i, z, h1, h2, h3, h4, h5, _, rfl⟩ := slE_spec e2
  obtain ⟨i', zv, z1, z2, z3⟩ := zeroA_spec h3
  rw [h2] at z1; cases z1
  obtain ⟨r1, r2⟩ := evP_L F e1 e3
  obtain ⟨cs, c1, c2, c3, c4, us, c5, c6⟩ := rows_ok s r1 e6
  have hw : ∀ v ∈ l.map (fun x => a.eval x.2), v.cells.size = i.size := by
    intro v hv
    obtain ⟨j, hj, he⟩ := List.getElem_of_mem hv
    have hx : els[j]? = some (els[j]'(by rw [← r1.1]; exact hj)) := List.getElem?_eq_getElem _
    obtain ⟨u, q1, q2⟩ := r1.2 j _ hx
    rw [List.getElem?_eq_getElem hj, he] at q1; cases q1
    obtain ⟨q3, q4⟩ := wide_spec e6 _ (List.getElem_mem _)
    exact (cells_of s q2 q4).1.trans q3
  subst e4
  by_cases hnil : els = []
  · subst hnil
    have hl0 : l = [] := by have := r1.1; simpa using this
    subst hl0
    refine ⟨#[], ?_, by simp, by simp [flat], fun _ => undef, by simp [flat], by simp [flat]⟩
    simp [Instr.buildSlice, run_underlying h1, Go.sizeOf, typeInfo, h2, newRow, Instr.fill, Array.range_zero']
  · have hpos : 0 < els.length := List.length_pos_iff.2 hnil
    obtain ⟨cells', f1, f2, f3⟩ := fill_dense i.size (l.map fun x => a.eval x.2) 0 ((Array.range (els.length * i.size)).map (zv.cells[· % zv.cells.size]!)) hw (by rw [r1.1]; simp)
    have hlist : cells'.toList = cs := by
      rw [f3, c4, r1.1]; simp
    have hz : l.map (fun x => (x.1, a.eval x.2)) = ((List.range (l.map fun x => a.eval x.2).length).map (0 + ·)).zip (l.map fun x => a.eval x.2) := by
      have : l.map (fun x => (x.1, a.eval x.2)) = (l.map (fun x => x.1)).zip (l.map fun x => a.eval x.2) := by
        rw [List.zip_map']
      rw [this, r2, r1.1]
    refine ⟨cells', ?_, by rw [← Array.length_toList, hlist, c1], c2, us, fun j x e => ?_, c6⟩
    · refine run_buildSlice w t el els.length _ cells' i zv h1 h2 z2 (by simpa using e5) (by have := Nat.mul_pos hpos h5; omega) ?_
      rw [hz]; exact f1
    · have := c5 j x e; rw [← hlist] at this; simpa using this

theorem opBuildSlice_sound (s : SR P E h β H w) (F : Fits P h β H σ a) {own : Bool} {t : TypeId} {len : Nat} {l : List (Nat × Operand)} {rs : List (Nat × AV)} (e1 : evP σ l = some rs) {k : AV → List Blk → Prop} (hk : opBuildSlice P own t len rs H k) :
    Yields P E h β H (Instr.buildSlice t len (l.map fun x => (x.1, a.eval x.2)).toArray) w k := by
  obtain ⟨x, h1, hk⟩ := bnd_elim hk
  obtain ⟨els, h2, ⟨h3, h4, h5⟩, hk⟩ := bnd_elim hk
  obtain ⟨cells, r1, r2, r3, r4⟩ := buildSlice_run s F e1 h1 h2 h3 h4 h5
  obtain ⟨el, i, z, q1, q2, q3, q4, q5, _, rfl⟩ := slE_spec h1
  have hsz : sz P el = i.size := by simp [sz, q2]
  have hww : ∀ e ∈ els, e.cells.length = i.size := fun e he => (wide_spec h5 e he).1
  subst h3
  split at hk
  · obtain ⟨s', X⟩ := s.push (w' := w.alloc (.cells cells el)) s.env (fun k hk => Below.heap_alloc _ _ _ hk) (.slice (some ⟨w.heap.size, 0, none⟩) els.length els.length) (.grow el false els)
      (by intro b hb; simp [anchor] at hb; omega)
      (fun X => by
        by_cases hn : els = []
        · subst hn; exact .inr (.inl ⟨rfl, rfl, ⟨w.heap.size, 0, none⟩, by simp [upb]⟩)
        · refine .inr (.inr ⟨rfl, w.heap.size, els.length, cells, by simp [upb], List.length_pos_iff.2 hn, heap_alloc_new w _, Nat.le_refl _, ?_, by rw [hsz]; exact r2, by rw [hsz]; exact q5, by rw [hsz]; exact hww, r3, r4.ext X⟩)
          have : els.length ≤ els.length * i.size := Nat.le_mul_of_pos_right _ q5
          simp only [maxLen]; simp only at h4; omega)
    refine ⟨_, _, _, _, h, _, r1, hk, X, s', .gr rfl (.push rfl) fun t' nl els' e => ?_⟩
    simp at e; obtain ⟨_, _, rfl⟩ := e; exact ⟨Nat.le_refl _, fun _ => by simp [upb]⟩
  · split at hk
    · rename_i h0
      obtain ⟨s', X⟩ := s.alloc_imm (.cells cells el)
      refine ⟨_, _, _, H, _, β, r1, hk, X, s', ?_⟩
      rw [h0]; exact .se
    · rename_i h0
      obtain ⟨s', X⟩ := s.alloc_imm (.cells cells el)
      obtain ⟨us, r5, r6⟩ := r4
      exact ⟨_, _, _, H, _, β, r1, hk, X, s', .sl (b := w.heap.size) (off := 0) (c := cells) (t := el) (fz := (0, 0)) us rfl (fun e => h0 (by rw [e]; rfl)) (by simp) hww q5 r3 (Nat.le_refl _) (fun j x e => by rw [Nat.zero_add]; exact r5 j x e) (fun j x e => X.rep (r6 j x e))⟩

theorem flat_replicate_get (z : AV) (n : Nat) (hz : z.cells.length = n) (hn : 0 < n) (l j : Nat) (hj : j < l * n) : (flat (List.replicate l z))[j]? = z.cells[j % n]? := by
  have hw : ∀ e ∈ List.replicate l z, e.cells.length = n := fun e he => by rw [List.eq_of_mem_replicate he]; exact hz
  have h1 : j / n < l := Nat.div_lt_of_lt_mul (by rw [Nat.mul_comm]; exact hj)
  have h2 : j % n < n := Nat.mod_lt _ hn
  have := flat_get hw (j / n) (j % n) z (z.cells[j % n]'(by omega)) (by simp [h1]) (List.getElem?_eq_getElem _)
  rw [Nat.div_add_mod' j n] at this
  rw [this]; exact (List.getElem?_eq_getElem _).symm

theorem opMakeSlice_sound (s : SR P E h β H w) {t : TypeId} {l c : AV} {lv cv : Value} (hl : Rep P h β H l lv) (hc : Rep P h β H c cv) {k : AV → List Blk → Prop} (hk : opMakeSlice P t l c H k) :
    Yields P E h β H (Instr.makeSlice t lv cv) w k := by
  unfold opMakeSlice at hk
  split at hk
  case h_2 => exact hk.elim
  rename_i kl l kc c
  cases rep_int hl; cases rep_int hc
  obtain ⟨x, h1, hk⟩ := bnd_elim hk
  obtain ⟨z, h2, ⟨b1, b2, b3, b4⟩, hk⟩ := bnd_elim hk
  obtain ⟨el, i, z', q1, q2, q3, q4, q5, htup, rfl⟩ := slE_spec h1
  rw [q3] at h2; cases h2
  obtain ⟨i', zv, z1, z2, z3⟩ := zeroA_spec q3
  rw [q2] at z1; cases z1
  have hzr := toAV_rep (P := P) (h := h) (β := β) (H := H) z3
  obtain ⟨g1, g2, g3, us, g4, g5⟩ := cells_of s hzr htup
  have hsz : sz P el = i.size := by simp [sz, q2]
  have b3' : (i.bytes : Int) * c ≤ 281474976710656 := by rw [Int.mul_comm]; simp only at b3; omega
  have hr := run_make (P := P) w t el i zv q1 q2 z2 kl kc l c b1 b2 b3' (by omega)
  have hcn : l.toNat ≤ c.toNat := by omega
  have hww : ∀ e ∈ List.replicate l.toNat z, e.cells.length = i.size := fun e he => by rw [List.eq_of_mem_replicate he]; exact q4
  have hfl := flat_length hww
  rw [List.length_replicate] at hfl
  have hmul : l.toNat * i.size ≤ c.toNat * i.size := Nat.mul_le_mul_right _ hcn
  have hcells : ∀ (j : Nat) x, (flat (List.replicate l.toNat z))[j]? = some x → (madeCells zv.cells (c.toNat * i.size))[j]? = some (us (j % i.size)) ∧ Rep P h β H x (us (j % i.size)) := by
    intro j x e
    have hj : j < l.toNat * i.size := by have := (List.getElem?_eq_some_iff.1 e).1; omega
    rw [flat_replicate_get z i.size q4 q5 _ _ hj] at e
    have h3 := g4 _ x e
    refine ⟨?_, g5 _ x e⟩
    have hm : j % i.size < zv.cells.size := (Array.getElem?_eq_some_iff.1 h3).1
    unfold madeCells
    rw [Array.getElem?_map, Array.getElem?_range, if_pos (by omega)]
    simp only [Option.map_some]
    rw [show zv.cells.size = i.size from g1.trans q4, getElem!_pos zv.cells (j % i.size) hm]
    rw [Array.getElem?_eq_getElem hm] at h3; exact h3
  obtain ⟨s', X⟩ := s.push (w' := w.alloc (.cells (madeCells zv.cells (c.toNat * i.size)) el)) s.env (fun k hk => Below.heap_alloc _ _ _ hk) (.slice (some ⟨w.heap.size, 0, none⟩) l.toNat c.toNat) (.grow el false (List.replicate l.toNat z))
    (by intro b hb; simp [anchor] at hb; omega)
    (fun X => by
      by_cases hn : c.toNat = 0
      · have hl0 : l.toNat = 0 := by omega
        exact .inr (.inl ⟨rfl, by simp [hl0], ⟨w.heap.size, 0, none⟩, by simp [upb, hl0, hn]⟩)
      · refine .inr (.inr ⟨rfl, w.heap.size, c.toNat, _, by simp [upb], by omega, heap_alloc_new w _, by simpa using hcn, ?_, by rw [hsz]; exact size_madeCells _ _, by rw [hsz]; exact q5, by rw [hsz]; exact hww, ?_, fun j => us (j % i.size), fun j x e => (hcells j x e).1, fun j x e => X.rep (hcells j x e).2⟩)
        · simp only [maxLen]; omega
        · intro x hx
          obtain ⟨j, hj, he⟩ := List.getElem_of_mem hx
          have e : (flat (List.replicate l.toNat z))[j]? = some x := by rw [List.getElem?_eq_getElem hj, he]
          rw [flat_replicate_get z i.size q4 q5 _ _ (by omega)] at e
          exact g2 x (List.mem_of_getElem? e))
  refine ⟨_, _, _, _, h, _, hr, hk, X, s', .gr rfl (.push rfl) fun t' nl els' e => ?_⟩
  simp at e; obtain ⟨_, _, rfl⟩ := e; exact ⟨by simp, fun _ => by simp [upb]⟩

/-- A new row, out of old cells and new ones. -/
theorem append_new (s : SR P E h β H w) {el : TypeId} {i : TypeInfo} (hi : P.info? el = some i) (h0 : 0 < i.size) {nl : Bool} {new : List AV} (hw : wide i.size new = true) (hone : ∀ x ∈ flat new, x.one = true) {news : List Value}
    (us : Nat → Value) (h1 : ∀ (j : Nat) x, (flat new)[j]? = some x → news[j]? = some (us j)) (h2 : ∀ (j : Nat) x, (flat new)[j]? = some x → Rep P h β H x (us j))
    (hne : new ≠ []) {cap : Nat} (hc1 : new.length ≤ cap) (hc2 : cap ≤ maxLen) {c : Array Value} (hc3 : c.size = cap * i.size) (hc4 : ∃ tail, c.toList = news ++ tail) {k : AV → List Blk → Prop} {sem : Sem Value}
    (hr : sem.run P w = .ok (.slice (some ⟨w.heap.size, 0, none⟩) new.length cap) (w.drew.alloc (.cells c el))) (hk : k (.gr H.length new.length) (H ++ [.grow el nl new])) (hnl : nl = false) : Yields P E h β H sem w k := by
  have hsz : sz P el = i.size := by simp [sz, hi]
  have hpos : 0 < new.length := List.length_pos_iff.2 hne
  obtain ⟨tail, hc4⟩ := hc4
  obtain ⟨s', X⟩ := s.push (w' := w.drew.alloc (.cells c el)) s.env (fun k hk => Below.heap_alloc w.drew _ _ hk) (.slice (some ⟨w.heap.size, 0, none⟩) new.length cap) (.grow el nl new)
    (by intro b hb; simp [anchor] at hb; omega)
    (fun X => .inr (.inr ⟨hnl, w.heap.size, cap, c, by simp [upb], by omega, heap_alloc_new w.drew _, hc1, hc2, by rw [hsz]; exact hc3, by rw [hsz]; exact h0, by rw [hsz]; exact fun e he => (wide_spec hw e he).1, hone,
      us, fun j x e => by
        have h3 := h1 j x e
        rw [← Array.getElem?_toList, hc4, List.getElem?_append_left (List.getElem?_eq_some_iff.1 h3).1]; exact h3, fun j x e => X.rep (h2 j x e)⟩))
  refine ⟨_, _, _, _, h, _, hr, hk, X, s', .gr rfl (.push rfl) fun t' nl els' e => ?_⟩
  simp at e; obtain ⟨_, _, rfl⟩ := e; exact ⟨by simp, fun _ => by simp [upb]⟩

theorem opAppend_sound (s : SR P E h β H w) {t ty : TypeId} {d x : AV} {dv v : Value} (hd : Rep P h β H d dv) (hx : Rep P h β H x v) {k : AV → List Blk → Prop} (hk : opAppend P t d x H k) :
    Yields P E h β H (Builtin.append_ #[t, t] ty #[dv, v]) w k := by
  obtain ⟨y, h1, hk1⟩ := bnd_elim hk
  obtain ⟨new, h2, hw, hk2⟩ := bnd_elim hk1
  clear hk hk1
  obtain ⟨el, i, z, q1, q2, q3, q4, q5, q6, rfl⟩ := slE_spec h1
  obtain ⟨i', zv, z1, z2, z3⟩ := zeroA_spec q3
  rw [q2] at z1; cases z1
  have hsz : sz P el = i.size := by simp [sz, q2]
  have hzr := toAV_rep (P := P) (h := h) (β := β) (H := H) z3
  have hzs : zv.cells.size = i.size := (cells_of s hzr q6).1.trans q4
  simp only at hw
  have src := elsOf_ok s hx h2 hw
  -- a source of nothing: nothing is done
  have none_run : ∀ (o : Option Addr) (n c : Nat), n ≤ c → v = .slice none 0 0 → (Builtin.append_ #[t, t] ty #[.slice o n c, v]).run P w = .ok (.slice o n c) w := by
    intro o n c hnc hv
    subst hv
    cases o <;> simp [Builtin.append_, run_underlying q1, Go.sizeOf, typeInfo, q2, Builtin.lenOf, Builtin.firstCells, hnc, storeCells]
  have none_run' : ∀ (o : Option Addr) (n c : Nat) (a : Addr) (c' : Nat), n ≤ c → v = .slice (some a) 0 c' → (Builtin.append_ #[t, t] ty #[.slice o n c, v]).run P w = .ok (.slice o n c) w := by
    intro o n c a c' hnc hv
    subst hv
    cases o <;> simp [Builtin.append_, run_underlying q1, Go.sizeOf, typeInfo, q2, Builtin.lenOf, Builtin.firstCells, loadCells, loadCellsFrom, hnc, storeCells]
  have hcapsize : ∀ (need cap : Nat) (news : List Value), news.length = need * i.size → need ≤ cap → (news.toArray ++ Builtin.zeroCells zv.cells (cap - need)).size = cap * i.size := by
    intro need cap news hl hle
    simp only [Array.size_append, List.size_toArray, size_zeroCells, hzs, hl, ← Nat.add_mul]; congr 1; omega
  split at hk2
  · -- onto nil
    obtain ⟨⟨b1, b2⟩, hk⟩ := hk2
    simp only at b1
    cases hd
    by_cases hne : new = []
    · subst hne
      have hr : (Builtin.append_ #[t, t] ty #[.slice none 0 0, v]).run P w = .ok (.slice none 0 0) w := by
        rcases src with ⟨_, hv⟩ | ⟨a, c, news, hv, _⟩
        · exact none_run none 0 0 (Nat.le_refl _) hv
        · exact none_run' none 0 0 a c (Nat.le_refl _) hv
      obtain ⟨s', X⟩ := s.push (w' := w) s.env (fun _ _ => rfl) (.slice none 0 0) (.grow el true []) (by intro b hb; simp [anchor] at hb) (fun _ => .inl ⟨rfl, rfl, by simp [upb]⟩)
      refine ⟨_, _, _, _, h, _, hr, hk, X, s', .gr rfl (.push rfl) fun t' nl els' e => ?_⟩
      simp at e; obtain ⟨_, _, rfl⟩ := e; exact ⟨by simp, fun _ => by simp [upb]⟩
    · rcases src with ⟨hv, _⟩ | ⟨a, c, news, rfl, hl, hcell, hone', hone, us, u1, u2⟩
      · exact absurd hv hne
      · have hpos : 0 < new.length := List.length_pos_iff.2 hne
        have h48 : new.length * i.bytes ≤ 140737488355328 := by have := b1; rw [← Int.natCast_mul] at this; omega
        have hr := run_append_nil (P := P) w t ty el i zv q1 q2 z2 a new.length c news hl hcell hpos (by omega) (by omega)
        have hge := grownCap_ge w new.length 0 el
        have hle := grownCap_le_maxLen w new.length 0 el (by simp only [maxLen]; omega)
        refine append_new s q2 q5 (nl := new.isEmpty) hw hone us u1 u2 hne hge hle (hcapsize _ _ news hl hge) ⟨(Builtin.zeroCells zv.cells (grownCap w new.length 0 el - new.length)).toList, by simp⟩ hr hk (by cases new <;> simp at hne ⊢)
  · -- onto a slice without room
    obtain ⟨⟨b1, b2⟩, hk⟩ := hk2
    simp only at b1
    cases hd
    rename_i a0
    by_cases hne : new = []
    · subst hne
      have hr : (Builtin.append_ #[t, t] ty #[.slice (some a0) 0 0, v]).run P w = .ok (.slice (some a0) 0 0) w := by
        rcases src with ⟨_, hv⟩ | ⟨a, c, news, hv, _⟩
        · exact none_run (some a0) 0 0 (Nat.le_refl _) hv
        · exact none_run' (some a0) 0 0 a c (Nat.le_refl _) hv
      obtain ⟨s', X⟩ := s.push (w' := w) s.env (fun _ _ => rfl) (.slice (some a0) 0 0) (.grow el false []) (by intro b hb; simp [anchor] at hb) (fun _ => .inr (.inl ⟨rfl, rfl, a0, by simp [upb]⟩))
      refine ⟨_, _, _, _, h, _, hr, hk, X, s', .gr rfl (.push rfl) fun t' nl els' e => ?_⟩
      simp at e; obtain ⟨_, _, rfl⟩ := e; exact ⟨by simp, fun _ => by simp [upb]⟩
    · rcases src with ⟨hv, _⟩ | ⟨a, c, news, rfl, hl, hcell, hone', hone, us, u1, u2⟩
      · exact absurd hv hne
      · have hpos : 0 < new.length := List.length_pos_iff.2 hne
        have h48 : (0 + new.length) * i.bytes ≤ 140737488355328 := by have := b1; rw [← Int.natCast_mul] at this; rw [Nat.zero_add]; omega
        have hr := run_append_grow (P := P) w t ty el i zv q1 q2 z2 a0 0 0 [] (by simp) (by simp) a new.length c news hl hcell (by omega) (by omega) (growslice_fits (by omega) h48)
        simp only [Nat.zero_add, Array.empty_append] at hr
        have hge := grownCap_ge w new.length 0 el
        have hle := grownCap_le_maxLen w new.length 0 el (by simp only [maxLen]; omega)
        exact append_new s q2 q5 (nl := false) hw hone us u1 u2 hne hge hle (hcapsize _ _ news hl hge) ⟨(Builtin.zeroCells zv.cells (grownCap w new.length 0 el - new.length)).toList, by simp⟩ hr hk rfl
  · -- onto a row of one's own
    rename_i ii n
    split at hk2
    case h_2 => exact hk2.elim
    rename_i te nl els e1
    obtain ⟨⟨hte, b2, b3, b4⟩, hk⟩ := hk2
    have hte' : el = te := hte.symm
    clear hte
    subst hte'
    simp only at b3
    subst b2
    have hlt : ii < H.length := (List.getElem?_eq_some_iff.1 e1).1
    have b3' : (els.length + new.length) * i.bytes ≤ 140737488355328 := by rw [← Int.natCast_mul] at b3; omega
    cases hd with
    | gr ho hii hv =>
      have hdv := (hv _ _ _ e1).2 rfl
      subst hdv
      have hflat_new := fun e he => (wide_spec hw e he).1
      -- nothing more
      have stay : new = [] → (Builtin.append_ #[t, t] ty #[β ii, v]).run P w = .ok (β ii) w → Yields P E h β H (Builtin.append_ #[t, t] ty #[β ii, v]) w k := by
        intro hn hr
        subst hn
        have hH : H.set ii (.grow el (nl && true) (els ++ [])) = H := by
          rw [Bool.and_true, List.append_nil]
          have := (List.getElem?_eq_some_iff.1 e1).2
          rw [← this]; exact List.set_getElem_self hlt
        simp only [List.isEmpty_nil, hH] at hk
        exact Yields.pure s hr (.gr ho hii fun t' nl' els' e => by rw [e1] at e; cases e; exact ⟨Nat.le_refl _, fun _ => rfl⟩) hk
      -- a new row
      have newrow : ∀ (old : List Value) (cap : Nat) (c : Array Value), new ≠ [] → old.length = els.length * i.size → els.length + new.length ≤ cap → cap ≤ maxLen → c.size = cap * i.size →
          (∀ x ∈ flat (els ++ new), x.one = true) → (∀ e ∈ els ++ new, e.cells.length = i.size) → CellsOk P h β H (flat (els ++ new)) c →
          (Builtin.append_ #[t, t] ty #[β ii, v]).run P w = .ok (.slice (some ⟨w.heap.size, 0, none⟩) (els.length + new.length) cap) (w.drew.alloc (.cells c el)) → Yields P E h β H (Builtin.append_ #[t, t] ty #[β ii, v]) w k := by
        intro old cap c hne hol hc1 hc2 hc3 hone hww hcells hr
        have hpos : 0 < new.length := List.length_pos_iff.2 hne
        have hemp : new.isEmpty = false := by cases new <;> simp at hne ⊢
        rw [hemp, Bool.and_false] at hk
        obtain ⟨s', X⟩ := s.modify (β' := upb β ii (.slice (some ⟨w.heap.size, 0, none⟩) (els.length + new.length) cap)) (w' := w.drew.alloc (.cells c el)) (x' := .grow el false (els ++ new)) e1
          (fun j hj => by simp [upb, hj]) (.inr ⟨_, _, rfl, by simp, fun e => by simp at e; exact absurd e hne⟩) s.env (fun k hk _ => Below.heap_alloc w.drew _ _ hk)
          (fun b hb => .inr (by simp [upb, anchor] at hb; omega))
          (fun X => .inr (.inr ⟨rfl, w.heap.size, cap, c, by simp [upb], by omega, heap_alloc_new w.drew _, by simpa using hc1, hc2, by rw [hsz]; exact hc3, by rw [hsz]; exact q5, by rw [hsz]; exact hww, hone, hcells.ext X⟩))
        refine ⟨_, _, _, _, h, _, hr, hk, X, s', .gr rfl (.set hlt rfl) fun t' nl' els' e => ?_⟩
        simp [hlt] at e; obtain ⟨_, _, rfl⟩ := e; exact ⟨by simp, fun _ => by simp [upb]⟩
      rcases s.blk ii _ e1 with ⟨h6, h7, h8⟩ | ⟨h6, h7, a0, h8⟩ | ⟨h6, b, cap, c, h8, h9, h10, h11, h12, h13, h14, h15, h16, h17⟩
      · -- nil so far
        subst h7
        by_cases hne : new = []
        · refine stay hne ?_
          rw [h8]
          rcases src with ⟨_, hv⟩ | ⟨a, c, news, hv, _⟩
          · exact none_run none 0 0 (Nat.le_refl _) hv
          · subst hne; exact none_run' none 0 0 a c (Nat.le_refl _) hv
        · rcases src with ⟨hv, _⟩ | ⟨a, c, news, rfl, hl, hcell, hone', hone, us, u1, u2⟩
          · exact absurd hv hne
          · have hpos : 0 < new.length := List.length_pos_iff.2 hne
            simp only [List.length_nil, Nat.zero_add] at b3' b4 ⊢
            have hr := run_append_nil (P := P) w t ty el i zv q1 q2 z2 a new.length c news hl hcell hpos (by omega) (by omega)
            have hge := grownCap_ge w new.length 0 el
            have hle := grownCap_le_maxLen w new.length 0 el (by simp only [maxLen]; omega)
            refine newrow [] _ _ hne (by simp) (by simpa using hge) hle (hcapsize _ _ news hl hge) (by simpa using hone) (by simpa using hflat_new) ⟨us, fun j x e => ?_, fun j x e => u2 j x (by simpa using e)⟩ (by rw [h8]; simpa using hr)
            have h3 := u1 j x (by simpa using e)
            rw [Array.getElem?_append_left (by simpa using (List.getElem?_eq_some_iff.1 h3).1)]; simpa using h3
      · -- empty, without room
        subst h7
        by_cases hne : new = []
        · refine stay hne ?_
          rw [h8]
          rcases src with ⟨_, hv⟩ | ⟨a, c, news, hv, _⟩
          · exact none_run (some a0) 0 0 (Nat.le_refl _) hv
          · subst hne; exact none_run' (some a0) 0 0 a c (Nat.le_refl _) hv
        · rcases src with ⟨hv, _⟩ | ⟨a, c, news, rfl, hl, hcell, hone', hone, us, u1, u2⟩
          · exact absurd hv hne
          · have hpos : 0 < new.length := List.length_pos_iff.2 hne
            simp only [List.length_nil, Nat.zero_add] at b3' b4 ⊢
            have hr := run_append_grow (P := P) w t ty el i zv q1 q2 z2 a0 0 0 [] (by simp) (by simp) a new.length c news hl hcell (by omega) (by omega) (growslice_fits (by omega) (by simpa using b3'))
            simp only [Nat.zero_add, Array.empty_append] at hr
            have hge := grownCap_ge w new.length 0 el
            have hle := grownCap_le_maxLen w new.length 0 el (by simp only [maxLen]; omega)
            refine newrow [] _ _ hne (by simp) (by simpa using hge) hle (hcapsize _ _ news hl hge) (by simpa using hone) (by simpa using hflat_new) ⟨us, fun j x e => ?_, fun j x e => u2 j x (by simpa using e)⟩ (by rw [h8]; simpa using hr)
            have h3 := u1 j x (by simpa using e)
            rw [Array.getElem?_append_left (by simpa using (List.getElem?_eq_some_iff.1 h3).1)]; simpa using h3
      · -- a row that is there
        rw [hsz] at h13 h14 h15
        have hfl := flat_length h15
        have hmul : els.length * i.size ≤ cap * i.size := Nat.mul_le_mul_right _ h11
        have hwwall : ∀ e ∈ els ++ new, e.cells.length = i.size := fun e he => by rcases List.mem_append.1 he with he | he; exact h15 e he; exact hflat_new e he
        by_cases hne : new = []
        · refine stay hne ?_
          rw [h8]
          rcases src with ⟨_, hv⟩ | ⟨a, c', news, hv, _⟩
          · exact none_run (some ⟨b, 0, none⟩) _ _ h11 hv
          · subst hne; exact none_run' (some ⟨b, 0, none⟩) _ _ a c' h11 hv
        · rcases src with ⟨hv, _⟩ | ⟨a, c', news, rfl, hl, hcell, hone', hone, us, u1, u2⟩
          · exact absurd hv hne
          · have hpos : 0 < new.length := List.length_pos_iff.2 hne
            have honeall : ∀ x ∈ flat (els ++ new), x.one = true := fun x hx => by rw [flat_append] at hx; rcases List.mem_append.1 hx with hx | hx; exact h16 x hx; exact hone x hx
            by_cases hroom : els.length + new.length ≤ cap
            · have hfit : els.length * i.size + news.length ≤ c.size := by rw [hl, h13, ← Nat.add_mul]; exact Nat.mul_le_mul_right _ hroom
              have hr := run_append_room (P := P) w t ty el i q1 q2 b els.length cap c h10 a new.length c' news hl hcell hone' hroom hfit
              have hemp : new.isEmpty = false := by cases new <;> simp at hne ⊢
              rw [hemp, Bool.and_false] at hk
              have hbo : blkOf β H ii = some b := by simp [blkOf, e1, h8, anchor]; omega
              obtain ⟨s', X⟩ := s.modify (β' := upb β ii (.slice (some ⟨b, 0, none⟩) (els.length + new.length) cap)) (w' := w.setRow b (c.toList.take (els.length * i.size) ++ news ++ c.toList.drop (els.length * i.size + news.length)).toArray) (x' := .grow el false (els ++ new)) e1
                (fun j hj => by simp [upb, hj]) (.inr ⟨_, _, rfl, by simp, fun e => by simp at e; exact absurd e hne⟩) ((setRow_env _ _ _).trans s.env) (fun k _ hn => setRow_other _ _ _ _ (fun e => hn (by rw [hbo, e])))
                (fun b0 hb => .inl (by rw [hbo]; simp [upb, anchor] at hb; rw [hb.2]))
                (fun X => .inr (.inr ⟨rfl, b, cap, _, by simp [upb], h9, setRow_heap w b c _ el _ h10, by simpa using hroom, h12, by
                  rw [hsz, ← h13]
                  simp only [List.size_toArray, List.length_append, List.length_take, List.length_drop, Array.length_toList]; omega, by rw [hsz]; exact q5, by rw [hsz]; exact hwwall, honeall,
                  cells_app (h17.ext X) (by omega) hfl.symm us u1 (fun j x e => X.rep (u2 j x e))⟩))
              refine ⟨_, _, _, _, h, _, by rw [h8]; exact hr, hk, X, s', .gr rfl (.set hlt rfl) fun t' nl' els' e => ?_⟩
              simp [hlt] at e; obtain ⟨_, _, rfl⟩ := e; exact ⟨by simp, fun _ => by simp [upb]⟩
            · have hold : ∀ (j : Nat) u, (c.toList.take (els.length * i.size))[j]? = some u → w.cell? ((⟨b, 0, none⟩ : Addr).add j) = some u := by
                intro j u e
                rw [List.getElem?_take] at e
                split at e
                · rw [addr_add, Nat.zero_add, cell?_of h10]; simpa using e
                · cases e
              have hr := run_append_grow (P := P) w t ty el i zv q1 q2 z2 ⟨b, 0, none⟩ els.length cap (c.toList.take (els.length * i.size)) (by simp; omega) hold a new.length c' news hl hcell (by omega) (by omega) (growslice_fits (by omega) b3')
              have hge := grownCap_ge w (els.length + new.length) cap el
              have hle := grownCap_le_maxLen w (els.length + new.length) cap el (by simp only [maxLen]; omega)
              refine newrow (c.toList.take (els.length * i.size)) _ _ hne (by simp; omega) hge hle ?_ honeall hwwall ?_ (by rw [h8]; exact hr)
              · simp only [Array.size_append, List.size_toArray, size_zeroCells, hzs, hl, List.length_take, Array.length_toList]
                rw [Nat.min_eq_left (by omega), ← Nat.add_mul, ← Nat.add_mul]; congr 1; omega
              · have := cells_app (tail := (Builtin.zeroCells zv.cells (grownCap w (els.length + new.length) cap el - (els.length + new.length))).toList) h17 (by omega) hfl.symm us u1 u2
                refine cast ?_ this
                congr 1
                apply Array.ext'; simp
  · exact hk2.elim
end
end GA
