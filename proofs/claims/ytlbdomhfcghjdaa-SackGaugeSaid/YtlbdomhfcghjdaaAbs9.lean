/- Parts of slices, copies, numbers; calls; the abstract weakest precondition of an operation, and of a region. -/
import Derived.Test.YtlbdomhfcghjdaaAbs8
namespace GA
open Go Go.RowKit

def intA : AV → Option Int
  | .int _ n => some n
  | _ => none
def evO (σ : St) : Option Operand → Option (Option AV)
  | none => some none
  | some x => (ev σ x).map some
/-- A bound that is left out, or a number. -/
def bdA (d : Int) : Option AV → Option Int
  | none => some d
  | some x => intA x

def opSlice (P : Program) (t : TypeId) (x : AV) (lo hi mx : Option AV) (k : AV → Prop) : Prop :=
  match x with
  | .sl nl els => bnd (slK P t) fun n => bnd (bdA 0 lo) fun l => bnd (bdA els.length hi) fun r =>
      match mx with
      | none => (0 ≤ l ∧ l ≤ r ∧ r ≤ els.length ∧ (l = 0 ∨ wide n els = true)) ∧ k (.sl nl ((els.drop l.toNat).take (r - l).toNat))
      | some m => bnd (intA m) fun m => (l = 0 ∧ r = 0 ∧ m = 0 ∧ hi.isSome = true) ∧ k (if nl then .sl true [] else .se)
  | .pim cs => bnd (arK P t) fun y => y.2.1 = false ∧ y.2.2 = 1 ∧ y.1 ≤ cs.length ∧ bnd (bdA 0 lo) fun l => bnd (bdA y.1 hi) fun r =>
      mx = none ∧ (0 ≤ l ∧ l ≤ r ∧ r ≤ y.1) ∧ k (.sl false ((cs.drop l.toNat).take (r - l).toNat))
  | _ => False

def opUn (op : UnOp) (x : AV) (k : AV → Prop) : Prop :=
  match op, x with
  | .not, .bool b => k (.bool !b)
  | .neg, .int q n => k (.int q (q.wrap (0 - n)))
  | .xor, .int q n => k (.int q (ixor q (if q.signed then -1 else q.max) n))
  | _, _ => False
def opConv (P : Program) (s d : TypeId) (x : AV) (k : AV → Prop) : Prop :=
  match x with
  | .int _ n => (P.underlying s).isSome = true ∧ match P.underlying d with | some (.int q) => k (.int q (q.wrap n)) | _ => False
  | _ => False
def opExt (x : AV) (i : Nat) (k : AV → Prop) : Prop := match x with | .tup vs => bnd vs[i]? k | _ => False
def opLen (P : Program) (t : TypeId) (H : List Blk) (x : AV) (k : AV → Prop) : Prop :=
  match x with
  | .sl _ els => isSlT P t ∧ k (.int .i64 els.length)
  | .se => isSlT P t ∧ k (.int .i64 0)
  | .gr i n => isSlT P t ∧ (match H[i]? with | some (.grow _ _ els) => els.length = n | _ => False) ∧ k (.int .i64 n)
  | _ => False
def opMin (x y : AV) (k : AV → Prop) : Prop := match x, y with | .int q a, .int _ b => k (.int q (if b < a then b else a)) | _, _ => False
def opMax (x y : AV) (k : AV → Prop) : Prop := match x, y with | .int q a, .int _ b => k (.int q (if b > a then b else a)) | _, _ => False
def opNilCheck (x : AV) (k : AV → Prop) : Prop :=
  match x with
  | .pim _ | .ptr _ _ | .gp _ _ _ _ | .fn _ _ => k x
  | _ => False

section
variable {P : Program} {E : Env} {h : Nat → Option Obj} {β : Nat → Value} {H : List Blk} {w : World} {σ : St} {a : Act}

theorem RepO.ev (F : Fits P h β H σ a) {x : Option Operand} {r : Option AV} (e : evO σ x = some r) : (x = none ∧ r = none) ∨ ∃ o v, x = some o ∧ r = some v ∧ Rep P h β H v (a.eval o) := by
  cases x with
  | none => cases e; exact .inl ⟨rfl, rfl⟩
  | some o =>
    simp only [evO] at e
    cases h1 : GA.ev σ o with
    | none => simp [h1] at e
    | some v => simp [h1] at e; exact .inr ⟨o, v, rfl, e.symm, F.ev h1⟩

theorem run_bound {d : Int} {x : Option AV} {n : Int} (e : bdA d x = some n) (v : Option Value) (hv : (x = none ∧ v = none) ∨ ∃ r u, x = some r ∧ v = some u ∧ Rep P h β H r u) : (x = none ∧ v = none ∧ n = d) ∨ ∃ q, v = some (.int q n) := by
  rcases hv with ⟨rfl, rfl⟩ | ⟨r, u, rfl, rfl, hr⟩
  · cases e; exact .inl ⟨rfl, rfl, rfl⟩
  · cases r <;> simp [bdA, intA] at e
    subst e; cases rep_int hr; exact .inr ⟨_, rfl⟩

theorem run_sliceBound {q : IntKind} {n : Int} {y : Nat} {code : BoundsCode} (h0 : 0 ≤ n) (h1 : n ≤ y) : (Instr.sliceBound (.int q n) y code).run P w = .ok n.toNat w := by
  simp [Instr.sliceBound, asIntOf, h0, h1]

theorem run_sliceBounds {isSl : Bool} {len cap : Nat} {lo hi : Option Value} {l r : Int} (hlc : len ≤ cap) (hl : (lo = none ∧ l = 0) ∨ ∃ q, lo = some (.int q l)) (hr : (hi = none ∧ r = len) ∨ ∃ q, hi = some (.int q r)) (h0 : 0 ≤ l) (h1 : l ≤ r) (h2 : r ≤ len) :
    (Instr.sliceBounds isSl len cap lo hi none).run P w = .ok (l.toNat, r.toNat, cap) w := by
  have hb := fun (q : IntKind) (c : BoundsCode) => run_sliceBound (P := P) (w := w) (q := q) (n := r) (y := cap) (code := c) (by omega) (by omega)
  have hb2 := fun (q : IntKind) (c : BoundsCode) => run_sliceBound (P := P) (w := w) (q := q) (n := l) (y := r.toNat) (code := c) h0 (by omega)
  have hb3 := fun (q : IntKind) (c : BoundsCode) (e : r = len) => run_sliceBound (P := P) (w := w) (q := q) (n := l) (y := len) (code := c) h0 (by omega)
  rcases hl with ⟨rfl, rfl⟩ | ⟨q, rfl⟩ <;> rcases hr with ⟨rfl, rfl⟩ | ⟨q', rfl⟩
  · simp [Instr.sliceBounds]
  · simp [Instr.sliceBounds, hb]
  · simp [Instr.sliceBounds, hb3]
  · simp [Instr.sliceBounds, hb, hb2]

theorem flat_drop_take {n : Nat} {els : List AV} (hw : ∀ e ∈ els, e.cells.length = n) (l m : Nat) (j : Nat) (x : AV) (e : (flat ((els.drop l).take m))[j]? = some x) : (flat els)[l * n + j]? = some x := by
  have hw2 : ∀ e ∈ els.take l, e.cells.length = n := fun e he => hw e (List.mem_of_mem_take he)
  have h1 : els = els.take l ++ ((els.drop l).take m ++ (els.drop l).drop m) := by rw [List.take_append_drop, List.take_append_drop]
  have hfl := flat_length hw2
  rcases Nat.lt_or_ge els.length l with hl | hl
  · rw [List.drop_of_length_le (by omega)] at e; simp [flat] at e
  · have hlen : (flat (els.take l)).length = l * n := by rw [hfl, List.length_take, Nat.min_eq_left hl]
    rw [h1, flat_append, flat_append, List.getElem?_append_right (by omega), hlen, show l * n + j - l * n = j by omega, List.getElem?_append_left (List.getElem?_eq_some_iff.1 e).1]
    exact e

theorem flat_mem_sub {els : List AV} {l m : Nat} {x : AV} (hx : x ∈ flat ((els.drop l).take m)) : x ∈ flat els := by
  obtain ⟨e, he, hx⟩ := List.mem_flatMap.1 hx
  exact List.mem_flatMap.2 ⟨e, List.mem_of_mem_drop (List.mem_of_mem_take he), hx⟩

theorem flat_ones {els : List AV} (h1 : ∀ x ∈ els, x.one = true) : flat els = els := by
  induction els with
  | nil => rfl
  | cons a l ih =>
    have ha : a.cells = [a] := by have := h1 a (by simp); cases a <;> first | rfl | simp [AV.one] at this
    simp only [flat, List.flatMap_cons, ha] at ih ⊢
    rw [ih (fun x hx => h1 x (by simp [hx]))]; rfl

theorem opSlice_sound (s : SR P E h β H w) {t : TypeId} {x : AV} {v : Value} (hx : Rep P h β H x v) {lo hi mx : Option AV} {lov hiv mxv : Option Value}
    (hlo : (lo = none ∧ lov = none) ∨ ∃ r u, lo = some r ∧ lov = some u ∧ Rep P h β H r u) (hhi : (hi = none ∧ hiv = none) ∨ ∃ r u, hi = some r ∧ hiv = some u ∧ Rep P h β H r u)
    (hmx : (mx = none ∧ mxv = none) ∨ ∃ r u, mx = some r ∧ mxv = some u ∧ Rep P h β H r u) {k : AV → Prop} (hk : opSlice P t x lo hi mx k) :
    Yields P E h β H (Instr.sliceAt t v lov hiv mxv) w (fun r H' => H' = H ∧ k r) := by
  unfold opSlice at hk
  split at hk
  · rename_i nl els
    obtain ⟨n, hsl, hk0⟩ := bnd_elim hk
    obtain ⟨el, i, d, q1, q2, q3, rfl⟩ := slK_spec hsl
    obtain ⟨l, h1, hk1⟩ := bnd_elim hk0
    obtain ⟨r, h2, hk2⟩ := bnd_elim hk1
    have hl := run_bound h1 lov hlo
    have hr := run_bound h2 hiv hhi
    have hsz : (Go.sizeOf el).run P w = .ok i.size w := by simp [Go.sizeOf, typeInfo, q2]
    split at hk2
    · obtain ⟨⟨b1, b2, b3, b4⟩, hk3⟩ := hk2
      have hm : mxv = none := by rcases hmx with ⟨_, h⟩ | ⟨r, u, h, _⟩; exact h; cases h
      subst hm
      have hl' : (lov = none ∧ l = 0) ∨ ∃ q, lov = some (.int q l) := hl.imp (fun x => ⟨x.2.1, x.2.2⟩) id
      have hr' : (hiv = none ∧ r = els.length) ∨ ∃ q, hiv = some (.int q r) := hr.imp (fun x => ⟨x.2.1, x.2.2⟩) id
      have run : ∀ (o : Option Addr) (cap : Nat), els.length ≤ cap → (Instr.sliceAt t (.slice o els.length cap) lov hiv none).run P w = .ok (.slice (if cap = l.toNat then o else o.map (·.add (l.toNat * i.size))) (r.toNat - l.toNat) (cap - l.toNat)) w := by
        intro o cap hc
        simp [Instr.sliceAt, run_underlying q1, Instr.slice, run_sliceBounds hc hl' hr' b1 b2 b3, hsz]
      cases hx with
      | slnil =>
        simp only [List.length_nil] at b3
        have : l = 0 := by simp at b3; omega
        have : r = 0 := by simp at b3; omega
        subst l; subst r
        have := run none 0 (Nat.le_refl _)
        refine Yields.pure s this ?_ ⟨rfl, hk3⟩
        simp; exact .slnil
      | @slemp aa cap =>
        have : l = 0 := by simp at b3; omega
        have : r = 0 := by simp at b3; omega
        subst l; subst r
        have := run (some aa) cap (by simp)
        refine Yields.pure s this ?_ ⟨rfl, hk3⟩
        simp only [List.drop_nil, List.take_nil, Option.map_some]
        split <;> exact .slemp
      | @sl b off cap c tt fz els w' nn us hn hne hb hw hw0 hone hcap hc hrr =>
        subst hn
        have := run (some ⟨b, off, none⟩) cap hcap
        refine Yields.pure s this ?_ ⟨rfl, hk3⟩
        by_cases hemp : r = l
        · subst hemp
          simp only [Int.sub_self, Int.toNat_zero, List.take_zero, Nat.sub_self, Option.map_some]
          split <;> exact .slemp
        · have hcl : cap ≠ l.toNat := by omega
          rw [if_neg hcl]
          simp only [Option.map_some, addr_add]
          obtain ⟨e0, he0⟩ : ∃ e, e ∈ els := by cases els with | nil => exact absurd rfl hne | cons e _ => exact ⟨e, by simp⟩
          have hlen : ((els.drop l.toNat).take (r - l).toNat).length = r.toNat - l.toNat := by simp; omega
          have hww : l.toNat * i.size = l.toNat * w' := by
            rcases b4 with b4 | b4
            · subst b4; simp
            · rw [(wide_spec b4 e0 he0).1.symm.trans (hw e0 he0)]
          rw [hww]
          refine .sl (w := w') (fun j => us (l.toNat * w' + j)) hlen.symm (fun e => by rw [e] at hlen; simp at hlen; omega) hb (fun e he => hw e (List.mem_of_mem_drop (List.mem_of_mem_take he))) hw0 (fun x hx => hone x (flat_mem_sub hx)) (by omega)
            (fun j x e => by rw [Nat.add_assoc]; exact hc _ _ (flat_drop_take hw _ _ j x e)) (fun j x e => hrr _ _ (flat_drop_take hw _ _ j x e))
    · rename_i m
      obtain ⟨m', h3, ⟨rfl, rfl, rfl, hsome⟩, hk3⟩ := bnd_elim hk2
      have hmx' : ∃ q, mxv = some (.int q 0) := by
        rcases hmx with ⟨h, _⟩ | ⟨r, u, h, h', hru⟩
        · cases h
        · cases h; cases m <;> simp [intA] at h3
          subst h3; cases rep_int hru; exact ⟨_, h'⟩
      obtain ⟨q, rfl⟩ := hmx'
      have hl' : lov = none ∨ ∃ q, lov = some (.int q 0) := hl.imp (fun x => x.2.1) id
      have hr' : ∃ q, hiv = some (.int q 0) := by
        rcases hr with ⟨h, _, _⟩ | h
        · rw [h] at hsome; cases hsome
        · exact h
      obtain ⟨q', rfl⟩ := hr'
      have run : ∀ (o : Option Addr) (n cap : Nat), (Instr.sliceAt t (.slice o n cap) lov (some (.int q' 0)) (some (.int q 0))).run P w = .ok (.slice o 0 0) w := by
        intro o n cap
        rcases hl' with rfl | ⟨q2', rfl⟩ <;> simp [Instr.sliceAt, run_underlying q1, Instr.slice, Instr.sliceBounds, Instr.sliceBound, asIntOf, hsz]
      cases hx with
      | slnil => exact Yields.pure s (run none 0 0) .slnil ⟨rfl, hk3⟩
      | @slemp aa cap => exact Yields.pure s (run (some aa) 0 cap) .se ⟨rfl, hk3⟩
      | @sl b off cap c tt fz els w' nn => exact Yields.pure s (run (some ⟨b, off, none⟩) nn cap) .se ⟨rfl, hk3⟩
  · rename_i cs
    obtain ⟨y, h0, y1, y2, y3, hk0⟩ := bnd_elim hk
    obtain ⟨l, h1, hk1⟩ := bnd_elim hk0
    obtain ⟨r, h2, rfl, ⟨b1, b2, b3⟩, hk2⟩ := bnd_elim hk1
    obtain ⟨n, el, i, d, q1, q2, q3, rfl⟩ := arK_spec h0
    have hl := run_bound h1 lov hlo
    have hr := run_bound h2 hiv hhi
    have hl' : (lov = none ∧ l = 0) ∨ ∃ q, lov = some (.int q l) := hl.imp (fun x => ⟨x.2.1, x.2.2⟩) id
    have hr' : (hiv = none ∧ r = n) ∨ ∃ q, hiv = some (.int q r) := hr.imp (fun x => ⟨x.2.1, x.2.2⟩) id
    have hm : mxv = none := by rcases hmx with ⟨_, h⟩ | ⟨r, u, h, _⟩; exact h; cases h
    subst hm
    have hsz : (Go.sizeOf el).run P w = .ok i.size w := by simp [Go.sizeOf, typeInfo, q2]
    simp only at y1 y2 y3
    cases hx with
    | @pim b off c tt fz cs us hone hb hc hrr =>
      have run : (Instr.sliceAt t (.pointer (some ⟨b, off, none⟩)) lov hiv none).run P w = .ok (.slice (some (if n = l.toNat then ⟨b, off, none⟩ else ⟨b, off + l.toNat, none⟩)) (r.toNat - l.toNat) (n - l.toNat)) w := by
        have := run_sliceBounds (P := P) (w := w) (isSl := false) (Nat.le_refl n) hl' hr' b1 b2 b3
        simp [Instr.sliceAt, run_underlying q1, Instr.sureAddr, this, hsz, addr_add, y2]
      have hone' : ∀ x ∈ (cs.drop l.toNat).take (r - l).toNat, x.one = true := fun x hx => hone x (List.mem_of_mem_drop (List.mem_of_mem_take hx))
      have hcell : ∀ x : AV, x.one = true → x.cells.length = 1 := fun x hx => by cases x <;> first | rfl | simp [AV.one] at hx
      have hlen : ((cs.drop l.toNat).take (r - l).toNat).length = r.toNat - l.toNat := by simp; omega
      have hget : ∀ (j : Nat) x, ((cs.drop l.toNat).take (r - l).toNat)[j]? = some x → cs[l.toNat + j]? = some x := by
        intro j x e
        rw [List.getElem?_take] at e
        split at e
        · rw [List.getElem?_drop] at e; exact e
        · cases e
      refine Yields.pure s run ?_ ⟨rfl, hk2⟩
      by_cases hemp : r = l
      · subst hemp
        simp only [Int.sub_self, Int.toNat_zero, List.take_zero, Nat.sub_self]
        exact .slemp
      · rw [if_neg (by omega)]
        refine .sl (w := 1) (c := c) (fun j => us (l.toNat + j)) hlen.symm (fun e => by rw [e] at hlen; simp at hlen; omega) hb (fun e he => hcell e (hone' e he)) (by omega) (by rw [flat_ones hone']; exact hone') (by omega)
          (fun j x e => by rw [flat_ones hone'] at e; rw [Nat.add_assoc]; exact hc _ _ (hget j x e)) (fun j x e => by rw [flat_ones hone'] at e; exact hrr _ _ (hget j x e))
  · exact hk.elim

theorem opUn_sound (s : SR P E h β H w) {op : UnOp} {x : AV} {v : Value} (hx : Rep P h β H x v) {k : AV → Prop} (hk : opUn op x k) : Yields P E h β H (Op.unary op v) w (fun r H' => H' = H ∧ k r) := by
  unfold opUn at hk
  split at hk
  · cases rep_bool hx; exact Yields.pure s rfl (.bool _) ⟨rfl, hk⟩
  · cases rep_int hx; exact Yields.pure s rfl (.int _ _) ⟨rfl, hk⟩
  · cases rep_int hx; exact Yields.pure s rfl (.int _ _) ⟨rfl, hk⟩
  · exact hk.elim

theorem opConv_sound (s : SR P E h β H w) {t d : TypeId} {x : AV} {v : Value} (hx : Rep P h β H x v) {k : AV → Prop} (hk : opConv P t d x k) : Yields P E h β H (convert t d v) w (fun r H' => H' = H ∧ k r) := by
  unfold opConv at hk
  split at hk
  · cases rep_int hx
    obtain ⟨h1, hk⟩ := hk
    obtain ⟨sd, h1⟩ := Option.isSome_iff_exists.1 h1
    split at hk
    · rename_i q h2
      refine Yields.pure s ?_ (.int _ _) ⟨rfl, hk⟩
      simp only [convert, Sem.run_bind, run_underlying h1, run_underlying h2, Result.andThen_ok]
      cases sd <;> rfl
    · exact hk.elim
  · exact hk.elim

theorem opExt_sound (s : SR P E h β H w) {x : AV} {v : Value} (hx : Rep P h β H x v) {i : Nat} {k : AV → Prop} (hk : opExt x i k) : Yields P E h β H (Instr.extract v i) w (fun r H' => H' = H ∧ k r) := by
  unfold opExt at hk
  split at hk
  · obtain ⟨r, h1, hk⟩ := bnd_elim hk
    cases hx with
    | tup us hs hc hr =>
      refine Yields.pure s (v := us i) ?_ (hr _ _ h1) ⟨rfl, hk⟩
      simp [Instr.extract, hc _ _ h1]
  · exact hk.elim

theorem opLen_sound (s : SR P E h β H w) {t ty : TypeId} {x : AV} {v : Value} (hx : Rep P h β H x v) {k : AV → Prop} (hk : opLen P t H x k) : Yields P E h β H (Builtin.len_ #[t] ty #[v]) w (fun r H' => H' = H ∧ k r) := by
  have run : ∀ (o : Option Addr) (n c : Nat), isSlT P t → (Builtin.len_ #[t] ty #[.slice o n c]).run P w = .ok (.int .i64 n) w := by
    rintro o n c ⟨e, h1⟩
    simp [Builtin.len_, run_underlying h1, goInt]
  unfold opLen at hk
  split at hk
  · obtain ⟨h1, hk⟩ := hk
    rcases rep_sl hx with ⟨rfl, rfl, rfl⟩ | ⟨rfl, a, cap, rfl⟩
    · exact Yields.pure s (run _ _ _ h1) (.int _ _) ⟨rfl, hk⟩
    · exact Yields.pure s (run _ _ _ h1) (.int _ _) ⟨rfl, hk⟩
  · obtain ⟨h1, hk⟩ := hk
    cases hx; exact Yields.pure s (run _ _ _ h1) (.int _ _) ⟨rfl, hk⟩
  · obtain ⟨h1, h2, hk⟩ := hk
    split at h2
    · rename_i i n _ t' nl els e1
      cases hx with
      | gr ho hi hv =>
        have := (hv _ _ _ e1).2 h2
        subst this
        rcases s.blk i _ e1 with ⟨_, h7, h8⟩ | ⟨_, h7, a, h8⟩ | ⟨_, b, cap, c, h8, _⟩
        · rw [h8]; subst h7; subst h2; exact Yields.pure s (run _ _ _ h1) (.int _ _) ⟨rfl, hk⟩
        · rw [h8]; subst h7; subst h2; exact Yields.pure s (run _ _ _ h1) (.int _ _) ⟨rfl, hk⟩
        · rw [h8, h2]; exact Yields.pure s (run _ _ _ h1) (.int _ _) ⟨rfl, hk⟩
    · exact h2.elim
  · exact hk.elim

theorem opMin_sound (s : SR P E h β H w) {ts : Array TypeId} {ty : TypeId} {x y : AV} {u v : Value} (hx : Rep P h β H x u) (hy : Rep P h β H y v) {k : AV → Prop} (hk : opMin x y k) : Yields P E h β H (Builtin.min_ ts ty #[u, v]) w (fun r H' => H' = H ∧ k r) := by
  unfold opMin at hk
  split at hk
  · cases rep_int hx; cases rep_int hy; exact Yields.pure s (run_min_int2 w _ _ _ _ _ _) (.int _ _) ⟨rfl, hk⟩
  · exact hk.elim
theorem opMax_sound (s : SR P E h β H w) {ts : Array TypeId} {ty : TypeId} {x y : AV} {u v : Value} (hx : Rep P h β H x u) (hy : Rep P h β H y v) {k : AV → Prop} (hk : opMax x y k) : Yields P E h β H (Builtin.max_ ts ty #[u, v]) w (fun r H' => H' = H ∧ k r) := by
  unfold opMax at hk
  split at hk
  · cases rep_int hx; cases rep_int hy; exact Yields.pure s (run_max_int2 w _ _ _ _ _ _) (.int _ _) ⟨rfl, hk⟩
  · exact hk.elim
end
end GA
