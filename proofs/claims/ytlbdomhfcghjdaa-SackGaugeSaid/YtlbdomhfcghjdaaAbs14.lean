/- What code comes to, written so that it can be computed: heads that stand still where a decision is due. -/
import Derived.Test.YtlbdomhfcghjdaaAbs13
namespace GA
open Go Go.RowKit

/-! ### what is known of types -/
inductive TK where
  | int (q : IntKind)
  | bool
  | sl (e w by' : Nat) (z : AV)
  | ar (n : Nat) (ag : Bool) (w : Nat)
  | st (fs : List (Nat × Bool × Nat))
  | mp (z : AV)
  | oth
structure TE where
  ag : Bool
  n : Nat
  z : Option AV
  k : TK
  q : Option Nat := none
abbrev Tab := List (Option TE)

def lget {α : Type} : List α → Nat → Option α
  | [], _ => none
  | x :: _, 0 => some x
  | _ :: l, n + 1 => lget l n
def tget (T : Tab) (t : Nat) : Option TE := match lget T t with | some (some e) => some e | _ => none

def TeOk (P : Program) (t : Nat) (e : TE) : Prop :=
  tyK P t = some (e.ag, e.n) ∧ sz P t = e.n ∧ (∀ z, e.z = some z → zeroA P t = some z) ∧
    (match e.k with
    | .int q => P.underlying t = some (.int q)
    | .bool => isBoolT P t
    | .sl el w b z => slE P t = some (el, w, b) ∧ slK P t = some w ∧ isSlT P t ∧ zeroA P el = some z
    | .ar n ag w => arK P t = some (n, ag, w) ∧ allK P t = true ∧ ∀ i, placeK P t i = some (i * w, w)
    | .st fs => (∀ i x, lget fs i = some x → fldK P t i = some x ∧ placeK P t i = some (x.1, x.2.2)) ∧ allK P t = true
    | .mp z => mapT P t = some z
    | .oth => True) ∧ ∀ n, e.q = some n → intsT P t = some n
def TabOkFrom (P : Program) : Nat → Tab → Prop
  | _, [] => True
  | i, none :: l => TabOkFrom P (i + 1) l
  | i, some e :: l => TeOk P i e ∧ TabOkFrom P (i + 1) l
def TabOk (P : Program) (T : Tab) : Prop := TabOkFrom P 0 T

theorem TabOkFrom.get {P : Program} : ∀ {T : Tab} {i t : Nat} {e : TE}, TabOkFrom P i T → tget T t = some e → TeOk P (i + t) e
  | [], _, _, _, _, h => by simp [tget, lget] at h
  | x :: l, i, 0, e, ok, h => by
    cases x with
    | none => simp [tget, lget] at h
    | some x => simp [tget, lget] at h; subst h; exact ok.1
  | x :: l, i, t + 1, e, ok, h => by
    have h' : tget l t = some e := by simpa [tget, lget] using h
    have := TabOkFrom.get (i := i + 1) (by cases x with | none => exact ok | some x => exact ok.2) h'
    rwa [show i + 1 + t = i + (t + 1) by omega] at this
theorem TabOk.get {P : Program} {T : Tab} (ok : TabOk P T) {t : Nat} {e : TE} (h : tget T t = some e) : TeOk P t e := by
  have := TabOkFrom.get ok h; rwa [Nat.zero_add] at this

theorem lget_eq {α : Type} : ∀ (l : List α) (n : Nat), lget l n = l[n]?
  | [], _ => rfl
  | _ :: _, 0 => rfl
  | _ :: l, n + 1 => by simp only [lget, List.getElem?_cons_succ]; exact lget_eq l n

/-! ### heads -/
structure XBr (c : Bool) (A B : Prop) : Prop where
  t : c = true → A
  f : c = false → B
/-- A condition, and on. -/
structure XHold (p A : Prop) : Prop where
  l : p
  r : A
/-- A number that is brought into its kind's range. -/
structure XInt (q : IntKind) (x : Int) (k : AV → Prop) : Prop where
  o : k (.int q (q.wrap x))
structure XIx (els : List AV) (n : Int) (w : Nat) (k : AV → Prop) : Prop where
  lo : 0 ≤ n
  hi : n < els.length
  wd : (nth els n).cells.length = w
  o : k (.pim (nth els n).cells)
def xAddP (p : AV) (off : Nat) (k : AV → Prop) : Prop :=
  match p with
  | .pim cs => k (.pim (cs.drop off))
  | .ptr i o => k (.ptr i (o + off))
  | .gp i n e o => k (.gp i n e (o + off))
  | _ => False
/-- An element of an array. -/
structure XArr (p : AV) (n : Int) (m w : Nat) (k : AV → Prop) : Prop where
  lo : 0 ≤ n
  hi : n < m
  o : xAddP p (n.toNat * w) k
/-- Cells of an element of one's own slice. -/
structure XGet (els : List AV) (n e : Nat) (k : List AV → Prop) : Prop where
  len : n = els.length
  lt : e < n
  o : k (els.getD e default).cells
structure XPut (els : List AV) (n e : Nat) (v : AV) (k : List AV → Prop) : Prop where
  len : n = els.length
  lt : e < n
  o : k (els.set e v)
structure XPutPart (els : List AV) (n e o : Nat) (w : Nat) (cs : List AV) (k : List AV → Prop) : Prop where
  len : n = els.length
  lt : e < n
  le : o + cs.length ≤ w
  one : (els.getD e default).one = false
  o : k (els.set e (.agg (splice (els.getD e default).cells o cs)))
/-- Two rows of numbers, compared. -/
structure XEqA (cs ds : List AV) (n : Nat) (k : Bool → Prop) : Prop where
  o : ∃ as bs : List Int, cs = as.map (.int .i64) ∧ ds = bs.map (.int .i64) ∧ as.length = bs.length ∧ n = as.length ∧ k (as == bs)
/-- What a map holds. -/
structure XGetM (n : Int) (es : List (Int × AV)) (k : Option AV → Prop) : Prop where
  o : k (mget n es)
structure XCall (P : Program) (f : FuncId) (rs : List AV) (H : List Blk) (k : AV → List Blk → Prop) : Prop where
  o : ACall P f rs H k
structure XYield (P : Program) (i : Nat) (rs : List AV) (H : List Blk) (k : AV → List Blk → Prop) : Prop where
  o : AYield P i rs H k
structure Walk (P : Program) (N : Nat) (ρ : Option Nat) (c : Code) (Q : Post) (D : List Nat) (σ : St) (H : List Blk) : Prop where
  o : AWp P N ρ c Q D σ H

/-! ### lists, cell by cell -/
def xtk : Nat → List AV → (List AV → Prop) → Prop
  | 0, _, k => k []
  | n + 1, c :: cs, k => xtk n cs fun l => k (c :: l)
  | _ + 1, [], _ => False
def xdrop : Nat → List AV → (List AV → Prop) → Prop
  | 0, cs, k => k cs
  | n + 1, _ :: cs, k => xdrop n cs k
  | _ + 1, [], _ => False
/-- Exactly so many. -/
def xn : Nat → List AV → Prop → Prop
  | 0, [], A => A
  | n + 1, _ :: cs, A => xn n cs A
  | _, _, _ => False
def xspl : List AV → Nat → List AV → (List AV → Prop) → Prop
  | c, 0, [], k => k c
  | _ :: c, 0, v :: vs, k => xspl c 0 vs fun l => k (v :: l)
  | x :: c, o + 1, vs, k => xspl c o vs fun l => k (x :: l)
  | _, _, _, _ => False
def xone (v : AV) (k : List AV → Prop) : Prop :=
  match v with
  | .tup _ => False
  | .agg cs => k cs
  | v => k [v]
def hset : List Blk → Nat → Blk → (List Blk → Prop) → Prop
  | _ :: H, 0, b, k => k (b :: H)
  | x :: H, n + 1, b, k => hset H n b fun l => k (x :: l)
  | [], _, _, _ => False
def hpush : List Blk → Nat → Blk → (Nat → List Blk → Prop) → Prop
  | [], j, b, k => k j [b]
  | x :: H, j, b, k => hpush H (j + 1) b fun i l => k i (x :: l)

theorem xtk_spec : ∀ {n : Nat} {cs : List AV} {k : List AV → Prop}, xtk n cs k → n ≤ cs.length ∧ k (cs.take n)
  | 0, _, _, h => ⟨Nat.zero_le _, h⟩
  | n + 1, c :: cs, k, h => by obtain ⟨h1, h2⟩ := xtk_spec (n := n) (cs := cs) (k := fun l => k (c :: l)) h; exact ⟨by simpa using h1, by simpa using h2⟩
  | n + 1, [], _, h => h.elim
theorem xdrop_spec : ∀ {n : Nat} {cs : List AV} {k : List AV → Prop}, xdrop n cs k → n ≤ cs.length ∧ k (cs.drop n)
  | 0, _, _, h => ⟨Nat.zero_le _, h⟩
  | n + 1, c :: cs, k, h => by obtain ⟨h1, h2⟩ := xdrop_spec (n := n) (cs := cs) (k := k) h; exact ⟨by simpa using h1, by simpa using h2⟩
  | n + 1, [], _, h => h.elim
theorem xn_spec : ∀ {n : Nat} {cs : List AV} {A : Prop}, xn n cs A → cs.length = n ∧ A
  | 0, [], _, h => ⟨rfl, h⟩
  | n + 1, c :: cs, A, h => by obtain ⟨h1, h2⟩ := xn_spec (n := n) (cs := cs) (A := A) h; exact ⟨by simp [h1], h2⟩
  | 0, _ :: _, _, h => h.elim
  | n + 1, [], _, h => h.elim
theorem splice_nil (c : List AV) : splice c 0 [] = c := by simp [splice]
theorem splice_zero (x : AV) (c : List AV) (v : AV) (vs : List AV) : splice (x :: c) 0 (v :: vs) = v :: splice c 0 vs := by simp [splice]
theorem splice_succ (x : AV) (c : List AV) (o : Nat) (vs : List AV) : splice (x :: c) (o + 1) vs = x :: splice c o vs := by
  simp only [splice, List.take_succ_cons, List.cons_append]
  rw [show o + 1 + vs.length = (o + vs.length) + 1 by omega, List.drop_succ_cons]
theorem xspl_spec : ∀ {c : List AV} {o : Nat} {vs : List AV} {k : List AV → Prop}, xspl c o vs k → o + vs.length ≤ c.length ∧ k (splice c o vs)
  | c, 0, [], k, h => by
    have h' : k c := by cases c <;> exact h
    exact ⟨Nat.zero_le _, by rw [splice_nil]; exact h'⟩
  | x :: c, 0, v :: vs, k, h => by
    obtain ⟨h1, h2⟩ := xspl_spec (c := c) (o := 0) (vs := vs) (k := fun l => k (v :: l)) h
    exact ⟨by simp at h1 ⊢; omega, by rw [splice_zero]; exact h2⟩
  | x :: c, o + 1, vs, k, h => by
    have h' : xspl c o vs fun l => k (x :: l) := by cases vs <;> exact h
    obtain ⟨h1, h2⟩ := xspl_spec (c := c) (o := o) (vs := vs) (k := fun l => k (x :: l)) h'
    exact ⟨by simp; omega, by rw [splice_succ]; exact h2⟩
  | [], 0, _ :: _, _, h => h.elim
  | [], _ + 1, [], _, h => h.elim
  | [], _ + 1, _ :: _, _, h => h.elim
theorem xone_spec {v : AV} {k : List AV → Prop} (h : xone v k) : v.isTup = false ∧ k v.cells := by
  cases v <;> first | exact h.elim | exact ⟨rfl, h⟩
theorem hset_spec : ∀ {H : List Blk} {i : Nat} {b : Blk} {k : List Blk → Prop}, hset H i b k → i < H.length ∧ k (H.set i b)
  | _ :: H, 0, b, k, h => ⟨by simp, h⟩
  | x :: H, n + 1, b, k, h => by obtain ⟨h1, h2⟩ := hset_spec (H := H) (i := n) (b := b) (k := fun l => k (x :: l)) h; exact ⟨by simpa using h1, by simpa using h2⟩
  | [], 0, _, _, h => h.elim
  | [], _ + 1, _, _, h => h.elim
theorem hpush_spec : ∀ {H : List Blk} {j : Nat} {b : Blk} {k : Nat → List Blk → Prop}, hpush H j b k → k (j + H.length) (H ++ [b])
  | [], j, b, k, h => h
  | x :: H, j, b, k, h => by
    have := hpush_spec (H := H) (j := j + 1) (b := b) (k := fun i l => k i (x :: l)) h
    simpa [Nat.add_assoc, Nat.add_comm 1] using this

/-! ### operations -/
def ikN : IntKind → Nat
  | .i8 => 0 | .i16 => 1 | .i32 => 2 | .i64 => 3 | .u8 => 4 | .u16 => 5 | .u32 => 6 | .u64 => 7
theorem ikN_inj {q q' : IntKind} (h : ikN q = ikN q') : q = q' := by cases q <;> cases q' <;> first | rfl | cases h
def isK (q q' : IntKind) (A : Prop) : Prop := match Nat.beq (ikN q) (ikN q') with | true => A | false => False
theorem isK_spec {q q' : IntKind} {A : Prop} (h : isK q q' A) : q = q' ∧ A := by
  unfold isK at h; split at h
  · rename_i e; exact ⟨ikN_inj (Nat.eq_of_beq_eq_true e), h⟩
  · exact h.elim

def xBin (T : Tab) (t : TypeId) (op : BinOp) (x y : AV) (k : AV → Prop) : Prop :=
  match op, x, y with
  | .add, .int q a, .int q' b => isK q q' (XInt q (a + b) k)
  | .sub, .int q a, .int q' b => isK q q' (XInt q (a - b) k)
  | .mul, .int q a, .int q' b => isK q q' (XInt q (a * b) k)
  | .quo, .int q a, .int q' b => isK q q' (XHold (b ≠ 0) (XInt q (a.tdiv b) k))
  | .rem, .int q a, .int q' b => isK q q' (XHold (b ≠ 0) (k (.int q (a.tmod b))))
  | .and, .int q a, .int q' b => isK q q' (k (.int q (iand q a b)))
  | .or, .int q a, .int q' b => isK q q' (k (.int q (ior q a b)))
  | .xor, .int q a, .int q' b => isK q q' (k (.int q (ixor q a b)))
  | .andNot, .int q a, .int q' b => isK q q' (k (.int q (iandn q a b)))
  | .shl, .int q a, .int _ b => XHold (0 ≤ b) (XInt q (a * 2 ^ (min b.toNat q.bits)) k)
  | .shr, .int q a, .int _ b => XHold (0 ≤ b) (k (.int q (a.fdiv (2 ^ (min b.toNat q.bits)))))
  | .eql, .int q a, .int q' b => isK q q' (k (.bool (a == b)))
  | .neq, .int q a, .int q' b => isK q q' (k (.bool (a != b)))
  | .lss, .int q a, .int q' b => isK q q' (k (.bool (decide (a < b))))
  | .leq, .int q a, .int q' b => isK q q' (k (.bool (decide (a ≤ b))))
  | .gtr, .int q a, .int q' b => isK q q' (k (.bool (decide (b < a))))
  | .geq, .int q a, .int q' b => isK q q' (k (.bool (decide (b ≤ a))))
  | .eql, .bool a, .bool b => bnd (tget T t) fun e => match e.k with | .bool => k (.bool (a == b)) | _ => False
  | .neq, .bool a, .bool b => bnd (tget T t) fun e => match e.k with | .bool => k (.bool (a != b)) | _ => False
  | .eql, .sl nl _, .sl true [] => bnd (tget T t) fun e => match e.k with | .sl _ _ _ _ => k (.bool nl) | _ => False
  | .neq, .sl nl _, .sl true [] => bnd (tget T t) fun e => match e.k with | .sl _ _ _ _ => k (.bool (!nl)) | _ => False
  | .eql, .agg cs, .agg ds => bnd (tget T t) fun e => bnd e.q fun n => XEqA cs ds n fun b => k (.bool b)
  | .neq, .agg cs, .agg ds => bnd (tget T t) fun e => bnd e.q fun n => XEqA cs ds n fun b => k (.bool !b)
  | _, _, _ => False

def xTake (e : TE) (cs : List AV) (k : AV → Prop) : Prop :=
  match e.ag with
  | true => xtk e.n cs fun l => k (.agg l)
  | false => match cs with | c :: _ => k c | [] => False
def xLoad (T : Tab) (t : TypeId) (H : List Blk) (p : AV) (k : AV → Prop) : Prop :=
  bnd (tget T t) fun e => match p with
  | .pim cs => xTake e cs k
  | .ptr i o => match lget H i with | some (.cells cs) => xdrop o cs fun cs => xTake e cs k | _ => False
  | .gp i n el o => match lget H i with | some (.grow _ _ els) => XGet els n el fun cs => xdrop o cs fun cs => xTake e cs k | _ => False
  | _ => False

def xStore (T : Tab) (t : TypeId) (H : List Blk) (p v : AV) (k : AV → List Blk → Prop) : Prop :=
  bnd (tget T t) fun e => xone v fun cs => xn e.n cs (match p with
  | .ptr i o => match lget H i with | some (.cells c) => xspl c o cs fun c' => hset H i (.cells c') fun H' => k (.tup []) H' | _ => False
  | .gp i n el o => match lget H i with
    | some (.grow te nl els) => bnd (tget T te) fun e' =>
        match o, Nat.beq e.n e'.n with
        | 0, true => XPut els n el v fun els' => hset H i (.grow te nl els') fun H' => k (.tup []) H'
        | o, _ => XPutPart els n el o e'.n cs fun els' => hset H i (.grow te nl els') fun H' => k (.tup []) H'
    | _ => False
  | _ => False)

def xBoxO (v : AV) (H : List Blk) (k : AV → List Blk → Prop) : Prop := xone v fun cs => hpush H 0 (.cells cs) fun i H' => k (.ptr i 0) H'
/-- A pointer's part. -/
def xFldP (p : AV) (off : Nat) (k : AV → Prop) : Prop :=
  match p with
  | .pim cs => xdrop off cs fun cs => k (.pim cs)
  | .ptr i o => k (.ptr i (o + off))
  | .gp i n e o => k (.gp i n e (o + off))
  | _ => False
def xPart (cs : List AV) (ag : Bool) (off n : Nat) (k : AV → Prop) : Prop :=
  match ag with
  | true => xdrop off cs fun cs => xtk n cs fun l => k (.agg l)
  | false => xdrop off cs fun cs => match cs with | c :: _ => k c | [] => False
def fields : TK → List (Nat × Bool × Nat)
  | .st fs => fs
  | _ => []
def xFieldAddr (T : Tab) (s : TypeId) (p : AV) (f : Nat) (k : AV → Prop) : Prop :=
  bnd (tget T s) fun e => bnd (lget (fields e.k) f) fun x => match x.2.2 with | 0 => False | _ + 1 => xFldP p x.1 k
def xField (T : Tab) (s : TypeId) (x : AV) (f : Nat) (k : AV → Prop) : Prop :=
  match x with
  | .agg cs => bnd (tget T s) fun e => bnd (lget (fields e.k) f) fun y => xPart cs y.2.1 y.1 y.2.2 k
  | _ => False
def xIndex (T : Tab) (t : TypeId) (x i : AV) (k : AV → Prop) : Prop :=
  match x, i with
  | .agg cs, .int _ n => bnd (tget T t) fun e => match e.k with
    | .ar m ag w => XHold (0 ≤ n ∧ n < m) (xPart cs ag (n.toNat * w) w k)
    | _ => False
  | _, _ => False
def xIndexAddr (T : Tab) (t : TypeId) (H : List Blk) (x i : AV) (k : AV → Prop) : Prop :=
  match i with
  | .int _ n => bnd (tget T t) fun e => match x, e.k with
    | .sl _ els, .sl _ w _ _ => XIx els n w k
    | .gr b m, .sl _ w _ _ => match lget H b with
      | some (.grow te _ els) => bnd (tget T te) fun e' => XHold (els.length = m ∧ w = e'.n ∧ 0 ≤ n ∧ n < m) (k (.gp b m n.toNat 0))
      | _ => False
    | .pim cs, .ar m _ w => XArr (.pim cs) n m w k
    | .ptr b o, .ar m _ w => XArr (.ptr b o) n m w k
    | .gp b m' e' o, .ar m _ w => XArr (.gp b m' e' o) n m w k
    | _, _ => False
  | _ => False

def isAgK : TK → Bool
  | .st _ | .ar _ _ _ => true
  | _ => false
def place (tk : TK) (i : Nat) : Option (Nat × Nat) :=
  match tk with
  | .st fs => match lget fs i with | some x => some (x.1, x.2.2) | none => none
  | .ar _ _ w => some (i * w, w)
  | _ => none
def xFill (tk : TK) : List AV → List (Nat × AV) → (List AV → Prop) → Prop
  | cells, [], k => k cells
  | cells, (i, v) :: rest, k => bnd (place tk i) fun x => xone v fun cs => xn x.2 cs (xspl cells x.1 cs fun c => xFill tk c rest k)
def xBuild (T : Tab) (t : TypeId) (ps : List (Nat × AV)) (k : AV → Prop) : Prop :=
  bnd (tget T t) fun e => match e.z, isAgK e.k with | some (.agg zc), true => xFill e.k zc ps fun cs => k (.agg cs) | _, _ => False

def xBuildSlice (T : Tab) (own : Bool) (t : TypeId) (len : Nat) (ps : List (Nat × AV)) (H : List Blk) (k : AV → List Blk → Prop) : Prop :=
  bnd (tget T t) fun e => match e.k with
  | .sl el w _ _ => bnd (dense 0 ps) fun els => XHold (els.length = len ∧ len * w ≤ 16777216 ∧ wide w els = true)
      (match own with
      | true => hpush H 0 (.grow el false els) fun i H' => k (.gr i len) H'
      | false => match len with | 0 => k .se H | _ + 1 => k (.sl false els) H)
  | _ => False
/-- As many as fit into memory. -/
def Room (n : Int) (b : Nat) : Prop := n * b ≤ 140737488355328 ∧ n ≤ 4611686018427387904
def xMakeSlice (T : Tab) (t : TypeId) (l c : AV) (H : List Blk) (k : AV → List Blk → Prop) : Prop :=
  match l, c with
  | .int _ l, .int _ c => bnd (tget T t) fun e => match e.k with
    | .sl el _ b z => XHold (0 ≤ l ∧ l ≤ c ∧ Room c b) (hpush H 0 (.grow el false (List.replicate l.toNat z)) fun i H' => k (.gr i l.toNat) H')
    | _ => False
  | _, _ => False
def xEls (H : List Blk) (x : AV) (k : List AV → Prop) : Prop :=
  match x with
  | .sl _ els => k els
  | .se => k []
  | .gr i n => match lget H i with | some (.grow _ _ els) => XHold (els.length = n) (k els) | _ => False
  | _ => False
def xAppend (T : Tab) (t : TypeId) (s x : AV) (H : List Blk) (k : AV → List Blk → Prop) : Prop :=
  bnd (tget T t) fun e => match e.k with
  | .sl el w b _ => xEls H x fun new => XHold (wide w new = true)
    (match s with
    | .sl true _ => XHold (Room new.length b) (hpush H 0 (.grow el new.isEmpty new) fun i H' => k (.gr i new.length) H')
    | .se => XHold (Room new.length b) (hpush H 0 (.grow el false new) fun i H' => k (.gr i new.length) H')
    | .gr i n => match lget H i with
      | some (.grow te nl els) => XHold (te = el ∧ els.length = n ∧ Room (n + new.length : Nat) b) (hset H i (.grow te (nl && new.isEmpty) (els ++ new)) fun H' => k (.gr i (n + new.length)) H')
      | _ => False
    | _ => False)
  | _ => False
def xSlice (T : Tab) (t : TypeId) (x : AV) (lo hi mx : Option AV) (k : AV → Prop) : Prop :=
  match x with
  | .sl nl els => bnd (tget T t) fun e => match e.k with
    | .sl _ n _ _ => bnd (bdA 0 lo) fun l => bnd (bdA els.length hi) fun r =>
      match mx with
      | none => XHold (0 ≤ l ∧ l ≤ r ∧ r ≤ els.length ∧ (l = 0 ∨ wide n els = true)) (k (.sl nl ((els.drop l.toNat).take (r - l).toNat)))
      | some m => bnd (intA m) fun m => XHold (l = 0 ∧ r = 0 ∧ m = 0 ∧ hi.isSome = true) (k (if nl then .sl true [] else .se))
    | _ => False
  | .pim cs => bnd (tget T t) fun e => match e.k with
    | .ar m false 1 => bnd (bdA 0 lo) fun l => bnd (bdA m hi) fun r => match mx with
      | none => XHold (m ≤ cs.length ∧ 0 ≤ l ∧ l ≤ r ∧ r ≤ m) (k (.sl false ((cs.drop l.toNat).take (r - l).toNat)))
      | some _ => False
    | _ => False
  | _ => False
def xUn (op : UnOp) (x : AV) (k : AV → Prop) : Prop :=
  match op, x with
  | .not, .bool b => k (.bool !b)
  | .neg, .int q n => XInt q (0 - n) k
  | .xor, .int q n => k (.int q (ixor q (if q.signed then -1 else q.max) n))
  | _, _ => False
def xConv (T : Tab) (s d : TypeId) (x : AV) (k : AV → Prop) : Prop :=
  match x with
  | .int _ n => bnd (tget T s) fun _ => bnd (tget T d) fun e => match e.k with | .int q => XInt q n k | _ => False
  | _ => False
def xExt (x : AV) (i : Nat) (k : AV → Prop) : Prop := match x with | .tup vs => bnd (lget vs i) k | _ => False
def xLen (T : Tab) (t : TypeId) (H : List Blk) (x : AV) (k : AV → Prop) : Prop :=
  bnd (tget T t) fun e => match e.k, x with
  | .sl _ _ _ _, .sl _ els => k (.int .i64 els.length)
  | .sl _ _ _ _, .se => k (.int .i64 0)
  | .sl _ _ _ _, .gr i n => match lget H i with | some (.grow _ _ els) => XHold (els.length = n) (k (.int .i64 n)) | _ => False
  | _, _ => False
def xBuiltin (T : Tab) (b : Builtin) (ts : List TypeId) (rs : List AV) (H : List Blk) (k : AV → List Blk → Prop) : Prop :=
  match b, ts, rs with
  | .len, [t], [x] => xLen T t H x (k · H)
  | .append, [t, t'], [s, x] => match Nat.beq t t' with | true => xAppend T t s x H k | false => False
  | .min, _, [.int q a, .int _ b] => k (.int q (min a b)) H
  | .max, _, [.int q a, .int _ b] => k (.int q (max a b)) H
  | _, _, _ => False
def xCallV (P : Program) (fv : AV) (rs : List AV) (H : List Blk) (k : AV → List Blk → Prop) : Prop :=
  match fv with
  | .fn g caps => XCall P g (rs ++ caps) H k
  | .yld i => XYield P i rs H k
  | _ => False
def xLookup (T : Tab) (t : TypeId) (H : List Blk) (x i : AV) (ok : Bool) (k : AV → Prop) : Prop :=
  bnd (tget T t) fun e => match e.k, x, i with
  | .mp z, .mp b, .int .i64 n => match lget H b with | some (.map es) => XGetM n es fun o => k (mres ok z o) | _ => False
  | _, _, _ => False
def xMapUpdate (T : Tab) (t : TypeId) (H : List Blk) (x i v : AV) (k : AV → List Blk → Prop) : Prop :=
  bnd (tget T t) fun e => match e.k, x, i with
  | .mp _, .mp b, .int .i64 n => match lget H b with | some (.map es) => hset H b (.map (mput n v es)) fun H' => k (.tup []) H' | _ => False
  | _, _, _ => False
def XOp (P : Program) (T : Tab) (own : List Nat) (dst : Option Nat) (σ : St) (H : List Blk) (k : AV → List Blk → Prop) : Op → Prop
  | .move x | .assign x => bnd (ev σ x) fun r => k r H
  | .pick c a b => bnd (ev σ c) fun r => match r with | .bool q => XBr q (bnd (ev σ a) fun r => k r H) (bnd (ev σ b) fun r => k r H) | _ => False
  | .alloc t => bnd (tget T t) fun e => match e.z with | some z => xBoxO z H k | none => False
  | .box _ x => bnd (ev σ x) fun r => match ownD own dst with | true => xBoxO r H k | false => xone r fun cs => k (.pim cs) H
  | .build t ps => bnd (evP σ ps.toList) fun rs => xBuild T t rs (k · H)
  | .buildSlice t n ps => bnd (evP σ ps.toList) fun rs => xBuildSlice T (ownD own dst) t n rs H k
  | .load t x => bnd (ev σ x) fun p => xLoad T t H p (k · H)
  | .store t x v => bnd (ev σ x) fun p => bnd (ev σ v) fun r => xStore T t H p r k
  | .nilCheck x => bnd (ev σ x) fun r => match r with | .pim _ | .ptr _ _ | .gp _ _ _ _ | .fn _ _ => k r H | _ => False
  | .binOp op t x y _ => bnd (ev σ x) fun u => bnd (ev σ y) fun v => xBin T t op u v (k · H)
  | .unOp op _ x => bnd (ev σ x) fun r => xUn op r (k · H)
  | .convert s d x => bnd (ev σ x) fun r => xConv T s d r (k · H)
  | .makeFunc fn first caps => match fn with
    | .func f => match first.toList with | [] => bnd (evL σ caps.toList) fun cs => k (.fn f cs) H | _ => False
    | _ => False
  | .makeSlice t l c => bnd (ev σ l) fun l => bnd (ev σ c) fun c => xMakeSlice T t l c H k
  | .slice t x lo hi mx => bnd (ev σ x) fun r => bnd (evO σ lo) fun lo => bnd (evO σ hi) fun hi => bnd (evO σ mx) fun mx => xSlice T t r lo hi mx (k · H)
  | .fieldAddr t x f => bnd (ev σ x) fun r => xFieldAddr T t r f (k · H)
  | .field t x f => bnd (ev σ x) fun r => xField T t r f (k · H)
  | .indexAddr t x i => bnd (ev σ x) fun r => bnd (ev σ i) fun i => xIndexAddr T t H r i (k · H)
  | .index t x i => bnd (ev σ x) fun r => bnd (ev σ i) fun i => xIndex T t r i (k · H)
  | .extract x i => bnd (ev σ x) fun r => xExt r i (k · H)
  | .call c => match c.callee with
    | .value f => bnd (ev σ f) fun fv => bnd (evL σ c.args.toList) fun rs => xCallV P fv rs H k
    | .builtin b => bnd (evL σ c.args.toList) fun rs => xBuiltin T b c.argTypes.toList rs H k
    | _ => False
  | .makeMap _ r => match r with | none => hpush H 0 (.map []) fun i H' => k (.mp i) H' | some _ => False
  | .lookup t x i ok => bnd (ev σ x) fun r => bnd (ev σ i) fun i => xLookup T t H r i ok (k · H)
  | .mapUpdate t m i v | .insert t m i v => bnd (ev σ m) fun r => bnd (ev σ i) fun i => bnd (ev σ v) fun v => xMapUpdate T t H r i v k
  | _ => False
end GA
