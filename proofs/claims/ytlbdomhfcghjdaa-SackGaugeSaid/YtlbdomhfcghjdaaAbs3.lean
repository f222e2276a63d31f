/- The operations on abstract values, and that the model's operations do what they say. -/
import Derived.Test.YtlbdomhfcghjdaaAbs2
namespace GA
open Go Go.RowKit

abbrev St := Nat → Option AV
def upd (σ : St) (d : Nat) (r : AV) : St := fun t => if t = d then some r else σ t
def St.of : List (Nat × AV) → St
  | [] => fun _ => none
  | (t, r) :: l => upd (St.of l) t r
def putO (N : Nat) (σ : St) (d : Option Nat) (r : AV) : St := match d with | some d => if d < N then upd σ d r else σ | none => σ

def bnd {α : Type} (o : Option α) (k : α → Prop) : Prop := match o with | some r => k r | none => False
theorem bnd_some {α : Type} (a : α) (k : α → Prop) : bnd (some a) k = k a := rfl
theorem bnd_elim {α : Type} {o : Option α} {k : α → Prop} (h : bnd o k) : ∃ a, o = some a ∧ k a := by
  cases o with | none => exact h.elim | some a => exact ⟨a, rfl, h⟩

/-- Both ways of a test. -/
def Br (c : Bool) (A B : Prop) : Prop := (c = true → A) ∧ (c = false → B)
theorem Br_true (A B : Prop) : Br true A B = A := by simp [Br]
theorem Br_false (A B : Prop) : Br false A B = B := by simp [Br]

def toAV1 : Value → Option AV
  | .bool b => some (.bool b)
  | .int k n => some (.int k n)
  | .slice none 0 0 => some (.sl true [])
  | .pointer none => some .nilp
  | .map none => some .nilm
  | .nilFunc => some .nilf
  | _ => none
def toAVL : List Value → Option (List AV)
  | [] => some []
  | v :: l => match toAV1 v, toAVL l with | some a, some r => some (a :: r) | _, _ => none
def toAV : Value → Option AV
  | .agg cs => (toAVL cs.toList).map .agg
  | .tuple vs => if vs.size = 0 then some (.tup []) else none
  | v => toAV1 v

def ev (σ : St) : Operand → Option AV
  | .tmp t => σ t
  | .const v => toAV v
  | .func f => some (.fn f [])
  | .global _ => none
def evL (σ : St) : List Operand → Option (List AV)
  | [] => some []
  | x :: l => match ev σ x, evL σ l with | some a, some r => some (a :: r) | _, _ => none

section
variable {P : Program} {E : Env} {h : Nat → Option Obj} {β : Nat → Value} {H : List Blk} {w : World} {σ : St} {a : Act}

theorem toAV1_one {v : Value} {r : AV} (e : toAV1 v = some r) : r.one = true := by
  unfold toAV1 at e; split at e <;> cases e <;> rfl
theorem toAV1_rep {v : Value} {r : AV} (e : toAV1 v = some r) : Rep P h β H r v := by
  unfold toAV1 at e; split at e <;> cases e
  · exact .bool _
  · exact .int _ _
  · exact .slnil
  · exact .nilp
  · exact .nilm
  · exact .nilf

theorem toAVL_spec : ∀ {l : List Value} {rs : List AV}, toAVL l = some rs → rs.length = l.length ∧ (∀ x ∈ rs, x.one = true) ∧ ∀ (j : Nat) x, rs[j]? = some x → ∃ v, l[j]? = some v ∧ Rep P h β H x v
  | [], rs, e => by cases e; simp
  | v :: l, rs, e => by
    unfold toAVL at e
    split at e <;> cases e
    rename_i a r h1 h2
    obtain ⟨i1, i2, i3⟩ := toAVL_spec h2
    refine ⟨by simp [i1], by intro x hx; rcases List.mem_cons.1 hx with rfl | hx; exact toAV1_one h1; exact i2 x hx, fun j x e => ?_⟩
    cases j with
    | zero => simp at e; subst e; exact ⟨v, by simp, toAV1_rep h1⟩
    | succ j => simp at e; obtain ⟨u, h3, h4⟩ := i3 j x e; exact ⟨u, by simpa using h3, h4⟩

theorem toAV_rep {v : Value} {r : AV} (e : toAV v = some r) : Rep P h β H r v := by
  unfold toAV at e; split at e
  · rename_i cs
    cases h1 : toAVL cs.toList with
    | none => simp [h1] at e
    | some l =>
      simp [h1] at e; subst e
      obtain ⟨i1, i2, i3⟩ := toAVL_spec (P := P) (h := h) (β := β) (H := H) h1
      refine .agg (fun j => cs[j]?.getD undef) (by simpa using i1.symm) i2 (fun j x e => ?_) (fun j x e => ?_)
      · obtain ⟨u, h3, _⟩ := i3 j x e; simp at h3; simp [h3]
      · obtain ⟨u, h3, h4⟩ := i3 j x e; simp at h3; simp [h3, h4]
  · rename_i vs
    split at e <;> cases e
    rename_i hs
    exact .tup (fun _ => undef) (by simpa using hs) (by simp) (by simp)
  · exact toAV1_rep e

def Fits (P : Program) (h : Nat → Option Obj) (β : Nat → Value) (H : List Blk) (σ : St) (a : Act) : Prop :=
  ∀ t r, σ t = some r → ∃ v, a.tmps[t]? = some v ∧ Rep P h β H r v

theorem Fits.ev (F : Fits P h β H σ a) {x : Operand} {r : AV} (e : ev σ x = some r) : Rep P h β H r (a.eval x) := by
  cases x with
  | tmp t => obtain ⟨v, h1, h2⟩ := F t r e; simpa [Act.eval, h1] using h2
  | const v => exact toAV_rep e
  | func f => cases e; exact .fn (fun _ => undef) rfl (by simp) (by simp)
  | global g => cases e

theorem Fits.ext {h' : Nat → Option Obj} {β' : Nat → Value} {H' : List Blk} (F : Fits P h β H σ a) (X : Ext h β H h' β' H') : Fits P h' β' H' σ a :=
  fun t r e => let ⟨v, h1, h2⟩ := F t r e; ⟨v, h1, X.rep h2⟩

theorem Fits.put {N : Nat} (F : Fits P h β H σ a) (hN : a.tmps.size = N) {d : Option Nat} {r : AV} {v : Value} (hr : Rep P h β H r v) : Fits P h β H (putO N σ d r) (a.put d v) := by
  cases d with
  | none => exact F
  | some d =>
    by_cases hd : d < N
    · simp only [putO, hd, if_true, Act.put]
      intro t x e
      unfold upd at e
      by_cases ht : t = d
      · subst ht; simp at e; subst e; exact ⟨v, by simp [hN, hd], hr⟩
      · simp [ht] at e
        obtain ⟨u, h1, h2⟩ := F t x e
        exact ⟨u, by rw [Array.getElem?_setIfInBounds_ne (Ne.symm ht)]; exact h1, h2⟩
    · simp only [putO, hd, if_false]
      intro t x e
      obtain ⟨u, h1, h2⟩ := F t x e
      refine ⟨u, ?_, h2⟩
      simp only [Act.put]
      rw [Array.setIfInBounds_eq_of_size_le (by omega)]; exact h1
theorem size_put (a : Act) (d : Option Nat) (v : Value) : (a.put d v).tmps.size = a.tmps.size := by cases d <;> simp [Act.put]
theorem defers_put (a : Act) (d : Option Nat) (v : Value) : (a.put d v).defers = a.defers := by cases d <;> simp [Act.put]

def RepL (P : Program) (h : Nat → Option Obj) (β : Nat → Value) (H : List Blk) (rs : List AV) (vs : List Value) : Prop :=
  vs.length = rs.length ∧ ∀ (j : Nat) x, rs[j]? = some x → ∃ v, vs[j]? = some v ∧ Rep P h β H x v

theorem RepL.nil : RepL P h β H [] [] := ⟨rfl, by simp⟩
theorem RepL.cons {r : AV} {rs : List AV} {v : Value} {vs : List Value} (a : Rep P h β H r v) (b : RepL P h β H rs vs) : RepL P h β H (r :: rs) (v :: vs) := by
  refine ⟨by simp [b.1], fun j x e => ?_⟩
  cases j with
  | zero => simp at e; subst e; exact ⟨v, rfl, a⟩
  | succ j => exact b.2 j x (by simpa using e)
theorem RepL.append {rs rs' : List AV} {vs vs' : List Value} (a : RepL P h β H rs vs) (b : RepL P h β H rs' vs') : RepL P h β H (rs ++ rs') (vs ++ vs') := by
  refine ⟨by simp [a.1, b.1], fun j x e => ?_⟩
  rcases Nat.lt_or_ge j rs.length with hj | hj
  · rw [List.getElem?_append_left hj] at e
    obtain ⟨v, h1, h2⟩ := a.2 j x e
    exact ⟨v, by rw [List.getElem?_append_left (by rw [a.1]; exact hj)]; exact h1, h2⟩
  · rw [List.getElem?_append_right hj] at e
    obtain ⟨v, h1, h2⟩ := b.2 _ x e
    exact ⟨v, by rw [List.getElem?_append_right (by rw [a.1]; exact hj), a.1]; exact h1, h2⟩
theorem Fits.evL (F : Fits P h β H σ a) : ∀ {l : List Operand} {rs : List AV}, evL σ l = some rs → RepL P h β H rs (l.map a.eval)
  | [], rs, e => by cases e; exact .nil
  | x :: l, rs, e => by
    unfold GA.evL at e
    split at e <;> cases e
    rename_i h1 h2
    exact .cons (F.ev h1) (F.evL h2)

/-- What a part of an operation comes to. -/
def Yields (P : Program) (E : Env) (h : Nat → Option Obj) (β : Nat → Value) (H : List Blk) (s : Sem Value) (w : World) (k : AV → List Blk → Prop) : Prop :=
  ∃ v w' r H' h' β', s.run P w = .ok v w' ∧ k r H' ∧ Ext h β H h' β' H' ∧ SR P E h' β' H' w' ∧ Rep P h' β' H' r v

theorem Yields.pure (s : SR P E h β H w) {m : Sem Value} {v : Value} {r : AV} {k : AV → List Blk → Prop} (hm : m.run P w = .ok v w) (hr : Rep P h β H r v) (hk : k r H) : Yields P E h β H m w k :=
  ⟨v, w, r, H, h, β, hm, hk, Ext.refl _ _ _, s, hr⟩

/-! ### numbers, truths -/
def iand (q : IntKind) (a b : Int) : Int := q.wrap (BitVec.ofInt q.bits a &&& BitVec.ofInt q.bits b).toNat
def ior (q : IntKind) (a b : Int) : Int := q.wrap (BitVec.ofInt q.bits a ||| BitVec.ofInt q.bits b).toNat
def ixor (q : IntKind) (a b : Int) : Int := q.wrap (BitVec.ofInt q.bits a ^^^ BitVec.ofInt q.bits b).toNat
def iandn (q : IntKind) (a b : Int) : Int := q.wrap (BitVec.ofInt q.bits a &&& ~~~ (BitVec.ofInt q.bits b)).toNat

def isBoolT (P : Program) (t : TypeId) : Prop := P.underlying t = some .bool
def isSlT (P : Program) (t : TypeId) : Prop := ∃ e, P.underlying t = some (.slice e)

/-- Cells of a struct or an array of numbers and truths, compared one by one; none where they cannot be. -/
def eqCells : List AV → List AV → Option Bool
  | [], [] => some true
  | .int _ a :: l, .int _ b :: m => (eqCells l m).map ((a == b) && ·)
  | .bool a :: l, .bool b :: m => (eqCells l m).map ((a == b) && ·)
  | _, _ => none

def opBin (P : Program) (t : TypeId) (op : BinOp) (x y : AV) (k : AV → Prop) : Prop :=
  match op, x, y with
  | .add, .int q a, .int q' b => q = q' ∧ k (.int q (q.wrap (a + b)))
  | .sub, .int q a, .int q' b => q = q' ∧ k (.int q (q.wrap (a - b)))
  | .mul, .int q a, .int q' b => q = q' ∧ k (.int q (q.wrap (a * b)))
  | .quo, .int q a, .int q' b => q = q' ∧ b ≠ 0 ∧ k (.int q (q.wrap (a.tdiv b)))
  | .rem, .int q a, .int q' b => q = q' ∧ b ≠ 0 ∧ k (.int q (a.tmod b))
  | .and, .int q a, .int q' b => q = q' ∧ k (.int q (iand q a b))
  | .or, .int q a, .int q' b => q = q' ∧ k (.int q (ior q a b))
  | .xor, .int q a, .int q' b => q = q' ∧ k (.int q (ixor q a b))
  | .andNot, .int q a, .int q' b => q = q' ∧ k (.int q (iandn q a b))
  | .shl, .int q a, .int _ b => 0 ≤ b ∧ k (.int q (q.wrap (a * 2 ^ (min b.toNat q.bits))))
  | .shr, .int q a, .int _ b => 0 ≤ b ∧ k (.int q (a.fdiv (2 ^ (min b.toNat q.bits))))
  | .eql, .int q a, .int q' b => q = q' ∧ k (.bool (a == b))
  | .neq, .int q a, .int q' b => q = q' ∧ k (.bool (a != b))
  | .lss, .int q a, .int q' b => q = q' ∧ k (.bool (decide (a < b)))
  | .leq, .int q a, .int q' b => q = q' ∧ k (.bool (decide (a ≤ b)))
  | .gtr, .int q a, .int q' b => q = q' ∧ k (.bool (decide (b < a)))
  | .geq, .int q a, .int q' b => q = q' ∧ k (.bool (decide (b ≤ a)))
  | .eql, .bool a, .bool b => isBoolT P t ∧ k (.bool (a == b))
  | .neq, .bool a, .bool b => isBoolT P t ∧ k (.bool (a != b))
  | .eql, .sl nl _, .sl true [] => isSlT P t ∧ k (.bool nl)
  | .neq, .sl nl _, .sl true [] => isSlT P t ∧ k (.bool (!nl))
  | _, _, _ => False

theorem rep_int {q : IntKind} {n : Int} {v : Value} (r : Rep P h β H (.int q n) v) : v = .int q n := by cases r; rfl
theorem rep_bool {b : Bool} {v : Value} (r : Rep P h β H (.bool b) v) : v = .bool b := by cases r; rfl

theorem rep_sl {nl : Bool} {els : List AV} {v : Value} (r : Rep P h β H (.sl nl els) v) : (nl = true ∧ els = [] ∧ v = .slice none 0 0) ∨ (nl = false ∧ ∃ a cap, v = .slice (some a) els.length cap) := by
  cases r with
  | slnil => exact .inl ⟨rfl, rfl, rfl⟩
  | slemp => exact .inr ⟨rfl, _, _, rfl⟩
  | sl us hn => subst hn; exact .inr ⟨rfl, _, _, rfl⟩

theorem run_eqGuard_nonifc {op : BinOp} {t : TypeId} {x y : Operand} {a b : Value} (hn : a ≠ .nilIface) (ha : ∀ cs, a ≠ .agg cs) : (eqGuard op t x y a b).run P w = .ok () w := by
  cases op <;> cases a <;> first | rfl | exact absurd rfl hn | exact absurd rfl (ha _)

theorem run_equalIn_sl (d : Nat) (t e : TypeId) (o : Option Addr) (n c : Nat) (h1 : P.underlying t = some (.slice e)) : (Op.equalIn (d + 1) t (.slice o n c) (.slice none 0 0)).run P w = .ok o.isNone w := by
  cases o <;> simp [Op.equalIn, run_underlying h1]
theorem run_eql_sl (t e : TypeId) (o : Option Addr) (n c : Nat) (h1 : P.underlying t = some (.slice e)) : (binOp .eql t (.slice o n c) (.slice none 0 0)).run P w = .ok (.bool o.isNone) w := by
  show (do pure (Value.bool (← Op.equalIn (9999 + 1) t (.slice o n c) (.slice none 0 0))) : Sem Value).run P w = _
  rw [Sem.run_bind, run_equalIn_sl 9999 t e o n c h1]; rfl
theorem run_neq_sl (t e : TypeId) (o : Option Addr) (n c : Nat) (h1 : P.underlying t = some (.slice e)) : (binOp .neq t (.slice o n c) (.slice none 0 0)).run P w = .ok (.bool !o.isNone) w := by
  show (do pure (Value.bool !(← Op.equalIn (9999 + 1) t (.slice o n c) (.slice none 0 0))) : Sem Value).run P w = _
  rw [Sem.run_bind, run_equalIn_sl 9999 t e o n c h1]; rfl

theorem opBin_sound (s : SR P E h β H w) {t : TypeId} {op : BinOp} {x y : AV} {u v : Value} (hx : Rep P h β H x u) (hy : Rep P h β H y v) {k : AV → Prop} (hk : opBin P t op x y k) (ox oy : Operand) :
    Yields P E h β H (do eqGuard op t ox oy u v; binOp op t u v) w (fun r H' => H' = H ∧ k r) := by
  have hg : ∀ {q n}, u = .int q n → (eqGuard op t ox oy u v).run P w = .ok () w := fun e => run_eqGuard_nonifc (by rw [e]; simp) (by rw [e]; simp)
  unfold opBin at hk
  split at hk
  case h_18 =>
    cases rep_bool hx; cases rep_bool hy
    obtain ⟨h1, h2⟩ := hk
    refine Yields.pure s (r := .bool _) ?_ (.bool _) ⟨rfl, h2⟩
    rw [Sem.run_bind, run_eqGuard_nonifc (by simp) (by simp)]
    exact run_eql_bool w t _ _ h1
  case h_19 =>
    cases rep_bool hx; cases rep_bool hy
    obtain ⟨h1, h2⟩ := hk
    refine Yields.pure s (r := .bool _) ?_ (.bool _) ⟨rfl, h2⟩
    rw [Sem.run_bind, run_eqGuard_nonifc (by simp) (by simp)]
    exact run_neq_bool w t _ _ h1
  case h_20 =>
    obtain ⟨⟨e, h1⟩, h2⟩ := hk
    cases hy
    rcases rep_sl hx with ⟨rfl, rfl, rfl⟩ | ⟨rfl, a, cap, rfl⟩
    · refine Yields.pure s (r := .bool true) ?_ (.bool _) ⟨rfl, h2⟩
      rw [Sem.run_bind, run_eqGuard_nonifc (by simp) (by simp)]
      exact run_eql_sl t e _ _ _ h1
    · refine Yields.pure s (r := .bool false) ?_ (.bool _) ⟨rfl, h2⟩
      rw [Sem.run_bind, run_eqGuard_nonifc (by simp) (by simp)]
      exact run_eql_sl t e _ _ _ h1
  case h_21 =>
    obtain ⟨⟨e, h1⟩, h2⟩ := hk
    cases hy
    rcases rep_sl hx with ⟨rfl, rfl, rfl⟩ | ⟨rfl, a, cap, rfl⟩
    · refine Yields.pure s (r := .bool false) ?_ (.bool _) ⟨rfl, h2⟩
      rw [Sem.run_bind, run_eqGuard_nonifc (by simp) (by simp)]
      exact run_neq_sl t e _ _ _ h1
    · refine Yields.pure s (r := .bool true) ?_ (.bool _) ⟨rfl, h2⟩
      rw [Sem.run_bind, run_eqGuard_nonifc (by simp) (by simp)]
      exact run_neq_sl t e _ _ _ h1
  case h_22 => exact hk.elim
  all_goals
    cases rep_int hx; cases rep_int hy
    first
      | (obtain ⟨rfl, h0, h2⟩ := hk
         refine Yields.pure s (r := .int _ _) ?_ (.int _ _) ⟨rfl, h2⟩
         rw [Sem.run_bind, hg rfl]
         simp [binOp, Op.intDiv, h0]; done)
      | (obtain ⟨rfl, h2⟩ := hk
         refine Yields.pure s (r := .int _ _) ?_ (.int _ _) ⟨rfl, h2⟩
         rw [Sem.run_bind, hg rfl]
         simp [binOp, Op.intArith, Op.intBits, iand, ior, ixor, iandn]; done)
      | (obtain ⟨rfl, h2⟩ := hk
         refine Yields.pure s (r := .bool _) ?_ (.bool _) ⟨rfl, h2⟩
         rw [Sem.run_bind, hg rfl]
         simp [binOp, Op.intCmp]; done)
      | (obtain ⟨h0, h2⟩ := hk
         refine Yields.pure s (r := .int _ _) ?_ (.int _ _) ⟨rfl, h2⟩
         rw [Sem.run_bind, hg rfl]
         simp [binOp, Op.shift, Int.not_lt.2 h0]; done)
end
end GA
