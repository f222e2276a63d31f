/- Abstract values, and how they stand for values in a world: the relation, and that it is kept. -/
import Derived.WalkKit
import Derived.CallsIn
import Derived.OrdersIn
namespace GA
open Go

/-- An abstract value: what a Go value reads as; memory that the run owns stands under a number. -/
inductive AV where
  | bool (b : Bool)
  | int (k : IntKind) (n : Int)
  | nilp
  | ptr (i o : Nat)
  | pim (cs : List AV)
  | sl (nl : Bool) (els : List AV)
  | se
  | gr (i n : Nat)
  | gp (i n e o : Nat)
  | nilm
  | mp (i : Nat)
  | nilf
  | fn (f : FuncId) (caps : List AV)
  | yld (i : Nat)
  | agg (cs : List AV)
  | tup (vs : List AV)
  deriving Inhabited

def AV.cells : AV → List AV
  | .agg cs => cs
  | a => [a]
def AV.one : AV → Bool
  | .agg _ | .tup _ => false
  | _ => true
def flat (els : List AV) : List AV := els.flatMap AV.cells

inductive Blk where
  | dead
  | free
  | cells (cs : List AV)
  | grow (t : TypeId) (nl : Bool) (els : List AV)
  | map (es : List (Int × AV))
  | raw (o : Obj)
  | lp (st : LoopState) (pend : Option Code) (f : FuncId) (tm : List (Nat × AV)) (ps : Array Tmp) (assign body : Code) (n : Nat)
  deriving Inhabited
def Blk.isFree : Blk → Bool
  | .free => true
  | _ => false
/-- The blocks that a yield, or a mark, stands for. -/
def Blk.isRec : Blk → Bool
  | .raw _ | .lp .. => true
  | _ => false
def live (H : List Blk) (i : Nat) : Prop := ∃ x, H[i]? = some x ∧ x.isFree = false
theorem live.lt {H : List Blk} {i : Nat} (h : live H i) : i < H.length := let ⟨_, h1, _⟩ := h; (List.getElem?_eq_some_iff.1 h1).1
theorem live.push {H : List Blk} {x : Blk} (h : x.isFree = false) : live (H ++ [x]) H.length := ⟨x, by simp, h⟩
theorem live.set {H : List Blk} {i : Nat} {x : Blk} (hi : i < H.length) (h : x.isFree = false) : live (H.set i x) i := ⟨x, by simp [hi], h⟩
theorem live.app {H l : List Blk} {i : Nat} (hi : i < H.length) (h : live (H ++ l) i) : live H i := let ⟨x, h1, h2⟩ := h; ⟨x, by rw [List.getElem?_append_left hi] at h1; exact h1, h2⟩
theorem live.of {H : List Blk} {i : Nat} {x : Blk} (h : H[i]? = some x) (h2 : x.isFree = false) : live H i := ⟨x, h, h2⟩
theorem live.nil {i : Nat} (h : live [] i) : False := by obtain ⟨_, h, _⟩ := h; simp at h

def sz (P : Program) (t : TypeId) : Nat := (P.info? t).elim 0 (·.size)
def isAg (P : Program) (t : TypeId) : Bool := match P.underlying t with | some (.struct _) | some (.array _ _) => true | _ => false

inductive Rep (P : Program) (h : Nat → Option Obj) (β : Nat → Value) (H : List Blk) : AV → Value → Prop
  | bool (b) : Rep P h β H (.bool b) (.bool b)
  | int (k n) : Rep P h β H (.int k n) (.int k n)
  | nilp : Rep P h β H .nilp (.pointer none)
  | ptr {i o b} (hi : live H i) (hb : ∀ cs, H[i]? = some (.cells cs) → β i = .pointer (some ⟨b, 0, none⟩)) : Rep P h β H (.ptr i o) (.pointer (some ⟨b, o, none⟩))
  | pim {b off c t fz cs} (us : Nat → Value) (hone : ∀ x ∈ cs, x.one = true) (hb : h b = some (.cells c t fz)) (hc : ∀ (j : Nat) x, cs[j]? = some x → c[off + j]? = some (us j))
      (hr : ∀ (j : Nat) x, cs[j]? = some x → Rep P h β H x (us j)) : Rep P h β H (.pim cs) (.pointer (some ⟨b, off, none⟩))
  | slnil : Rep P h β H (.sl true []) (.slice none 0 0)
  | slemp {a cap} : Rep P h β H (.sl false []) (.slice (some a) 0 cap)
  | sl {b off cap c t fz els w n} (us : Nat → Value) (hn : n = els.length) (hne : els ≠ []) (hb : h b = some (.cells c t fz)) (hw : ∀ e ∈ els, e.cells.length = w) (hw0 : 0 < w) (hone : ∀ x ∈ flat els, x.one = true) (hcap : els.length ≤ cap)
      (hc : ∀ (j : Nat) x, (flat els)[j]? = some x → c[off + j]? = some (us j)) (hr : ∀ (j : Nat) x, (flat els)[j]? = some x → Rep P h β H x (us j)) :
      Rep P h β H (.sl false els) (.slice (some ⟨b, off, none⟩) n cap)
  | se {a} : Rep P h β H .se (.slice (some a) 0 0)
  | gr {i n v} (ho : v.oneCell' = true) (hi : live H i) (hv : ∀ t nl els, H[i]? = some (.grow t nl els) → n ≤ els.length ∧ (els.length = n → v = β i)) : Rep P h β H (.gr i n) v
  | gp {i n e o b q} (hi : live H i) (hv : ∀ t nl els, H[i]? = some (.grow t nl els) → n ≤ els.length ∧
      (els.length = n → q = e * sz P t + o ∧ ∃ len cap, β i = .slice (some ⟨b, 0, none⟩) len cap)) : Rep P h β H (.gp i n e o) (.pointer (some ⟨b, q, none⟩))
  | nilm : Rep P h β H .nilm (.map none)
  | mp {i r} (hi : live H i) (hb : ∀ es, H[i]? = some (.map es) → β i = .map (some r)) : Rep P h β H (.mp i) (.map (some r))
  | nilf : Rep P h β H .nilf .nilFunc
  | yld {i b} (hi : live H i) (hb : ∀ x, H[i]? = some x → x.isRec = true → β i = .pointer (some ⟨b, 0, none⟩)) : Rep P h β H (.yld i) (.func (.yield b) #[] #[])
  | fn {f caps vs} (us : Nat → Value) (hs : vs.size = caps.length) (hc : ∀ (j : Nat) x, caps[j]? = some x → vs[j]? = some (us j)) (hr : ∀ (j : Nat) x, caps[j]? = some x → Rep P h β H x (us j)) :
      Rep P h β H (.fn f caps) (.func (.func f) #[] vs)
  | agg {cs vs} (us : Nat → Value) (hs : vs.size = cs.length) (hone : ∀ x ∈ cs, x.one = true) (hc : ∀ (j : Nat) x, cs[j]? = some x → vs[j]? = some (us j)) (hr : ∀ (j : Nat) x, cs[j]? = some x → Rep P h β H x (us j)) :
      Rep P h β H (.agg cs) (.agg vs)
  | tup {cs vs} (us : Nat → Value) (hs : vs.size = cs.length) (hc : ∀ (j : Nat) x, cs[j]? = some x → vs[j]? = some (us j)) (hr : ∀ (j : Nat) x, cs[j]? = some x → Rep P h β H x (us j)) :
      Rep P h β H (.tup cs) (.tuple vs)

/-- What becomes of a block: it stays what it is, or dies; a slice that owns its row only gets longer. -/
def Blk.to (β β' : Nat → Value) (i : Nat) : Blk → Blk → Prop
  | .dead, b => b = .dead
  | .free, _ => True
  | .cells _, b => b = .dead ∨ ∃ cs', b = .cells cs' ∧ β' i = β i
  | .grow t _ els, b => b = .dead ∨ ∃ nl' els', b = .grow t nl' els' ∧ els.length ≤ els'.length ∧ (els'.length = els.length → β' i = β i)
  | .map _, b => b = .dead ∨ ∃ es', b = .map es' ∧ β' i = β i
  | .raw _, b => b = .dead ∨ ∃ o', b = .raw o' ∧ β' i = β i
  | .lp _ _ f tm ps x y n, b => b = .dead ∨ ∃ st' pend', b = .lp st' pend' f tm ps x y n ∧ β' i = β i

structure Ext (h : Nat → Option Obj) (β : Nat → Value) (H : List Blk) (h' : Nat → Option Obj) (β' : Nat → Value) (H' : List Blk) : Prop where
  imm : ∀ b o, h b = some o → h' b = some o
  len : H.length ≤ H'.length
  to : ∀ (i : Nat) (x x' : Blk), H[i]? = some x → H'[i]? = some x' → x.to β β' i x'

theorem Blk.to_refl (β : Nat → Value) (i : Nat) (x : Blk) : x.to β β i x := by
  cases x with
  | dead => rfl
  | free => trivial
  | cells cs => exact .inr ⟨_, rfl, rfl⟩
  | grow t nl els => exact .inr ⟨_, _, rfl, Nat.le_refl _, fun _ => rfl⟩
  | map es => exact .inr ⟨_, rfl, rfl⟩
  | raw o => exact .inr ⟨_, rfl, rfl⟩
  | lp st pend f tm ps x y n => exact .inr ⟨_, _, rfl, rfl⟩

theorem Blk.to_trans {β β' β'' : Nat → Value} {i : Nat} {x y z : Blk} (h : x.to β β' i y) (k : y.to β' β'' i z) : x.to β β'' i z := by
  cases x with
  | dead => simp only [Blk.to] at h; subst h; exact k
  | free => trivial
  | lp st pend f tm ps x y n =>
    rcases h with rfl | ⟨st', pend', rfl, hb⟩
    · exact .inl k
    · rcases k with rfl | ⟨st'', pend'', rfl, hb'⟩
      · exact .inl rfl
      · exact .inr ⟨st'', pend'', rfl, hb'.trans hb⟩
  | cells cs =>
    rcases h with rfl | ⟨cs', rfl, hb⟩
    · exact .inl k
    · rcases k with rfl | ⟨cs'', rfl, hb'⟩
      · exact .inl rfl
      · exact .inr ⟨cs'', rfl, hb'.trans hb⟩
  | map es =>
    rcases h with rfl | ⟨cs', rfl, hb⟩
    · exact .inl k
    · rcases k with rfl | ⟨cs'', rfl, hb'⟩
      · exact .inl rfl
      · exact .inr ⟨cs'', rfl, hb'.trans hb⟩
  | raw o =>
    rcases h with rfl | ⟨cs', rfl, hb⟩
    · exact .inl k
    · rcases k with rfl | ⟨cs'', rfl, hb'⟩
      · exact .inl rfl
      · exact .inr ⟨cs'', rfl, hb'.trans hb⟩
  | grow t nl els =>
    rcases h with rfl | ⟨nl', els', rfl, hl, hb⟩
    · exact .inl k
    · rcases k with rfl | ⟨nl'', els'', rfl, hl', hb'⟩
      · exact .inl rfl
      · exact .inr ⟨nl'', els'', rfl, by omega, fun e => (hb' (by omega)).trans (hb (by omega))⟩

theorem Ext.refl (h : Nat → Option Obj) (β : Nat → Value) (H : List Blk) : Ext h β H h β H :=
  ⟨fun _ _ h => h, Nat.le_refl _, fun i x x' e e' => by rw [e] at e'; cases e'; exact Blk.to_refl _ _ _⟩

theorem Ext.trans {h h' h'' : Nat → Option Obj} {β β' β'' : Nat → Value} {H H' H'' : List Blk} (a : Ext h β H h' β' H') (b : Ext h' β' H' h'' β'' H'') : Ext h β H h'' β'' H'' := by
  refine ⟨fun x o e => b.imm _ _ (a.imm _ _ e), Nat.le_trans a.len b.len, fun i x x'' e e'' => ?_⟩
  have hi : i < H.length := (List.getElem?_eq_some_iff.1 e).1
  have hi' : i < H'.length := Nat.lt_of_lt_of_le hi a.len
  have e' : H'[i]? = some H'[i] := List.getElem?_eq_getElem hi'
  exact Blk.to_trans (a.to i x _ e e') (b.to i _ x'' e' e'')

theorem Ext.live {h h' : Nat → Option Obj} {β β' : Nat → Value} {H H' : List Blk} (E : Ext h β H h' β' H') {i : Nat} (l : live H i) : live H' i := by
  obtain ⟨x, h1, h2⟩ := l
  have hi : i < H'.length := Nat.lt_of_lt_of_le (List.getElem?_eq_some_iff.1 h1).1 E.len
  refine ⟨H'[i], List.getElem?_eq_getElem hi, ?_⟩
  have h3 := E.to i x _ h1 (List.getElem?_eq_getElem hi)
  generalize H'[i] = y at h3
  cases x with
  | free => cases h2
  | dead => simp only [Blk.to] at h3; subst h3; rfl
  | cells cs => rcases h3 with rfl | ⟨_, rfl, _⟩ <;> rfl
  | grow t nl els => rcases h3 with rfl | ⟨_, _, rfl, _⟩ <;> rfl
  | map es => rcases h3 with rfl | ⟨_, rfl, _⟩ <;> rfl
  | raw o => rcases h3 with rfl | ⟨_, rfl, _⟩ <;> rfl
  | lp st pend f tm ps x y n => rcases h3 with rfl | ⟨_, _, rfl, _⟩ <;> rfl
theorem Ext.rep {P : Program} {h h' : Nat → Option Obj} {β β' : Nat → Value} {H H' : List Blk} (E : Ext h β H h' β' H') {a : AV} {v : Value} (r : Rep P h β H a v) : Rep P h' β' H' a v := by
  induction r with
  | bool b => exact .bool b
  | int k n => exact .int k n
  | nilp => exact .nilp
  | @ptr i o b hi hb =>
    refine .ptr (E.live hi) fun cs e => ?_
    obtain ⟨x, hx, hf⟩ := hi
    have h1 := E.to i x _ hx e
    cases x with
    | free => cases hf
    | cells cs0 =>
      rcases h1 with h1 | ⟨_, _, h1⟩
      · cases h1
      · rw [h1]; exact hb cs0 hx
    | dead => simp [Blk.to] at h1
    | grow t nl els => simp [Blk.to] at h1
    | map es => simp [Blk.to] at h1
    | raw o => simp [Blk.to] at h1
    | lp st pend f tm ps x y n => simp [Blk.to] at h1
  | pim us hone hb hc _ ih => exact .pim us hone (E.imm _ _ hb) hc ih
  | slnil => exact .slnil
  | slemp => exact .slemp
  | sl us hn hne hb hw hw0 hone hcap hc _ ih => exact .sl us hn hne (E.imm _ _ hb) hw hw0 hone hcap hc ih
  | se => exact .se
  | @gr i n v ho hi hv =>
    refine .gr ho (E.live hi) fun t nl els e => ?_
    obtain ⟨x, hx, hf⟩ := hi
    have h1 := E.to i x _ hx e
    cases x with
    | free => cases hf
    | grow t0 nl0 els0 =>
      rcases h1 with h1 | ⟨nl', els', h1, hl, hb⟩
      · cases h1
      · cases h1
        obtain ⟨h2, h3⟩ := hv t nl0 els0 hx
        exact ⟨by omega, fun hn => by rw [hb (by omega)]; exact h3 (by omega)⟩
    | dead => simp [Blk.to] at h1
    | cells cs => simp [Blk.to] at h1
    | map es => simp [Blk.to] at h1
    | raw o => simp [Blk.to] at h1
    | lp st pend f tm ps x y n => simp [Blk.to] at h1
  | @gp i n e o b q hi hv =>
    refine .gp (E.live hi) fun t nl els e => ?_
    obtain ⟨x, hx, hf⟩ := hi
    have h1 := E.to i x _ hx e
    cases x with
    | free => cases hf
    | grow t0 nl0 els0 =>
      rcases h1 with h1 | ⟨nl', els', h1, hl, hb⟩
      · cases h1
      · cases h1
        obtain ⟨h2, h3⟩ := hv t nl0 els0 hx
        exact ⟨by omega, fun hn => by rw [hb (by omega)]; exact h3 (by omega)⟩
    | dead => simp [Blk.to] at h1
    | cells cs => simp [Blk.to] at h1
    | map es => simp [Blk.to] at h1
    | raw o => simp [Blk.to] at h1
    | lp st pend f tm ps x y n => simp [Blk.to] at h1
  | nilm => exact .nilm
  | @mp i r hi hb =>
    refine .mp (E.live hi) fun cs e => ?_
    obtain ⟨x, hx, hf⟩ := hi
    have h1 := E.to i x _ hx e
    cases x with
    | free => cases hf
    | map cs0 =>
      rcases h1 with h1 | ⟨_, _, h1⟩
      · cases h1
      · rw [h1]; exact hb cs0 hx
    | dead => simp [Blk.to] at h1
    | grow t nl els => simp [Blk.to] at h1
    | cells es => simp [Blk.to] at h1
    | raw o => simp [Blk.to] at h1
    | lp st pend f tm ps x y n => simp [Blk.to] at h1
  | nilf => exact .nilf
  | @yld i b hi hb =>
    refine .yld (E.live hi) fun y e hy => ?_
    obtain ⟨x, hx, hf⟩ := hi
    have h1 := E.to i x _ hx e
    cases x with
    | free => cases hf
    | raw o =>
      rcases h1 with h1 | ⟨_, _, h1⟩
      · subst h1; cases hy
      · rw [h1]; exact hb _ hx rfl
    | lp st pend f tm ps x y n =>
      rcases h1 with h1 | ⟨_, _, _, h1⟩
      · subst h1; cases hy
      · rw [h1]; exact hb _ hx rfl
    | dead => simp [Blk.to] at h1; subst h1; cases hy
    | cells cs => rcases h1 with rfl | ⟨_, rfl, _⟩ <;> cases hy
    | grow t nl els => rcases h1 with rfl | ⟨_, _, rfl, _⟩ <;> cases hy
    | map es => rcases h1 with rfl | ⟨_, rfl, _⟩ <;> cases hy
  | fn us hs hc _ ih => exact .fn us hs hc ih
  | agg us hs hone hc _ ih => exact .agg us hs hone hc ih
  | tup us hs hc _ ih => exact .tup us hs hc ih

theorem Rep.one {P : Program} {h : Nat → Option Obj} {β : Nat → Value} {H : List Blk} {a : AV} {v : Value} (r : Rep P h β H a v) (ho : a.one = true) : v.oneCell' = true := by
  cases r <;> first | rfl | assumption | (simp [AV.one] at ho; done)

end GA
