/- The abstract weakest precondition of code, and of a function. -/
import Derived.Test.YtlbdomhfcghjdaaAbs11
import Derived.RangeFuncRecord
namespace GA
open Go Go.RowKit

abbrev Post := Exit → List Nat → St → List Blk → Prop

/-- The frame's deferred calls are marks of blocks of one's own, or marks that nobody looks at any more. -/
inductive DfL (P : Program) (h : Nat → Option Obj) (β : Nat → Value) (H : List Blk) (en : Nat → Option Obj) : List Nat → List Deferred → Prop
  | nil : DfL P h β H en [] []
  | own {i b D ds} (r : Rep P h β H (.yld i) (.func (.yield b) #[] #[])) (t : DfL P h β H en D ds) : DfL P h β H en (i :: D) ({ target := .collected b, args := #[] } :: ds)
  | lost {b D ds} (hb : h b = some (.deferred (some []))) (he : en b = none) (nd : ∀ b', ({ target := .collected b', args := #[] } : Deferred) ∈ ds → b' ≠ b) (t : DfL P h β H en D ds) : DfL P h β H en D ({ target := .collected b, args := #[] } :: ds)
structure DfOk (P : Program) (E : Env) (h : Nat → Option Obj) (β : Nat → Value) (H : List Blk) (D : List Nat) (ds : List Deferred) : Prop where
  en : ∀ b o, E.en b = some o → h b = some o
  l : DfL P h β H E.en D ds

structure Stands (P : Program) (E : Env) (N : Nat) (h : Nat → Option Obj) (β : Nat → Value) (D : List Nat) (σ : St) (H : List Blk) (a : Act) (w : World) : Prop where
  sr : SR P E h β H w
  fits : Fits P h β H σ a
  size : a.tmps.size = N
  df : DfOk P E h β H D a.defers

/-- An abstract post, of the frame and the world. -/
def Conc (P : Program) (E : Env) (N : Nat) (h : Nat → Option Obj) (β : Nat → Value) (H : List Blk) (Q : Post) (e : Exit) (a : Act) (w : World) : Prop :=
  ∃ D' σ' H' h' β', Q e D' σ' H' ∧ Ext h β H h' β' H' ∧ Stands P E N h' β' D' σ' H' a w

def AWp (P : Program) (N : Nat) (ρ : Option Nat) (c : Code) (Q : Post) (D : List Nat) (σ : St) (H : List Blk) : Prop :=
  ∀ E h β a w, Stands P E N h β D σ H a w → c.wpIn (FW ρ) 0 P (Conc P E N h β H Q) a w

def thenQ (K : List Nat → St → List Blk → Prop) (Q : Post) : Post
  | .normal, D, σ, H => K D σ H
  | e, D, σ, H => Q e D σ H
def blockQ (id : Nat) (Q : Post) : Post
  | .exit id', D, σ, H => if id' = id then Q .normal D σ H else Q (.exit id') D σ H
  | e, D, σ, H => Q e D σ H

section
variable {P : Program} {N : Nat} {ρ : Option Nat} {D : List Nat} {σ : St} {H : List Blk} {Q : Post}

theorem DfL.ext {h h' : Nat → Option Obj} {β β' : Nat → Value} {H H' : List Blk} {en : Nat → Option Obj} (X : Ext h β H h' β' H') {D : List Nat} {ds : List Deferred} (d : DfL P h β H en D ds) : DfL P h' β' H' en D ds := by
  induction d with
  | nil => exact .nil
  | own r _ ih => exact .own (X.rep r) ih
  | lost hb he nd _ ih => exact .lost (X.imm _ _ hb) he nd ih
theorem DfOk.ext {E : Env} {h h' : Nat → Option Obj} {β β' : Nat → Value} {H H' : List Blk} {ds : List Deferred} (d : DfOk P E h β H D ds) (X : Ext h β H h' β' H') : DfOk P E h' β' H' D ds :=
  ⟨fun b o e => X.imm b o (d.en b o e), d.l.ext X⟩
theorem DfL.any {h : Nat → Option Obj} {β β' : Nat → Value} {H H' : List Blk} {en : Nat → Option Obj} {D : List Nat} {ds : List Deferred} (d : DfL P h β H en D ds) (hD : D = []) : DfL P h β' H' en D ds := by
  induction d with
  | nil => exact .nil
  | own r _ ih => cases hD
  | lost hb he nd _ ih => exact .lost hb he nd (ih hD)
/-- Without marks that are looked at, any memory will do. -/
theorem DfOk.any {E : Env} {h : Nat → Option Obj} {β β' : Nat → Value} {H H' : List Blk} {ds : List Deferred} (d : DfOk P E h β H [] ds) : DfOk P E h β' H' [] ds := ⟨d.en, d.l.any rfl⟩

theorem Conc.mono {E : Env} {h : Nat → Option Obj} {β : Nat → Value} {Q' : Post} (hq : ∀ e D σ H, Q e D σ H → Q' e D σ H) {e : Exit} {a : Act} {w : World} (x : Conc P E N h β H Q e a w) : Conc P E N h β H Q' e a w :=
  let ⟨D', σ', H', h', β', q, r⟩ := x; ⟨D', σ', H', h', β', hq _ _ _ _ q, r⟩
theorem Conc.ext {E : Env} {h h' : Nat → Option Obj} {β β' : Nat → Value} {H' : List Blk} (X : Ext h β H h' β' H') {e : Exit} {a : Act} {w : World} (x : Conc P E N h' β' H' Q e a w) : Conc P E N h β H Q e a w :=
  let ⟨D', σ', H'', h'', β'', q, X', r⟩ := x; ⟨D', σ', H'', h'', β'', q, X.trans X', r⟩

theorem AWp.mono {c : Code} {Q' : Post} (x : AWp P N ρ c Q D σ H) (hq : ∀ e D σ H, Q e D σ H → Q' e D σ H) : AWp P N ρ c Q' D σ H :=
  fun E h β a w s => wpIn_mono (x E h β a w s) fun _ _ _ => Conc.mono hq

/-- Less is known of the temporaries. -/
theorem AWp.weaken {c : Code} {σ' : St} (hs : ∀ t r, σ' t = some r → σ t = some r) (x : AWp P N ρ c Q D σ' H) : AWp P N ρ c Q D σ H :=
  fun E h β a w s => x E h β a w ⟨s.sr, fun t r e => s.fits t r (hs t r e), s.size, s.df⟩

theorem AWp.seq {c d : Code} (x : AWp P N ρ c (thenQ (AWp P N ρ d Q) Q) D σ H) : AWp P N ρ (.seq c d) Q D σ H := by
  intro E h β a w s
  refine wpIn_seq (wpIn_mono (x E h β a w s) ?_)
  rintro e a' w' ⟨D', σ', H', h', β', q, X, s'⟩
  cases e with
  | normal => exact wpIn_mono (q E h' β' a' w' s') fun _ _ _ => Conc.ext X
  | _ => exact ⟨D', σ', H', h', β', q, X, s'⟩

theorem AWp.skip (x : Q .normal D σ H) : AWp P N ρ .skip Q D σ H :=
  fun _ h β _ _ s => wpIn_skip ⟨D, σ, H, h, β, x, Ext.refl _ _ _, s⟩
theorem AWp.exit {id : Nat} (x : Q (.exit id) D σ H) : AWp P N ρ (.exit id) Q D σ H :=
  fun _ h β _ _ s => wpIn_exit ⟨D, σ, H, h, β, x, Ext.refl _ _ _, s⟩
theorem AWp.ret (x : Q .ret D σ H) : AWp P N ρ .ret Q D σ H :=
  fun _ h β _ _ s => wpIn_ret ⟨D, σ, H, h, β, x, Ext.refl _ _ _, s⟩

theorem AWp.cond {c : Operand} {x y : Code} {b : Bool} (hc : ev σ c = some (.bool b)) (h1 : b = true → AWp P N ρ x Q D σ H) (h2 : b = false → AWp P N ρ y Q D σ H) : AWp P N ρ (.cond c x y) Q D σ H := by
  intro E h β a w s
  have hv := rep_bool (s.fits.ev hc)
  cases b with
  | true => exact wpIn_cond_true hv (h1 rfl E h β a w s)
  | false => exact wpIn_cond_false hv (h2 rfl E h β a w s)

theorem AWp.block {id : Nat} {c : Code} (x : AWp P N ρ c (blockQ id Q) D σ H) : AWp P N ρ (.block id c) Q D σ H := by
  intro E h β a w s
  refine wpIn_block (wpIn_mono (x E h β a w s) ?_)
  rintro e a' w' ⟨D', σ', H', h', β', q, X, s'⟩
  cases e with
  | exit id' =>
    simp only [Exit.inBlock]
    by_cases hid : id' = id
    · rw [if_pos hid]; simp only [blockQ, hid, if_true] at q; exact ⟨D', σ', H', h', β', q, X, s'⟩
    · rw [if_neg hid]; simp only [blockQ, hid, if_false] at q; exact ⟨D', σ', H', h', β', q, X, s'⟩
  | _ => exact ⟨D', σ', H', h', β', q, X, s'⟩

theorem AWp.region {id : Nat} {ops : Array Oper} (own : List Nat) (x : AReg P N own ops.toList ops.toList σ H (fun σ' H' => Q .normal D σ' H')) : AWp P N ρ (.region id ops false) Q D σ H := by
  intro E h β a w s
  refine wpIn_region ?_
  have := AReg.sound (ρ := ρ) (Q := Conc P E N h β H Q) (a0 := a) (h0 := h) (β0 := β) (H0 := H) (fun σ' H' h' β' a' w' k X s' F kp => ⟨D, σ', H', h', β', k, X, s', F, kp.size.trans s.size, by rw [kp.defers]; exact s.df.ext X⟩)
    ops.toList 0 σ H h β a w (by simp) x (Ext.refl _ _ _) s.sr s.fits ⟨rfl, rfl⟩ s.size
  simpa using this

/-- A region, and on. -/
theorem AWp.reg {id : Nat} {ops : Array Oper} {c : Code} (own : List Nat) (x : AReg P N own ops.toList ops.toList σ H (AWp P N ρ c Q D)) : AWp P N ρ (.seq (.region id ops false) c) Q D σ H :=
  .seq (.region own x)

theorem exists_least {p : Nat → Prop} (h : ∃ n, p n) : ∃ n, p n ∧ ∀ m, m < n → ¬ p m := by
  obtain ⟨n, hn⟩ := h
  induction n using Nat.strongRecOn with
  | _ n ih =>
    by_cases hm : ∃ m, m < n ∧ p m
    · obtain ⟨m, h1, h2⟩ := hm; exact ih m h1 h2
    · exact ⟨n, hn, fun m h1 h2 => hm ⟨m, h1, h2⟩⟩

/-- A loop, by states that are numbered as one likes. -/
theorem AWp.loop {c : Code} {G : Type} (st : G → St) (hp : G → List Blk) (μ : G → Nat) (g0 : G) (hσ : ∀ t r, st g0 t = some r → σ t = some r) (hH : hp g0 = H)
    (round : ∀ g, AWp P N ρ c (thenQ (fun D' σ' H' => D' = D ∧ ∃ g', μ g' < μ g ∧ hp g' = H' ∧ ∀ t r, st g' t = some r → σ' t = some r) Q) D (st g) (hp g)) : AWp P N ρ (.loop c) Q D σ H := by
  intro E h β a w s
  subst hH
  let I : G → Act → World → Prop := fun g a w => ∃ h' β', Ext h β (hp g0) h' β' (hp g) ∧ Stands P E N h' β' D (st g) (hp g) a w
  have least : ∀ a w, (∃ g, I g a w) → ∃ n, (∃ g, I g a w ∧ μ g = n) ∧ ∀ m, m < n → ¬ ∃ g, I g a w ∧ μ g = m :=
    fun a w ⟨g, hg⟩ => exists_least ⟨μ g, g, hg, rfl⟩
  classical
  let M : Act → World → Nat := fun a w => if e : ∃ g, I g a w then Classical.choose (least a w e) else 0
  have hM : ∀ a w (e : ∃ g, I g a w), (∃ g, I g a w ∧ μ g = M a w) ∧ ∀ g, I g a w → M a w ≤ μ g := by
    intro a w e
    have hc := Classical.choose_spec (least a w e)
    have hm : M a w = Classical.choose (least a w e) := by simp only [M, dif_pos e]
    rw [hm]
    refine ⟨hc.1, fun g hg => ?_⟩
    rcases Nat.lt_or_ge (μ g) (Classical.choose (least a w e)) with hlt | hge
    · exact absurd ⟨g, hg, rfl⟩ (hc.2 _ hlt)
    · exact hge
  refine wpIn_loop (fun a w => ∃ g, I g a w) M ⟨g0, h, β, Ext.refl _ _ _, s.sr, fun t r e => s.fits t r (hσ t r e), s.size, s.df⟩ ?_
  intro a' w' hI
  obtain ⟨⟨g, hg, hmu⟩, _⟩ := hM a' w' hI
  obtain ⟨h', β', X, s'⟩ := hg
  refine wpIn_mono (round g E h' β' a' w' s') ?_
  rintro e a'' w'' ⟨D'', σ'', H'', h'', β'', q, X', s''⟩
  cases e with
  | normal =>
    obtain ⟨rfl, g', hlt, rfl, hsub⟩ := q
    have hI' : I g' a'' w'' := ⟨h'', β'', X.trans X', s''.sr, fun t r e => s''.fits t r (hsub t r e), s''.size, s''.df⟩
    refine ⟨⟨g', hI'⟩, ?_⟩
    have := (hM a'' w'' ⟨g', hI'⟩).2 g' hI'
    omega
  | _ => exact ⟨D'', σ'', H'', h'', β'', q, X.trans X', s''⟩
end

/-! ### a function -/
mutual
def AV.low (n : Nat) : AV → Bool
  | .ptr i _ | .gr i _ | .gp i _ _ _ | .mp i | .yld i => decide (i < n)
  | .pim cs | .sl _ cs | .fn _ cs | .agg cs | .tup cs => lowL n cs
  | _ => true
def lowL (n : Nat) : List AV → Bool
  | [] => true
  | x :: l => x.low n && lowL n l
end

def Blk.low (n : Nat) : Blk → Bool
  | .cells cs | .grow _ _ cs => lowL n cs
  | .map es => lowL n (es.map (·.2))
  | .lp _ _ _ tm _ _ _ _ => lowL n (tm.map (·.2))
  | _ => true

def resA (P : Program) (σ : St) (H : List Blk) : List ResultVar → (List AV → Prop) → Prop
  | [], k => k []
  | .tmp t :: l, k => bnd (σ t) fun r => resA P σ H l fun rs => k (r :: rs)
  | .cell a t :: l, k => bnd (σ a) fun p => opLoad P t H p fun r => resA P σ H l fun rs => k (r :: rs)

def pack : List AV → AV
  | [r] => r
  | rs => .tup rs

/-- What a function's body must come to: H0 is what was there when it was called. -/
def FnPost (P : Program) (res : List ResultVar) (H0 : List Blk) (k : AV → List Blk → Prop) : Post := fun e D σ H =>
  (e = .normal ∨ e = .ret) ∧ ∃ H1 l, H = H1 ++ l ∧ H0.length ≤ H1.length ∧ (∀ x ∈ H1, x ∈ H0 ∨ x.low H1.length = true) ∧ D.Nodup ∧
    (∀ i ∈ D, H1.length ≤ i ∧ H[i]? = some (.raw (.deferred (some [])))) ∧ resA P σ H res fun rs => (pack rs).low H1.length = true ∧ k (pack rs) H1

section
variable {P : Program} {N : Nat} {E : Env} {h : Nat → Option Obj} {β : Nat → Value} {H : List Blk} {w : World} {σ : St} {a : Act}

theorem lowL_iff {n : Nat} : ∀ {l : List AV}, lowL n l = true ↔ ∀ x ∈ l, x.low n = true
  | [] => by simp [lowL]
  | x :: l => by simp [lowL, lowL_iff (l := l)]

theorem AV.low_mono {n m : Nat} (hl : n ≤ m) : ∀ {a : AV}, a.low n = true → a.low m = true := by
  intro a
  induction a using AV.rec (motive_2 := fun l => lowL n l = true → lowL m l = true) with
  | ptr | gr | gp | mp | yld => simp only [AV.low, decide_eq_true_eq]; omega
  | pim _ ih | sl _ _ ih | fn _ _ ih | agg _ ih | tup _ ih => simpa only [AV.low] using ih
  | nil => rfl
  | cons x l h1 h2 => rename_i e; simp only [lowL, Bool.and_eq_true] at e ⊢; exact ⟨h1 e.1, h2 e.2⟩
  | _ => exact fun _ => rfl
theorem lowL_mono {n m : Nat} (hl : n ≤ m) {l : List AV} (e : lowL n l = true) : lowL m l = true := by
  rw [lowL_iff] at e ⊢; exact fun x hx => AV.low_mono hl (e x hx)
theorem low_mono {n m : Nat} (hl : n ≤ m) {x : Blk} (e : x.low n = true) : x.low m = true := by
  cases x <;> first | rfl | exact lowL_mono hl e

theorem low_cells {n : Nat} {e : AV} : e.low n = true ↔ ∀ x ∈ e.cells, x.low n = true := by
  cases e <;> simp [AV.cells]
  simp [AV.low, lowL_iff]
theorem low_flat {n : Nat} {l : List AV} : lowL n l = true ↔ ∀ x ∈ flat l, x.low n = true := by
  rw [lowL_iff]
  constructor
  · intro hb x hx
    obtain ⟨e, he, hx⟩ := List.mem_flatMap.1 hx
    exact low_cells.1 (hb e he) x hx
  · intro hb e he
    exact low_cells.2 fun x hx => hb x (List.mem_flatMap.2 ⟨e, he, hx⟩)

theorem mem_get {α : Type} {l : List α} {x : α} (hx : x ∈ l) : ∃ j : Nat, l[j]? = some x := List.mem_iff_getElem?.1 hx

theorem Rep.low {r : AV} {v : Value} (hr : Rep P h β H r v) : r.low H.length = true := by
  induction hr with
  | ptr hi => have := hi.lt; simp [AV.low, this]
  | gr _ hi => have := hi.lt; simp [AV.low, this]
  | gp hi => have := hi.lt; simp [AV.low, this]
  | mp hi => have := hi.lt; simp [AV.low, this]
  | yld hi => have := hi.lt; simp [AV.low, this]
  | pim us _ _ _ _ ih => simp only [AV.low]; rw [lowL_iff]; intro x hx; obtain ⟨j, e⟩ := mem_get hx; exact ih j x e
  | sl us _ _ _ _ _ _ _ _ _ ih => simp only [AV.low]; rw [low_flat]; intro x hx; obtain ⟨j, e⟩ := mem_get hx; exact ih j x e
  | fn us _ _ _ ih => simp only [AV.low]; rw [lowL_iff]; intro x hx; obtain ⟨j, e⟩ := mem_get hx; exact ih j x e
  | agg us _ _ _ _ ih => simp only [AV.low]; rw [lowL_iff]; intro x hx; obtain ⟨j, e⟩ := mem_get hx; exact ih j x e
  | tup us _ _ _ ih => simp only [AV.low]; rw [lowL_iff]; intro x hx; obtain ⟨j, e⟩ := mem_get hx; exact ih j x e
  | _ => rfl

theorem Rep.cut {l : List Blk} {r : AV} {v : Value} (hr : Rep P h β (H ++ l) r v) (hb : r.low H.length = true) : Rep P h β H r v := by
  have hg : ∀ {i : Nat}, i < H.length → (H ++ l)[i]? = H[i]? := fun hi => List.getElem?_append_left hi
  induction hr with
  | bool b => exact .bool b
  | int k n => exact .int k n
  | nilp => exact .nilp
  | ptr hi h1 => simp only [AV.low, decide_eq_true_eq] at hb; exact .ptr (hi.app hb) (by rw [hg hb] at h1; exact h1)
  | pim us h1 h2 h3 _ ih =>
    simp only [AV.low] at hb; rw [lowL_iff] at hb
    exact .pim us h1 h2 h3 fun j x e => ih j x e (hb x (List.mem_of_getElem? e))
  | slnil => exact .slnil
  | slemp => exact .slemp
  | sl us h1 h2 h3 h4 h5 h6 h7 h8 _ ih =>
    simp only [AV.low] at hb; rw [low_flat] at hb
    exact .sl us h1 h2 h3 h4 h5 h6 h7 h8 fun j x e => ih j x e (hb x (List.mem_of_getElem? e))
  | se => exact .se
  | gr ho hi h1 => simp only [AV.low, decide_eq_true_eq] at hb; exact .gr ho (hi.app hb) (by rw [hg hb] at h1; exact h1)
  | gp hi h1 => simp only [AV.low, decide_eq_true_eq] at hb; exact .gp (hi.app hb) (by rw [hg hb] at h1; exact h1)
  | nilm => exact .nilm
  | mp hi h1 => simp only [AV.low, decide_eq_true_eq] at hb; exact .mp (hi.app hb) (by rw [hg hb] at h1; exact h1)
  | nilf => exact .nilf
  | yld hi h1 => simp only [AV.low, decide_eq_true_eq] at hb; exact .yld (hi.app hb) (by rw [hg hb] at h1; exact h1)
  | fn us h1 h2 _ ih =>
    simp only [AV.low] at hb; rw [lowL_iff] at hb
    exact .fn us h1 h2 fun j x e => ih j x e (hb x (List.mem_of_getElem? e))
  | agg us h1 h2 h3 _ ih =>
    simp only [AV.low] at hb; rw [lowL_iff] at hb
    exact .agg us h1 h2 h3 fun j x e => ih j x e (hb x (List.mem_of_getElem? e))
  | tup us h1 h2 _ ih =>
    simp only [AV.low] at hb; rw [lowL_iff] at hb
    exact .tup us h1 h2 fun j x e => ih j x e (hb x (List.mem_of_getElem? e))

theorem SR.low (s : SR P E h β H w) {i : Nat} {x : Blk} (hx : H[i]? = some x) : x.low H.length = true := by
  have k := s.blk i x hx
  cases x with
  | dead => rfl
  | free => rfl
  | raw o => rfl
  | lp st pend f tm ps x y n =>
    obtain ⟨b, dfr, tmps, h1, h2, h3, h4⟩ := k
    simp only [Blk.low]; rw [lowL_iff]; intro x hx
    obtain ⟨⟨q, y⟩, hy, rfl⟩ := List.mem_map.1 hx
    obtain ⟨v, _, h5⟩ := h4 q y hy; exact h5.low
  | cells cs =>
    obtain ⟨b, c, t, h1, h2, h3, h4, us, h5, h6⟩ := k
    simp only [Blk.low]; rw [lowL_iff]; intro x hx; obtain ⟨j, e⟩ := mem_get hx; exact (h6 j x e).low
  | grow t nl els =>
    rcases k with ⟨_, rfl, _⟩ | ⟨_, rfl, _⟩ | ⟨_, b, cap, c, _, _, _, _, _, _, _, _, _, us, _, h6⟩
    · rfl
    · rfl
    · simp only [Blk.low]; rw [low_flat]; intro x hx; obtain ⟨j, e⟩ := mem_get hx; exact (h6 j x e).low
  | map es =>
    obtain ⟨r, ents, clock, _, _, _, _, us, h5⟩ := k
    simp only [Blk.low]; rw [lowL_iff]; intro x hx
    obtain ⟨⟨q, y⟩, hy, rfl⟩ := List.mem_map.1 hx
    obtain ⟨j, e⟩ := mem_get hy; exact (h5 j q y e).1.low

theorem SR.cut {l : List Blk} (s : SR P E h β (H ++ l) w) (hb : ∀ x ∈ H, x.low H.length = true) : SR P E h β H w := by
  have hg : ∀ {i : Nat}, i < H.length → (H ++ l)[i]? = H[i]? := fun hi => List.getElem?_append_left hi
  have hbo : ∀ {i b}, blkOf β H i = some b → blkOf β (H ++ l) i = some b := fun {i b} e => by rw [← e]; exact blkOf_congr rfl (hg (blkOf_some e).1)
  refine ⟨s.env, s.imm, fun i x e => ?_, fun i j b h1 h2 => s.own i j b (hbo h1) (hbo h2), fun i b h1 => s.fresh i b (hbo h1), s.frm, fun i b h1 => s.fro i b (hbo h1)⟩
  have hi := (List.getElem?_eq_some_iff.1 e).1
  have k := s.blk i x (by rw [hg hi]; exact e)
  have hbx := hb x (List.mem_of_getElem? e)
  cases x with
  | dead => trivial
  | free => trivial
  | raw o => exact k
  | lp st pend f tm ps x y n =>
    obtain ⟨b, dfr, tmps, h1, h2, h3, h4⟩ := k
    simp only [Blk.low] at hbx; rw [lowL_iff] at hbx
    exact ⟨b, dfr, tmps, h1, h2, h3, fun t r e => let ⟨v, a, c⟩ := h4 t r e; ⟨v, a, c.cut (hbx r (List.mem_map.2 ⟨_, e, rfl⟩))⟩⟩
  | cells cs =>
    obtain ⟨b, c, t, h1, h2, h3, h4, us, h5, h6⟩ := k
    simp only [Blk.low] at hbx; rw [lowL_iff] at hbx
    exact ⟨b, c, t, h1, h2, h3, h4, us, h5, fun j x e => (h6 j x e).cut (hbx x (List.mem_of_getElem? e))⟩
  | grow t nl els =>
    rcases k with k | k | ⟨h0, b, cap, c, h1, h2, h3, h4, h5, h6, h7, h8, h9, us, h10, h11⟩
    · exact .inl k
    · exact .inr (.inl k)
    · simp only [Blk.low] at hbx; rw [low_flat] at hbx
      exact .inr (.inr ⟨h0, b, cap, c, h1, h2, h3, h4, h5, h6, h7, h8, h9, us, h10, fun j x e => (h11 j x e).cut (hbx x (List.mem_of_getElem? e))⟩)
  | map es =>
    obtain ⟨r, ents, clock, h1, h2, h3, h4, us, h5⟩ := k
    simp only [Blk.low] at hbx; rw [lowL_iff] at hbx
    exact ⟨r, ents, clock, h1, h2, h3, h4, us, fun j q x e => ⟨(h5 j q x e).1.cut (hbx x (List.mem_map.2 ⟨_, List.mem_of_getElem? e, rfl⟩)), (h5 j q x e).2⟩⟩

theorem Ext.cut {h0 : Nat → Option Obj} {β0 : Nat → Value} {H0 l : List Blk} (X : Ext h0 β0 H0 h β (H ++ l)) (hl : H0.length ≤ H.length) : Ext h0 β0 H0 h β H :=
  ⟨X.imm, hl, fun i x x' e e' => X.to i x x' e (by rw [List.getElem?_append_left (List.getElem?_eq_some_iff.1 e').1]; exact e')⟩

def resF (a : Act) : ResultVar → Sem Value
  | .tmp t => pure (a.tmps.getD t undef)
  | .cell p t => do loadVar t (← asAddr (a.tmps.getD p undef))

/-- The results are read. -/
theorem resA_run (s : SR P E h β H w) (F : Fits P h β H σ a) : ∀ {l : List ResultVar} {k : List AV → Prop}, resA P σ H l k →
    ∃ vs rs, (l.mapM (resF a)).run P w = .ok vs w ∧ RepL P h β H rs vs ∧ k rs
  | [], k, hk => ⟨[], [], rfl, .nil, hk⟩
  | .tmp t :: l, k, hk => by
    obtain ⟨r, h1, hk⟩ := bnd_elim hk
    obtain ⟨v, h2, h3⟩ := F t r h1
    obtain ⟨vs, rs, e1, e2, e3⟩ := resA_run s F hk
    refine ⟨v :: vs, r :: rs, ?_, .cons h3 e2, e3⟩
    have hx : (resF a (.tmp t)).run P w = .ok v w := by simp [resF, h2]
    rw [List.mapM_cons, Sem.run_bind, hx, Result.andThen_ok, Sem.run_bind, e1]; rfl
  | .cell p t :: l, k, hk => by
    obtain ⟨r, h1, hk⟩ := bnd_elim hk
    obtain ⟨v, h2, h3⟩ := F p r h1
    obtain ⟨ad, u, r', rfl, h4, h5, h6⟩ := opLoad_pure s h3 hk
    obtain ⟨vs, rs, e1, e2, e3⟩ := resA_run s F h6
    refine ⟨u :: vs, r' :: rs, ?_, .cons h5 e2, e3⟩
    have hx : (resF a (.cell p t)).run P w = .ok u w := by simp [resF, h2, asAddr, h4]
    rw [List.mapM_cons, Sem.run_bind, hx, Result.andThen_ok, Sem.run_bind, e1]; rfl

theorem pack_rep {rs : List AV} {vs : List Value} (hr : RepL P h β H rs vs) : Rep P h β H (pack rs) (if h : vs.toArray.size = 1 then vs.toArray[0] else .tuple vs.toArray) := by
  obtain ⟨h1, h2⟩ := hr
  have tup : vs.length ≠ 1 → Rep P h β H (.tup rs) (.tuple vs.toArray) := fun _ =>
    .tup (fun j => vs.getD j undef) (by simpa using h1) (fun j x e => by obtain ⟨v, g1, _⟩ := h2 j x e; simp [g1]) (fun j x e => by obtain ⟨v, g1, g2⟩ := h2 j x e; simp [g1, g2])
  match rs, vs, h1, h2, tup with
  | [r], [v], _, h2, _ => obtain ⟨u, g1, g2⟩ := h2 0 r rfl; simp at g1; subst g1; simpa [pack] using g2
  | [], [], _, _, tup => simpa [pack] using tup (by simp)
  | r :: r' :: rs, v :: v' :: vs, _, _, tup => simpa [pack] using tup (by simp)

theorem results_run (s : SR P E h β H w) (F : Fits P h β H σ a) {fn : Func} {k : List AV → Prop} (hk : resA P σ H fn.results.toList k) :
    ∃ v rs, (results fn a.tmps).run P w = .ok v w ∧ Rep P h β H (pack rs) v ∧ k rs := by
  obtain ⟨vs, rs, e1, e2, e3⟩ := resA_run s F hk
  refine ⟨_, rs, ?_, pack_rep e2, e3⟩
  show (do let vs ← fn.results.mapM (resF a); pure (if h : vs.size = 1 then vs[0] else .tuple vs) : Sem Value).run P w = _
  rw [Sem.run_bind, Array.mapM_eq_mapM_toList, Sem.run_map, e1]
  rfl
end
end GA
