/- Calls, ends and loops. -/
import Derived.Test.YtlbdomhfcghjdaaAbs16
namespace GA
set_option linter.unusedVariables false
open Go Go.RowKit

/-- A call that comes to one value, and leaves the owned memory as it was. -/
def Ret (r0 : AV) (H0 : List Blk) : AV → List Blk → Prop := fun r H => r = r0 ∧ H = H0

section
variable {P : Program} {T : Tab} {N : Nat} {ρ : Option Nat} {own : List Nat} {E : Env} {h : Nat → Option Obj} {β : Nat → Value} {H : List Blk} {w : World} {σ : St} {a : Act}

/-- All memory, one's own as well, as memory that stays. -/
noncomputable def hall (h : Nat → Option Obj) (β : Nat → Value) (H : List Blk) (w : World) : Nat → Option Obj := by
  classical exact fun b => if ∃ i, blkOf β H i = some b then w.heap[b]? else h b
theorem hall_own {b i : Nat} (e : blkOf β H i = some b) : hall h β H w b = w.heap[b]? := by
  unfold hall; rw [if_pos ⟨i, e⟩]
theorem hall_imm (s : SR P E h β H w) {b : Nat} {o : Obj} (e : h b = some o) : hall h β H w b = some o := by
  unfold hall; split
  · rename_i hh; obtain ⟨i, hi⟩ := hh; rw [s.fresh _ _ hi] at e; cases e
  · exact e

/-- All one's own memory given up. -/
theorem SR.all (s : SR P E h β H w) : SR P E (hall h β H w) β [] w := by
  refine ⟨s.env, fun b o e => ?_, fun i x e => by simp at e, fun i j x e => by simp [blkOf] at e, fun i x e => by simp [blkOf] at e, fun b o e => ⟨(s.frm b o e).1, ?_⟩, fun i x e => by simp [blkOf] at e⟩
  · unfold hall at e; split at e
    · exact e
    · exact s.imm b o e
  · unfold hall; split
    · rename_i hh; obtain ⟨i, hi⟩ := hh; rw [s.fro _ _ hi] at e; cases e
    · exact (s.frm b o e).2

/-- A value as it reads when all own memory stays as it is. -/
def Froz (P : Program) (H : List Blk) (r r' : AV) : Prop :=
  ∀ E h β w, SR P E h β H w → ∀ v, Rep P h β H r v → Rep P (hall h β H w) β [] r' v
def FrozL (P : Program) (H : List Blk) (rs rs' : List AV) : Prop := rs'.length = rs.length ∧ ∀ (j : Nat) x, rs'[j]? = some x → ∃ y, rs[j]? = some y ∧ Froz P H y x

theorem Rep.none {β' : Nat → Value} {r : AV} {v : Value} (x : Rep P h β [] r v) : Rep P h β' H r v := by
  induction x with
  | bool b => exact .bool b
  | int k n => exact .int k n
  | nilp => exact .nilp
  | ptr hi _ => exact hi.nil.elim
  | pim us h1 h2 h3 _ ih => exact .pim us h1 h2 h3 ih
  | slnil => exact .slnil
  | slemp => exact .slemp
  | sl us h1 h2 h3 h4 h5 h6 h7 h8 _ ih => exact .sl us h1 h2 h3 h4 h5 h6 h7 h8 ih
  | se => exact .se
  | gr _ hi _ => exact hi.nil.elim
  | gp hi _ => exact hi.nil.elim
  | nilm => exact .nilm
  | mp hi _ => exact hi.nil.elim
  | nilf => exact .nilf
  | yld hi _ => exact hi.nil.elim
  | fn us h1 h2 _ ih => exact .fn us h1 h2 ih
  | agg us h1 h2 h3 _ ih => exact .agg us h1 h2 h3 ih
  | tup us h1 h2 _ ih => exact .tup us h1 h2 ih

theorem Froz.low {r : AV} (hl : r.low 0 = true) : Froz P H r r := by
  intro E h β w s v hr
  have h0 : Rep P h β [] r v := Rep.cut (H := []) (l := H) hr hl
  have X : Ext h β [] (hall h β H w) β [] := ⟨fun b o e => hall_imm s e, Nat.le_refl _, by simp⟩
  exact X.rep h0
theorem FrozL.low : ∀ {rs : List AV}, lowL 0 rs = true → FrozL P H rs rs :=
  fun {rs} hl => ⟨rfl, fun j x e => ⟨x, e, Froz.low ((lowL_iff.1 hl) x (List.mem_of_getElem? e))⟩⟩
theorem FrozL.nil : FrozL P H [] [] := ⟨rfl, by simp⟩
theorem FrozL.cons {r r' : AV} {rs rs' : List AV} (h1 : Froz P H r r') (h2 : FrozL P H rs rs') : FrozL P H (r :: rs) (r' :: rs') := by
  refine ⟨by simp [h2.1], fun j x e => ?_⟩
  cases j with
  | zero => simp at e; subst e; exact ⟨r, rfl, h1⟩
  | succ j => exact h2.2 j x (by simpa using e)
theorem Froz.tup {rs rs' : List AV} (hs : FrozL P H rs rs') : Froz P H (.tup rs) (.tup rs') := by
  intro E h β w s v hr
  cases hr with
  | tup us h1 h2 h3 =>
    refine .tup us (by rw [h1, hs.1]) (fun j x e => ?_) (fun j x e => ?_)
    · obtain ⟨y, e1, _⟩ := hs.2 j x e; exact h2 j y e1
    · obtain ⟨y, e1, e2⟩ := hs.2 j x e; exact e2 E h β w s _ (h3 j y e1)
theorem Froz.agg {rs rs' : List AV} (hone : ∀ x ∈ rs', x.one = true) (hs : FrozL P H rs rs') : Froz P H (.agg rs) (.agg rs') := by
  intro E h β w s v hr
  cases hr with
  | agg us h1 h0 h2 h3 =>
    refine .agg us (by rw [h1, hs.1]) hone (fun j x e => ?_) (fun j x e => ?_)
    · obtain ⟨y, e1, _⟩ := hs.2 j x e; exact h2 j y e1
    · obtain ⟨y, e1, e2⟩ := hs.2 j x e; exact e2 E h β w s _ (h3 j y e1)
theorem Froz.fn {f : FuncId} {rs rs' : List AV} (hs : FrozL P H rs rs') : Froz P H (.fn f rs) (.fn f rs') := by
  intro E h β w s v hr
  cases hr with
  | fn us h1 h2 h3 =>
    refine .fn us (by rw [h1, hs.1]) (fun j x e => ?_) (fun j x e => ?_)
    · obtain ⟨y, e1, _⟩ := hs.2 j x e; exact h2 j y e1
    · obtain ⟨y, e1, e2⟩ := hs.2 j x e; exact e2 E h β w s _ (h3 j y e1)
theorem Froz.pim {rs rs' : List AV} (hone : ∀ x ∈ rs', x.one = true) (hs : FrozL P H rs rs') : Froz P H (.pim rs) (.pim rs') := by
  intro E h β w s v hr
  cases hr with
  | pim us h0 h1 h2 h3 =>
    refine .pim us hone (hall_imm s h1) (fun j x e => ?_) (fun j x e => ?_)
    · obtain ⟨y, e1, _⟩ := hs.2 j x e; exact h2 j y e1
    · obtain ⟨y, e1, e2⟩ := hs.2 j x e; exact e2 E h β w s _ (h3 j y e1)
theorem Froz.ptr {i o : Nat} {cs cs' : List AV} (hb : lget H i = some (.cells cs)) (hone : ∀ x ∈ cs', x.one = true) (hs : FrozL P H (cs.drop o) cs') : Froz P H (.ptr i o) (.pim cs') := by
  rw [lget_eq] at hb
  intro E h β w s v hr
  cases hr with
  | @ptr _ _ b hi h1 =>
    have hβ := h1 cs hb
    obtain ⟨b', c, t, h2, h3, h4, h5, us, h6, h7⟩ := s.blk i _ hb
    rw [hβ] at h2; cases h2
    have hbo : blkOf β H i = some b := by simp only [blkOf, hb, hβ]; rfl
    refine .pim (fun j => us (o + j)) hone ((hall_own hbo).trans h3) (fun j x e => ?_) (fun j x e => ?_)
    · obtain ⟨y, e1, _⟩ := hs.2 j x e; rw [List.getElem?_drop] at e1; exact h6 _ y e1
    · obtain ⟨y, e1, e2⟩ := hs.2 j x e; rw [List.getElem?_drop] at e1; exact e2 E h β w s _ (h7 _ y e1)

/-- A slice of one's own, at its end. -/
theorem Froz.gr {i n : Nat} {t : TypeId} {nl : Bool} {els els' : List AV} (hb : lget H i = some (.grow t nl els)) (hn : els.length = n) (hlen : els'.length = els.length) (hc : ∀ e ∈ els', e.cells.length = sz P t) (hone : ∀ x ∈ flat els', x.one = true)
    (hs : FrozL P H (flat els) (flat els')) : Froz P H (.gr i n) (.sl nl els') := by
  rw [lget_eq] at hb
  intro E h β w s v hr
  cases hr with
  | gr ho hi hv =>
    obtain ⟨h1, h2⟩ := hv _ _ _ hb
    have hβ := h2 hn
    subst hβ
    rcases s.blk i _ hb with ⟨rfl, rfl, h3⟩ | ⟨rfl, rfl, b, h3⟩ | ⟨rfl, b, cap, c, h3, h4, h5, h6, h7, h8, h9, h10, h11, us, h12, h13⟩
    · rw [h3]
      cases els' with | cons _ _ => simp at hlen | nil => exact .slnil
    · rw [h3]
      cases els' with | cons _ _ => simp at hlen | nil => exact .slemp
    · rw [h3]
      cases els' with
      | nil =>
        have : els.length = 0 := by simpa using hlen.symm
        rw [this]; exact .slemp
      | cons e0 l0 =>
        have hbo : blkOf β H i = some b := by simp only [blkOf, hb, h3, anchor]; rw [if_neg (by omega)]
        refine .sl us (by rw [hlen]) (by simp) ((hall_own hbo).trans h5) hc h9 hone (by rw [hlen]; exact h6) (fun j x e => ?_) (fun j x e => ?_)
        · obtain ⟨y, e1, _⟩ := hs.2 j x e; rw [Nat.zero_add]; exact h12 j y e1
        · obtain ⟨y, e1, e2⟩ := hs.2 j x e; exact e2 E h β w s _ (h13 j y e1)
theorem Froz.grow {i n : Nat} {t : TypeId} {nl : Bool} {els : List AV} (hb : lget H i = some (.grow t nl els)) (hn : els.length = n) (hl : lowL 0 els = true) : Froz P H (.gr i n) (.sl nl els) := by
  intro E h β w s v hr
  have hb' := hb; rw [lget_eq] at hb'
  cases hr with
  | gr ho hi hv =>
    rcases s.blk i _ hb' with ⟨rfl, rfl, _⟩ | ⟨rfl, rfl, _⟩ | ⟨rfl, b, cap, c, h3, h4, h5, h6, h7, h8, h9, h10, h11, us, h12, h13⟩
    · exact Froz.gr hb hn rfl (by simp) (by simp [flat]) ⟨rfl, by simp [flat]⟩ E h β w s v (.gr ho hi hv)
    · exact Froz.gr hb hn rfl (by simp) (by simp [flat]) ⟨rfl, by simp [flat]⟩ E h β w s v (.gr ho hi hv)
    · exact Froz.gr hb hn rfl h10 h11 (FrozL.low (by rw [lowL_iff]; exact low_flat.1 hl)) E h β w s v (.gr ho hi hv)

/-! ### ends -/
def xRes (T : Tab) (σ : St) (H : List Blk) : List ResultVar → (List AV → Prop) → Prop
  | [], k => k []
  | .tmp t :: l, k => bnd (σ t) fun r => xRes T σ H l fun rs => k (r :: rs)
  | .cell a t :: l, k => bnd (σ a) fun p => xLoad T t H p fun r => xRes T σ H l fun rs => k (r :: rs)
structure XOut (P : Program) (H : List Blk) (r r0 : AV) : Prop where
  o : Froz P H r r0
def XFn (P : Program) (T : Tab) (res : List ResultVar) (r0 : AV) : Post := fun e D σ H =>
  match e, D with
  | .normal, [] | .ret, [] => xRes T σ H res fun rs => XOut P H (pack rs) r0
  | _, _ => False

theorem opLoad_mono {t : TypeId} {p : AV} {k k' : AV → Prop} (x : opLoad P t H p k) (hk : ∀ r, k r → k' r) : opLoad P t H p k' := by
  unfold opLoad at x ⊢
  refine bnd_mono x fun ti _ x => bnd_mono x fun cs _ x => ?_
  split at x
  · rename_i e; rw [if_pos e]; exact ⟨x.1, hk _ x.2⟩
  · rename_i e; rw [if_neg e]; exact bnd_mono x fun _ _ x => hk _ x
theorem xRes_sound (ok : TabOk P T) : ∀ {l : List ResultVar} {k : List AV → Prop}, xRes T σ H l k → resA P σ H l k
  | [], _, h => h
  | .tmp t :: l, k, h => bnd_mono h fun _ _ h1 => xRes_sound ok h1
  | .cell a t :: l, k, h => bnd_mono h fun _ _ h1 => opLoad_mono (xLoad_sound ok h1) fun _ h2 => xRes_sound ok h2

/-- A function on values that are not its own: it comes to one value. -/
structure Comp (P : Program) (f : FuncId) (rs : List AV) (r : AV) : Prop where
  lo : lowL 0 rs = true
  o : ACall P f rs [] (Ret r [])

def argX (rs : List AV) : St := fun t => lget rs t
theorem argX_eq (rs : List AV) : argX rs = argsSt rs := by funext t; exact lget_eq _ _

/-! ### calls -/
theorem XCall.ret {f : FuncId} {rs : List AV} {r0 : AV} {k : AV → List Blk → Prop} (x : Comp P f rs r0) (hk : k r0 H) : XCall P f rs H k := by
  refine ⟨x.o.1, fun E h β w vs s hr => ?_⟩
  classical
  let E' : Env := ⟨E.b, fun b => if ∃ i, blkOf β H i = some b then w.heap[b]? else E.fr b, E.en⟩
  have s0 : SR P E' h β [] w := by
    refine ⟨s.env, s.imm, fun i x e => by simp at e, fun i j x e => by simp [blkOf] at e, fun i x e => by simp [blkOf] at e, fun b o e => ?_, fun i x e => by simp [blkOf] at e⟩
    simp only [E'] at e
    split at e
    · rename_i hh; obtain ⟨i, hi⟩ := hh; exact ⟨e, s.fresh _ _ hi⟩
    · exact s.frm b o e
  have hr0 : RepL P h β [] rs vs := ⟨hr.1, fun j y e => by
    obtain ⟨v, e1, e2⟩ := hr.2 j y e
    exact ⟨v, e1, Rep.cut (H := []) (l := H) e2 ((lowL_iff.1 x.lo) y (List.mem_of_getElem? e))⟩⟩
  refine (x.o.2 E' h β w vs s0 hr0).mono ?_
  rintro e w' ⟨r, H', h', β', v, rfl, ⟨rfl, rfl⟩, X, s', hrep⟩
  have X' : Ext h β H h' β H := ⟨X.imm, Nat.le_refl _, fun i x x' e e' => by rw [e] at e'; cases e'; exact Blk.to_refl _ _ _⟩
  have hfr : ∀ i b o, blkOf β H i = some b → w.heap[b]? = some o → w'.heap[b]? = some o ∧ h' b = none := fun i b o e eo => s'.frm b o (by simp only [E']; rw [if_pos ⟨i, e⟩]; exact eo)
  have hown : ∀ i b, blkOf β H i = some b → w'.heap[b]? = w.heap[b]? := fun i b e => by
    have hlt := s.lt e
    have : w.heap[b]? = some w.heap[b] := Array.getElem?_eq_getElem hlt
    rw [(hfr i b _ e this).1, this]
  refine ⟨r, H, h', β, v, rfl, hk, X', ⟨s'.env, s'.imm, fun i x e => ?_, s.own, fun i b e => ?_, fun b o e => ?_, s.fro⟩, hrep.none⟩
  · exact (s.blk i x e).keep X' rfl fun hd hd' b hb => hown i b (by unfold blkOf; rw [e]; cases x <;> first | exact absurd rfl hd | exact absurd rfl hd' | exact hb)
  · have hlt := s.lt e
    exact (hfr i b _ e (Array.getElem?_eq_getElem hlt)).2
  · refine s'.frm b o ?_
    simp only [E']; rw [if_neg]; exact e
    rintro ⟨i, hi⟩; rw [s.fro _ _ hi] at e; cases e

mutual
/-- Numbers and truths alone. -/
def AV.plain : AV → Bool
  | .bool _ | .int _ _ | .nilp | .nilm | .nilf => true
  | .sl true [] => true
  | .agg cs | .tup cs => plainL cs
  | _ => false
def plainL : List AV → Bool
  | [] => true
  | x :: l => x.plain && plainL l
end
theorem plainL_iff : ∀ {l : List AV}, plainL l = true ↔ ∀ x ∈ l, x.plain = true
  | [] => by simp [plainL]
  | x :: l => by simp [plainL, plainL_iff (l := l)]
theorem Rep.plain {h' : Nat → Option Obj} {β' : Nat → Value} {H' : List Blk} {r : AV} {v : Value} (x : Rep P h β H r v) (hp : r.plain = true) : Rep P h' β' H' r v := by
  induction x with
  | bool b => exact .bool b
  | int k n => exact .int k n
  | nilp => exact .nilp
  | nilm => exact .nilm
  | nilf => exact .nilf
  | slnil => exact .slnil
  | agg us h1 h2 h3 _ ih =>
    simp only [AV.plain] at hp; rw [plainL_iff] at hp
    exact .agg us h1 h2 h3 fun j x e => ih j x e (hp x (List.mem_of_getElem? e))
  | tup us h1 h2 _ ih =>
    simp only [AV.plain] at hp; rw [plainL_iff] at hp
    exact .tup us h1 h2 fun j x e => ih j x e (hp x (List.mem_of_getElem? e))
  | _ => simp [AV.plain] at hp

/-- A call that reads one's own memory, and comes to numbers or truths. -/
theorem XCall.lend {f : FuncId} {rs rs' : List AV} {r0 : AV} {k : AV → List Blk → Prop} (x : Comp P f rs' r0) (hf : FrozL P H rs rs') (hp : r0.plain = true) (hk : k r0 H) : XCall P f rs H k := by
  refine ⟨x.o.1, fun E h β w vs s hr => ?_⟩
  have hr0 : RepL P (hall h β H w) β [] rs' vs := ⟨by rw [hf.1]; exact hr.1, fun j y e => by
    obtain ⟨z, e1, e2⟩ := hf.2 j y e
    obtain ⟨v, e3, e4⟩ := hr.2 j z e1
    exact ⟨v, e3, e2 E h β w s v e4⟩⟩
  refine (x.o.2 E _ β w vs s.all hr0).mono ?_
  rintro e w' ⟨r, H', h', β', v, rfl, ⟨rfl, rfl⟩, X, s', hrep⟩
  have hown : ∀ i b, blkOf β H i = some b → w'.heap[b]? = w.heap[b]? := fun i b e => by
    have hlt := s.lt e
    have e1 : w.heap[b]? = some w.heap[b] := Array.getElem?_eq_getElem hlt
    have e2 := s'.imm b _ (X.imm b _ ((hall_own (h := h) (w := w) e).trans e1))
    rw [e2, e1]
  refine ⟨r, H, h, β, v, rfl, hk, Ext.refl _ _ _, ⟨s'.env, fun b o e => s'.imm b o (X.imm b o (hall_imm s e)), fun i x e => ?_, s.own, s.fresh, fun b o e => ⟨(s'.frm b o e).1, (s.frm b o e).2⟩, s.fro⟩, hrep.plain hp⟩
  exact (s.blk i x e).keep (Ext.refl _ _ _) rfl fun hd hd' b hb => hown i b (by unfold blkOf; rw [e]; cases x <;> first | exact absurd rfl hd | exact absurd rfl hd' | exact hb)
end

/-! ### loops -/
def SubX : List (Nat × AV) → St → Prop
  | [], _ => True
  | (t, r) :: l, σ => σ t = some r ∧ SubX l σ
structure XAgain {G : Type} (I : G → Prop) (L : G → List (Nat × AV)) (hp : G → List Blk) (μ : G → Nat) (g : G) (D : List Nat) (D' : List Nat) (σ' : St) (H' : List Blk) : Prop where
  d : D' = D
  o : ∃ g', I g' ∧ μ g' < μ g ∧ hp g' = H' ∧ SubX (L g') σ'

section
variable {P : Program} {T : Tab} {N : Nat} {ρ : Option Nat} {D : List Nat} {σ : St} {H : List Blk}
theorem stX_sub : ∀ {l : List (Nat × AV)} {σ : St}, SubX l σ → ∀ t r, stX l t = some r → σ t = some r
  | [], _, _, _, _, e => by cases e
  | (u, x) :: l, σ, h, t, r, e => by
    simp only [stX, updX_eq, upd] at e
    split at e
    · rename_i h1; subst h1; cases e; exact h.1
    · exact stX_sub h.2 t r e

theorem Walk.loop {c : Code} {Q : Post} {G : Type} (ok : TabOk P T) (own : List Nat) (I : G → Prop) (L : G → List (Nat × AV)) (hp : G → List Blk) (μ : G → Nat) (g0 : G) (h0 : I g0) (hH : hp g0 = H) (hs : SubX (L g0) σ)
    (round : ∀ g, I g → XRun P T N ρ own c (thenQ (XAgain I L hp μ g D) Q) D (stX (L g)) (hp g)) : Walk P N ρ (.loop c) Q D σ H := by
  constructor
  refine AWp.loop (G := {g : G // I g}) (fun g => stX (L g.1)) (fun g => hp g.1) (fun g => μ g.1) ⟨g0, h0⟩ (stX_sub hs) hH fun g => ?_
  refine (XRun.sound ok (round g.1 g.2)).mono fun e D' σ' H' q => ?_
  cases e with
  | normal => obtain ⟨h1, g', h2, h3, h4, h5⟩ := q; exact ⟨h1, ⟨g', h2⟩, h3, h4, stX_sub h5⟩
  | _ => exact q
theorem XAgain.go {G : Type} {I : G → Prop} {L : G → List (Nat × AV)} {hp : G → List Blk} {μ : G → Nat} {g : G} (g' : G) (h1 : I g') (h2 : μ g' < μ g) (h3 : hp g' = H) (h4 : SubX (L g') σ) : XAgain I L hp μ g D D σ H := ⟨rfl, g', h1, h2, h3, h4⟩

/-! ### the decisions -/
theorem XBr.tt {A B : Prop} (h : A) : XBr true A B := ⟨fun _ => h, nofun⟩
theorem XBr.ff {A B : Prop} (h : B) : XBr false A B := ⟨nofun, fun _ => h⟩
theorem XBr.yes {c : Bool} {A B : Prop} (e : c = true) (h : A) : XBr c A B := by subst e; exact .tt h
theorem XBr.no {c : Bool} {A B : Prop} (e : c = false) (h : B) : XBr c A B := by subst e; exact .ff h
theorem XBr.dec {p : Prop} [Decidable p] {A B : Prop} (h1 : p → A) (h2 : ¬ p → B) : XBr (decide p) A B := ⟨fun h => h1 (of_decide_eq_true h), fun h => h2 (of_decide_eq_false h)⟩
theorem XBr.beq {a b : Int} {A B : Prop} (h1 : a = b → A) (h2 : a ≠ b → B) : XBr (a == b) A B := ⟨fun h => h1 (by simpa using h), fun h => h2 (by simpa using h)⟩
theorem XBr.bne {a b : Int} {A B : Prop} (h1 : a ≠ b → A) (h2 : a = b → B) : XBr (a != b) A B := ⟨fun h => h1 (by simpa using h), fun h => h2 (by simpa using h)⟩
theorem XBr.not {b : Bool} {A B : Prop} (h : XBr b B A) : XBr (!b) A B := ⟨fun e => h.2 (by simpa using e), fun e => h.1 (by simpa using e)⟩
theorem XBr.mk' {b : Bool} {A B : Prop} (h1 : b = true → A) (h2 : b = false → B) : XBr b A B := ⟨h1, h2⟩
theorem XInt.i64 {x : Int} {k : AV → Prop} (h1 : -9223372036854775808 ≤ x) (h2 : x ≤ 9223372036854775807) (h : k (.int .i64 x)) : XInt .i64 x k := by
  refine ⟨?_⟩
  have : IntKind.i64.wrap x = x := by
    simp only [IntKind.wrap, IntKind.bits, IntKind.signed]; simp [Int.bmod]; omega
  rw [this]; exact h
theorem XIx.map {α : Type} [Inhabited α] {f : α → AV} {xs : List α} {n : Int} {w : Nat} {k : AV → Prop} (h1 : 0 ≤ n) (h2 : n < xs.length) (hw : ∀ x, (f x).cells.length = w) (h : k (.pim (f (xs.getD n.toNat default)).cells)) : XIx (xs.map f) n w k := by
  have e : nth (xs.map f) n = f (xs.getD n.toNat default) := by
    unfold nth
    have : n.toNat < xs.length := by omega
    rw [List.getD_eq_getElem?_getD, List.getD_eq_getElem?_getD, List.getElem?_map, List.getElem?_eq_getElem this]; rfl
  exact ⟨h1, by simpa using h2, by rw [e]; exact hw _, by rw [e]; exact h⟩
theorem XIx.nat {α : Type} [Inhabited α] {f : α → AV} {xs : List α} {i w : Nat} {k : AV → Prop} (h2 : i < xs.length) (hw : ∀ x, (f x).cells.length = w) (h : k (.pim (f (xs.getD i default)).cells)) : XIx (xs.map f) (i : Int) w k :=
  XIx.map (by omega) (by omega) hw h
theorem drop_cons {cs : List AV} {off : Nat} {c : AV} (h : cs[off]? = some c) : cs.drop off = c :: cs.drop (off + 1) := by
  obtain ⟨h1, h2⟩ := List.getElem?_eq_some_iff.1 h
  rw [List.drop_eq_getElem_cons h1, h2]
theorem XArr.at {cs : List AV} {n : Int} {m w : Nat} {k : AV → Prop} (c : AV) (h1 : 0 ≤ n) (h2 : n < m) (hc : cs[n.toNat * w]? = some c) (h : k (.pim (c :: cs.drop (n.toNat * w + 1)))) : XArr (.pim cs) n m w k :=
  ⟨h1, h2, by show k (.pim (cs.drop _)); rw [drop_cons hc]; exact h⟩
theorem XArr.ptr {i o : Nat} {n : Int} {m w : Nat} {k : AV → Prop} (h1 : 0 ≤ n) (h2 : n < m) (h : k (.ptr i (o + n.toNat * w))) : XArr (.ptr i o) n m w k := ⟨h1, h2, h⟩
theorem XArr.pim {cs : List AV} {n : Int} {m w : Nat} {k : AV → Prop} (h1 : 0 ≤ n) (h2 : n < m) (h : k (.pim (cs.drop (n.toNat * w)))) : XArr (.pim cs) n m w k := ⟨h1, h2, h⟩
theorem xdrop_at {cs : List AV} {off : Nat} {k : List AV → Prop} (c : AV) (hc : cs[off]? = some c) (h : k (c :: cs.drop (off + 1))) : xdrop off cs k := by
  have : ∀ {off : Nat} {cs : List AV}, off ≤ cs.length → k (cs.drop off) → xdrop off cs k := by
    intro off; induction off with
    | zero => intro cs _ h; exact h
    | succ n ih => intro cs hl h; cases cs with
      | nil => simp at hl
      | cons c cs => exact ih (by simpa using hl) (by simpa using h)
  exact this (by have := (List.getElem?_eq_some_iff.1 hc).1; omega) (by rw [drop_cons hc]; exact h)
theorem xdrop_app {a b : List AV} {n : Nat} {k : List AV → Prop} (hn : a.length = n) (h : k b) : xdrop n (a ++ b) k := by
  have : ∀ {n : Nat} {a : List AV}, a.length = n → xdrop n (a ++ b) k := by
    intro n; induction n with
    | zero => intro a ha; rw [List.eq_nil_of_length_eq_zero ha]; exact h
    | succ n ih => intro a ha; cases a with
      | nil => simp at ha
      | cons c cs => exact ih (by simpa using ha)
  exact this hn
theorem xspl_to {c : List AV} {o : Nat} {vs : List AV} {k : List AV → Prop} (c' : List AV) (hl : o + vs.length ≤ c.length) (e : splice c o vs = c') (h : k c') : xspl c o vs k := by
  have : ∀ {c : List AV} {o : Nat} {vs : List AV} {k : List AV → Prop}, o + vs.length ≤ c.length → k (splice c o vs) → xspl c o vs k := by
    intro c; induction c with
    | nil => intro o vs k hl h; cases o with
      | zero => cases vs with
        | nil => rw [splice_nil] at h; exact h
        | cons v vs => simp at hl
      | succ o => simp at hl
    | cons x c ih => intro o vs k hl h; cases o with
      | zero => cases vs with
        | nil => rw [splice_nil] at h; exact h
        | cons v vs => rw [splice_zero] at h; exact ih (by simp at hl ⊢; omega) h
      | succ o => rw [splice_succ] at h; cases vs <;> exact ih (by simp at hl ⊢; omega) h
  exact this hl (by rw [e]; exact h)
theorem XGet.map {α : Type} [Inhabited α] {f : α → AV} {xs : List α} {n e : Nat} {k : List AV → Prop} (h1 : n = xs.length) (h2 : e < n) (h : k (f (xs.getD e default)).cells) : XGet (xs.map f) n e k := by
  have e' : (xs.map f).getD e default = f (xs.getD e default) := by
    have : e < xs.length := by omega
    rw [List.getD_eq_getElem?_getD, List.getD_eq_getElem?_getD, List.getElem?_map, List.getElem?_eq_getElem this]; rfl
  exact ⟨by simpa using h1, h2, by rw [e']; exact h⟩
theorem XPut.map {α : Type} {f : α → AV} {xs : List α} {n e : Nat} {v : AV} {k : List AV → Prop} (x : α) (hv : v = f x) (h1 : n = xs.length) (h2 : e < n) (h : k ((xs.set e x).map f)) : XPut (xs.map f) n e v k :=
  ⟨by simpa using h1, h2, by subst hv; rw [← List.map_set]; exact h⟩
theorem wide_map {α : Type} {f : α → AV} {n : Nat} (h1 : ∀ x, (f x).cells.length = n) (h2 : ∀ x, (f x).isTup = false) : ∀ (xs : List α), wide n (xs.map f) = true
  | [] => rfl
  | x :: xs => by simp [wide, h1, h2, wide_map h1 h2 xs]
theorem lowL_map {α : Type} {f : α → AV} {n : Nat} (hf : ∀ x, (f x).low n = true) (xs : List α) : lowL n (xs.map f) = true := by
  rw [lowL_iff]; intro x hx; obtain ⟨y, _, rfl⟩ := List.mem_map.1 hx; exact hf y
end
end GA
namespace GA
open Go
section
variable {P : Program} {H : List Blk}
theorem XOut.bool {b b' : Bool} (e : b = b') : XOut P H (.bool b) (.bool b') := by subst e; exact ⟨.low rfl⟩
theorem XOut.int {q : IntKind} {n n' : Int} (e : n = n') : XOut P H (.int q n) (.int q n') := by subst e; exact ⟨.low rfl⟩
end
end GA

namespace GA
open Go
theorem take_next {α : Type} [Inhabited α] {xs : List α} {i : Nat} (h : i < xs.length) : xs.take (i + 1) = xs.take i ++ [xs.getD i default] := by
  rw [List.take_add_one, List.getElem?_eq_getElem h, List.getD_eq_getElem?_getD, List.getElem?_eq_getElem h]; rfl
abbrev ints (xs : List Int) : List AV := xs.map (.int .i64)
theorem lowI {n : Nat} (xs : List Int) : lowL n (ints xs) = true := lowL_map (fun _ => rfl) xs
theorem wideI (xs : List Int) : wide 1 (ints xs) = true := wide_map (f := .int .i64) (n := 1) (fun _ => rfl) (fun _ => rfl) xs
end GA
namespace GA
open Go
theorem ints_at {xs : List Int} {i : Nat} (h : i < xs.length) (b : List AV) : (ints xs ++ b)[i * 1]? = some (.int .i64 (xs.getD i 0)) := by
  rw [Nat.mul_one, List.getElem?_append_left (by simpa using h), List.getElem?_map, List.getElem?_eq_getElem h, List.getD_eq_getElem?_getD, List.getElem?_eq_getElem h]; rfl
theorem XArr.ints {xs : List Int} {n : Int} {m : Nat} {k : AV → Prop} (h1 : 0 ≤ n) (h2 : n < m) (hm : (m : Int) ≤ xs.length) (h : k (.pim (.int .i64 (xs.getD n.toNat 0) :: (GA.ints xs).drop (n.toNat * 1 + 1)))) : XArr (.pim (GA.ints xs)) n m 1 k :=
  XArr.at _ h1 h2 (by have := ints_at (xs := xs) (i := n.toNat) (by omega) []; simpa using this) h
theorem XArr.intsA {xs : List Int} {b : List AV} {n : Int} {m : Nat} {k : AV → Prop} (h1 : 0 ≤ n) (h2 : n < m) (hm : (m : Int) ≤ xs.length) (h : k (.pim (.int .i64 (xs.getD n.toNat 0) :: (GA.ints xs ++ b).drop (n.toNat * 1 + 1)))) : XArr (.pim (GA.ints xs ++ b)) n m 1 k :=
  XArr.at _ h1 h2 (ints_at (xs := xs) (i := n.toNat) (by omega) b) h
end GA

namespace GA
open Go
theorem XArr.pim0 {c : AV} {cs : List AV} {m w : Nat} {k : AV → Prop} (h : k (.pim (c :: cs))) : XArr (.pim (c :: cs)) 0 (m + 1) w k := ⟨by omega, by omega, by show k (.pim (List.drop (0 * w) _)); rw [Nat.zero_mul]; exact h⟩
theorem XArr.pim1 {c d : AV} {cs : List AV} {m : Nat} {k : AV → Prop} (h : k (.pim (d :: cs))) : XArr (.pim (c :: d :: cs)) 1 (m + 2) 1 k := ⟨by omega, by omega, h⟩
end GA
