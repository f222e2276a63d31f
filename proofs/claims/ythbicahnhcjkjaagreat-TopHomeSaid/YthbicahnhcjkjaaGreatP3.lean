/- Part 3 of a proof: Abs16, Abs17, Abs18, Tab, Abs19, Abs20, Abs21, Abs22, Abs23, Abs24, Abs25, Abs26, Abs27, Abs28, Abs29. -/
import Derived.Test.YthbicahnhcjkjaaGreatP2
import Derived.Test.YthbicahnhcjkjaaGreatProg
import Derived.KernelRfl
import Derived.OrdersIn
section
namespace GA
open Go Go.RowKit

def updX (σ : St) (d : Nat) (r : AV) : St := fun t => match Nat.beq t d with | true => some r | false => σ t
def putX (N : Nat) (σ : St) (d : Option Nat) (r : AV) : St := match d with | some d => (match Nat.blt d N with | true => updX σ d r | false => σ) | none => σ
def stX : List (Nat × AV) → St
  | [] => fun _ => none
  | (t, r) :: l => updX (stX l) t r
theorem updX_eq (σ : St) (d : Nat) (r : AV) : updX σ d r = upd σ d r := by
  funext t; unfold updX upd
  by_cases h : t = d
  · subst h; simp
  · rw [if_neg h]; cases e : Nat.beq t d with
    | true => exact absurd (Nat.eq_of_beq_eq_true e) h
    | false => rfl
theorem putX_eq (N : Nat) (σ : St) (d : Option Nat) (r : AV) : putX N σ d r = putO N σ d r := by
  cases d with
  | none => rfl
  | some d =>
    simp only [putX, putO]
    cases e : Nat.blt d N with
    | true => rw [if_pos (by simpa [Nat.blt_eq] using e)]; exact updX_eq _ _ _
    | false => rw [if_neg (by intro h; rw [← Nat.blt_eq] at h; rw [h] at e; cases e)]
theorem upd_self {σ : St} {d : Nat} {r : AV} (h : σ d = some r) : updX σ d r = σ := by
  rw [updX_eq]; funext t; unfold upd; split
  · rename_i e; rw [e, h]
  · rfl

def xGate (all : List Oper) (σ : St) (g : Option (Nat × Bool)) (A B : St → Prop) : Prop :=
  match g with
  | none => A σ
  | some (j, want) => bnd (lget all j) fun o => bnd o.dst fun d => bnd (σ d) fun r =>
    match r with
    | .bool b => match want with
      | true => XBr b (A (updX σ d (.bool true))) (B (updX σ d (.bool false)))
      | false => XBr b (B (updX σ d (.bool true))) (A (updX σ d (.bool false)))
    | .tup [] => B σ
    | _ => False

def XReg (P : Program) (T : Tab) (N : Nat) (own : List Nat) (all : List Oper) : List Oper → St → List Blk → (St → List Blk → Prop) → Prop
  | [], σ, H, K => K σ H
  | o :: rest, σ, H, K => xGate all σ o.guard (fun σ => XOp P T own o.dst σ H (fun r H' => XReg P T N own all rest (putX N σ o.dst r) H' K) o.op) (fun σ => XReg P T N own all rest (putX N σ o.dst (.tup [])) H K)

def blockX (id : Nat) (Q : Post) : Post
  | .exit id', D, σ, H => match Nat.beq id' id with | true => Q .normal D σ H | false => Q (.exit id') D σ H
  | e, D, σ, H => Q e D σ H

def manyG : Nat → List Oper → Bool
  | 0, _ => true
  | _ + 1, [] => false
  | n + 1, o :: l => match o.guard with | none => manyG (n + 1) l | some _ => manyG n l
def XRun (P : Program) (T : Tab) (N : Nat) (ρ : Option Nat) (own : List Nat) : Code → Post → List Nat → St → List Blk → Prop
  | .skip, Q, D, σ, H => Q .normal D σ H
  | .exit id, Q, D, σ, H => Q (.exit id) D σ H
  | .ret, Q, D, σ, H => Q .ret D σ H
  | .seq a b, Q, D, σ, H => XRun P T N ρ own a (thenQ (XRun P T N ρ own b Q) Q) D σ H
  | .cond c x y, Q, D, σ, H => bnd (ev σ c) fun r => match r with | .bool b => XBr b (XRun P T N ρ own x Q D σ H) (XRun P T N ρ own y Q D σ H) | _ => False
  | .block id b, Q, D, σ, H => XRun P T N ρ own b (blockX id Q) D σ H
  | .region id ops false, Q, D, σ, H => match manyG 12 ops.toList with | true => Walk P N ρ (.region id ops false) Q D σ H | false => XReg P T N own ops.toList ops.toList σ H (Q .normal D)
  | c, Q, D, σ, H => Walk P N ρ c Q D σ H

section
variable {P : Program} {T : Tab} {N : Nat} {ρ : Option Nat} {own : List Nat}

theorem xGate_gate {all : List Oper} {σ : St} {g : Option (Nat × Bool)} {A B : St → Prop} (h : xGate all σ g A B) : gate all σ g (A σ) (B σ) := by
  unfold xGate at h
  split at h
  · exact h
  · rename_i j want
    obtain ⟨o', h1, h2⟩ := bnd_elim h
    obtain ⟨d, h3, h4⟩ := bnd_elim h2
    obtain ⟨r, h5, h6⟩ := bnd_elim h4
    rw [lget_eq] at h1
    simp only [gate, h1, Option.bind_some, h3, bnd_some, h5]
    split at h6
    · rename_i b
      split at h6
      · refine ⟨fun e => ?_, fun e => ?_⟩
        · have e' : b = true := by simpa using e
          subst e'; have := h6.t rfl; rw [upd_self h5] at this; exact this
        · have e' : b = false := by simpa using e
          subst e'; have := h6.f rfl; rw [upd_self h5] at this; exact this
      · refine ⟨fun e => ?_, fun e => ?_⟩
        · have e' : b = false := by simpa using e
          subst e'; have := h6.f rfl; rw [upd_self h5] at this; exact this
        · have e' : b = true := by simpa using e
          subst e'; have := h6.t rfl; rw [upd_self h5] at this; exact this
    · exact h6
    · exact h6.elim

theorem XReg.sound {E : Env} (ok : TabOk P T) {all : List Oper} {K : St → List Blk → Prop} {Q : Exit → Act → World → Prop} {a0 : Act} {h0 : Nat → Option Obj} {β0 : Nat → Value} {H0 : List Blk}
    (hQ : ∀ σ' H' h' β' a' w', K σ' H' → Ext h0 β0 H0 h' β' H' → SR P E h' β' H' w' → Fits P h' β' H' σ' a' → Keeps a0 a' → Q .normal a' w') :
    ∀ (l : List Oper) (i : Nat) (σ : St) (H : List Blk) (h : Nat → Option Obj) (β : Nat → Value) (a : Act) (w : World), (∀ j, l[j]? = all[i + j]?) → XReg P T N own all l σ H K → Ext h0 β0 H0 h β H → SR P E h β H w → Fits P h β H σ a → Keeps a0 a → a.tmps.size = N →
      wpOpsIn (FW ρ) 0 P all.toArray Q ((List.range l.length).map (i + ·)) a w
  | [], i, σ, H, h, β, a, w, _, hk, X, s, F, kp, hN => hQ σ H h β a w hk X s F kp
  | o :: rest, i, σ, H, h, β, a, w, hl, hk, X, s, F, kp, hN => by
    have ho : all.toArray[i]? = some o := by have := hl 0; simpa using this.symm
    have hrange : (List.range (o :: rest).length).map (i + ·) = i :: (List.range rest.length).map (i + 1 + ·) := by
      simp only [List.length_cons, List.range_succ_eq_map, List.map_cons, List.map_map, Nat.add_zero]
      congr 1
      apply List.map_congr_left; intro j _; simp; omega
    rw [hrange]
    simp only [wpOpsIn, ho]
    have ih := fun σ' H' h' β' a' w' => XReg.sound ok hQ rest (i + 1) σ' H' h' β' a' w' (fun j => by have := hl (j + 1); simpa [Nat.add_assoc, Nat.add_comm 1 j] using this)
    simp only [XReg] at hk
    rcases gate_wanted F (xGate_gate hk) with ⟨hw, hA⟩ | ⟨hw, hB⟩
    · rw [if_pos hw]
      refine AOp.sound (hA.sound ok) s F ?_
      intro r H' h' β' w' v hk' X' s' hr
      rw [putX_eq] at hk'
      exact ih _ H' h' β' _ w' hk' (X.trans X') s' ((F.ext X').put hN hr) ⟨(size_put _ _ _).trans kp.size, (defers_put _ _ _).trans kp.defers⟩ ((size_put _ _ _).trans hN)
    · rw [if_neg (by rw [hw]; simp)]
      rw [putX_eq] at hB
      exact ⟨fun _ _ => trivial, ih _ H h β _ w hB X s (F.put hN rep_undef) ⟨(size_put _ _ _).trans kp.size, (defers_put _ _ _).trans kp.defers⟩ ((size_put _ _ _).trans hN)⟩

theorem AWp.regionX {id : Nat} {ops : Array Oper} {Q : Post} {D : List Nat} {σ : St} {H : List Blk} (ok : TabOk P T) (x : XReg P T N own ops.toList ops.toList σ H (Q .normal D)) : AWp P N ρ (.region id ops false) Q D σ H := by
  intro E h β a w s
  refine wpIn_region ?_
  have := XReg.sound (ρ := ρ) (Q := Conc P E N h β H Q) (a0 := a) (h0 := h) (β0 := β) (H0 := H) ok (fun σ' H' h' β' a' w' k X s' F kp => ⟨D, σ', H', h', β', k, X, s', F, kp.size.trans s.size, by rw [kp.defers]; exact s.df.ext X⟩)
    ops.toList 0 σ H h β a w (by simp) x (Ext.refl _ _ _) s.sr s.fits ⟨rfl, rfl⟩ s.size
  simpa using this

theorem blockX_eq (id : Nat) (Q : Post) : blockX id Q = blockQ id Q := by
  funext e D σ H
  cases e with
  | exit id' =>
    simp only [blockX, blockQ]
    by_cases h : id' = id
    · subst h; simp
    · rw [if_neg h]; cases e : Nat.beq id' id with
      | true => exact absurd (Nat.eq_of_beq_eq_true e) h
      | false => rfl
  | _ => rfl

theorem XRun.sound (ok : TabOk P T) : ∀ {c : Code} {Q : Post} {D : List Nat} {σ : St} {H : List Blk}, XRun P T N ρ own c Q D σ H → AWp P N ρ c Q D σ H
  | .skip, _, _, _, _, x => .skip x
  | .exit _, _, _, _, _, x => .exit x
  | .ret, _, _, _, _, x => .ret x
  | .seq a b, Q, _, _, _, x => .seq (AWp.mono (Q := thenQ (XRun P T N ρ own b Q) Q) (XRun.sound ok (c := a) x) fun e D σ H q => by
      cases e with
      | normal => exact XRun.sound ok (c := b) (Q := Q) q
      | _ => exact q)
  | .cond c _ _, _, _, _, _, x => by
      obtain ⟨r, h1, h2⟩ := bnd_elim x
      split at h2
      · exact .cond h1 (fun h => XRun.sound ok (h2.t h)) (fun h => XRun.sound ok (h2.f h))
      · exact h2.elim
  | .block id b, Q, D, σ, H, x => .block (by rw [← blockX_eq]; exact XRun.sound ok x)
  | .region id ops false, Q, D, σ, H, x => by
      unfold XRun at x
      split at x
      · exact x.o
      · exact .regionX ok x
  | .region _ _ true, _, _, _, _, x => x.o
  | .loop _, _, _, _, _, x => x.o
  | .rangeFunc .., _, _, _, _, x => x.o
  | .scope _, _, _, _, _, x => x.o
  | .label _, _, _, _, _, x => x.o
  | .goto _, _, _, _, _, x => x.o
  | .refuse _, _, _, _, _, x => x.o
end
end GA
end

section
namespace GA
set_option linter.unusedVariables false
open Go Go.RowKit

def Ret (r0 : AV) (H0 : List Blk) : AV → List Blk → Prop := fun r H => r = r0 ∧ H = H0

section
variable {P : Program} {T : Tab} {N : Nat} {ρ : Option Nat} {own : List Nat} {E : Env} {h : Nat → Option Obj} {β : Nat → Value} {H : List Blk} {w : World} {σ : St} {a : Act}

noncomputable def hall (h : Nat → Option Obj) (β : Nat → Value) (H : List Blk) (w : World) : Nat → Option Obj := by
  classical exact fun b => if ∃ i, blkOf β H i = some b then w.heap[b]? else h b
theorem hall_own {b i : Nat} (e : blkOf β H i = some b) : hall h β H w b = w.heap[b]? := by
  unfold hall; rw [if_pos ⟨i, e⟩]
theorem hall_imm (s : SR P E h β H w) {b : Nat} {o : Obj} (e : h b = some o) : hall h β H w b = some o := by
  unfold hall; split
  · rename_i hh; obtain ⟨i, hi⟩ := hh; rw [s.fresh _ _ hi] at e; cases e
  · exact e

theorem SR.all (s : SR P E h β H w) : SR P E (hall h β H w) β [] w := by
  refine ⟨s.env, fun b o e => ?_, fun i x e => by simp at e, fun i j x e => by simp [blkOf] at e, fun i x e => by simp [blkOf] at e, fun b o e => ⟨(s.frm b o e).1, ?_⟩, fun i x e => by simp [blkOf] at e⟩
  · unfold hall at e; split at e
    · exact e
    · exact s.imm b o e
  · unfold hall; split
    · rename_i hh; obtain ⟨i, hi⟩ := hh; rw [s.fro _ _ hi] at e; cases e
    · exact (s.frm b o e).2

def Froz (P : Program) (H : List Blk) (r r' : AV) : Prop :=
  ∀ E h β w, SR P E h β H w → ∀ v, Rep P h β H r v → Rep P (hall h β H w) β [] r' v
def FrozL (P : Program) (H : List Blk) (rs rs' : List AV) : Prop := rs'.length = rs.length ∧ ∀ (j : Nat) x, rs'[j]? = some x → ∃ y, rs[j]? = some y ∧ Froz P H y x

theorem Rep.none {β' : Nat → Value} {r : AV} {v : Value} (x : Rep P h β [] r v) : Rep P h β' H r v := by
  induction x with
  | bool b => exact .bool b
  | int k n => exact .int k n
  | nilp => exact .nilp
  | ptr hi _ => exact hi.nil.elim
  | pim us h1 h2 h3 _ ih => exact .pim us h1 h2 h3 ih
  | slnil => exact .slnil
  | slemp => exact .slemp
  | sl us h1 h2 h3 h4 h5 h6 h7 h8 _ ih => exact .sl us h1 h2 h3 h4 h5 h6 h7 h8 ih
  | se => exact .se
  | gr _ hi _ => exact hi.nil.elim
  | gp hi _ => exact hi.nil.elim
  | nilm => exact .nilm
  | mp hi _ => exact hi.nil.elim
  | nilf => exact .nilf
  | yld hi _ => exact hi.nil.elim
  | fn us h1 h2 _ ih => exact .fn us h1 h2 ih
  | bf us h1 h2 _ ih => exact .bf us h1 h2 ih
  | os hi _ _ _ _ => exact hi.nil.elim
  | agg us h1 h2 h3 _ ih => exact .agg us h1 h2 h3 ih
  | tup us h1 h2 _ ih => exact .tup us h1 h2 ih
  | im us h0 h1 h2 h3 h4 _ ih => exact .im us h0 h1 h2 h3 h4 ih

theorem Froz.low {r : AV} (hl : r.low 0 = true) : Froz P H r r := by
  intro E h β w s v hr
  have h0 : Rep P h β [] r v := Rep.cut (H := []) (l := H) hr hl
  have X : Ext h β [] (hall h β H w) β [] := ⟨fun b o e => hall_imm s e, Nat.le_refl _, by simp⟩
  exact X.rep h0
theorem FrozL.low : ∀ {rs : List AV}, lowL 0 rs = true → FrozL P H rs rs :=
  fun {rs} hl => ⟨rfl, fun j x e => ⟨x, e, Froz.low ((lowL_iff.1 hl) x (List.mem_of_getElem? e))⟩⟩
theorem FrozL.nil : FrozL P H [] [] := ⟨rfl, by simp⟩
theorem FrozL.cons {r r' : AV} {rs rs' : List AV} (h1 : Froz P H r r') (h2 : FrozL P H rs rs') : FrozL P H (r :: rs) (r' :: rs') := by
  refine ⟨by simp [h2.1], fun j x e => ?_⟩
  cases j with
  | zero => simp at e; subst e; exact ⟨r, rfl, h1⟩
  | succ j => exact h2.2 j x (by simpa using e)
theorem Froz.tup {rs rs' : List AV} (hs : FrozL P H rs rs') : Froz P H (.tup rs) (.tup rs') := by
  intro E h β w s v hr
  cases hr with
  | tup us h1 h2 h3 =>
    refine .tup us (by rw [h1, hs.1]) (fun j x e => ?_) (fun j x e => ?_)
    · obtain ⟨y, e1, _⟩ := hs.2 j x e; exact h2 j y e1
    · obtain ⟨y, e1, e2⟩ := hs.2 j x e; exact e2 E h β w s _ (h3 j y e1)
theorem Froz.agg {rs rs' : List AV} (hone : ∀ x ∈ rs', x.one = true) (hs : FrozL P H rs rs') : Froz P H (.agg rs) (.agg rs') := by
  intro E h β w s v hr
  cases hr with
  | agg us h1 h0 h2 h3 =>
    refine .agg us (by rw [h1, hs.1]) hone (fun j x e => ?_) (fun j x e => ?_)
    · obtain ⟨y, e1, _⟩ := hs.2 j x e; exact h2 j y e1
    · obtain ⟨y, e1, e2⟩ := hs.2 j x e; exact e2 E h β w s _ (h3 j y e1)
theorem Froz.fn {f : FuncId} {rs rs' : List AV} (hs : FrozL P H rs rs') : Froz P H (.fn f rs) (.fn f rs') := by
  intro E h β w s v hr
  cases hr with
  | fn us h1 h2 h3 =>
    refine .fn us (by rw [h1, hs.1]) (fun j x e => ?_) (fun j x e => ?_)
    · obtain ⟨y, e1, _⟩ := hs.2 j x e; exact h2 j y e1
    · obtain ⟨y, e1, e2⟩ := hs.2 j x e; exact e2 E h β w s _ (h3 j y e1)
theorem Froz.bf {f : FuncId} {rs rs' : List AV} (hs : FrozL P H rs rs') : Froz P H (.bf f rs) (.bf f rs') := by
  intro E h β w s v hr
  cases hr with
  | bf us h1 h2 h3 =>
    refine .bf us (by rw [h1, hs.1]) (fun j x e => ?_) (fun j x e => ?_)
    · obtain ⟨y, e1, _⟩ := hs.2 j x e; exact h2 j y e1
    · obtain ⟨y, e1, e2⟩ := hs.2 j x e; exact e2 E h β w s _ (h3 j y e1)
theorem Froz.pim {rs rs' : List AV} (hone : ∀ x ∈ rs', x.one = true) (hs : FrozL P H rs rs') : Froz P H (.pim rs) (.pim rs') := by
  intro E h β w s v hr
  cases hr with
  | pim us h0 h1 h2 h3 =>
    refine .pim us hone (hall_imm s h1) (fun j x e => ?_) (fun j x e => ?_)
    · obtain ⟨y, e1, _⟩ := hs.2 j x e; exact h2 j y e1
    · obtain ⟨y, e1, e2⟩ := hs.2 j x e; exact e2 E h β w s _ (h3 j y e1)
theorem Froz.ptr {i o : Nat} {cs cs' : List AV} (hb : lget H i = some (.cells cs)) (hone : ∀ x ∈ cs', x.one = true) (hs : FrozL P H (cs.drop o) cs') : Froz P H (.ptr i o) (.pim cs') := by
  rw [lget_eq] at hb
  intro E h β w s v hr
  cases hr with
  | @ptr _ _ b hi h1 =>
    have hβ := h1 cs hb
    obtain ⟨b', c, t, h2, h3, h4, h5, us, h6, h7⟩ := s.blk i _ hb
    rw [hβ] at h2; cases h2
    have hbo : blkOf β H i = some b := by simp only [blkOf, hb, hβ]; rfl
    refine .pim (fun j => us (o + j)) hone ((hall_own hbo).trans h3) (fun j x e => ?_) (fun j x e => ?_)
    · obtain ⟨y, e1, _⟩ := hs.2 j x e; rw [List.getElem?_drop] at e1; exact h6 _ y e1
    · obtain ⟨y, e1, e2⟩ := hs.2 j x e; rw [List.getElem?_drop] at e1; exact e2 E h β w s _ (h7 _ y e1)

theorem Froz.mp {i : Nat} {es : List (Int × AV)} {vs : List AV} (hb : lget H i = some (.map es)) (hs : FrozL P H (es.map (·.2)) vs) : Froz P H (.mp i) (.im (es.map (·.1)) vs) := by
  rw [lget_eq] at hb
  intro E h β w s v hr
  cases hr with
  | @mp _ r hi h1 =>
    have hβ := h1 _ hb rfl
    obtain ⟨r', ents, clock, h2, h3, h4, hsz, us, h5⟩ := s.blk i _ hb
    rw [hβ] at h2; cases h2
    have hbo : blkOf β H i = some r := by simp only [blkOf, hb, hβ]; rfl
    refine .im us ((hall_own hbo).trans h3) (by rw [hs.1, List.length_map, List.length_map]) (by rw [hsz, List.length_map]) h4 (fun j q x e1 e2 => ?_) (fun j x e => ?_)
    · rw [List.getElem?_map] at e1
      cases he : es[j]? with
      | none => rw [he] at e1; cases e1
      | some p => obtain ⟨q', y⟩ := p; rw [he] at e1; cases e1; exact (h5 j q' y he).2
    · obtain ⟨y, e1, e2⟩ := hs.2 j x e
      rw [List.getElem?_map] at e1
      cases he : es[j]? with
      | none => rw [he] at e1; cases e1
      | some p => obtain ⟨q', y'⟩ := p; rw [he] at e1; cases e1; exact e2 E h β w s _ (h5 j q' _ he).1

theorem Froz.gr {i n : Nat} {t : TypeId} {nl : Bool} {els els' : List AV} (hb : lget H i = some (.grow t nl els)) (hn : els.length = n) (hlen : els'.length = els.length) (hc : ∀ e ∈ els', e.cells.length = sz P t) (hone : ∀ x ∈ flat els', x.one = true)
    (hs : FrozL P H (flat els) (flat els')) : Froz P H (.gr i n) (.sl nl els') := by
  rw [lget_eq] at hb
  intro E h β w s v hr
  cases hr with
  | gr ho hi hv =>
    obtain ⟨h1, h2⟩ := hv _ _ _ hb
    have hβ := h2 hn
    subst hβ
    rcases s.blk i _ hb with ⟨rfl, rfl, h3⟩ | ⟨rfl, rfl, b, h3⟩ | ⟨rfl, b, cap, c, h3, h4, h5, h6, h7, h8, h9, h10, h11, us, h12, h13⟩
    · rw [h3]
      cases els' with | cons _ _ => simp at hlen | nil => exact .slnil
    · rw [h3]
      cases els' with | cons _ _ => simp at hlen | nil => exact .slemp
    · rw [h3]
      cases els' with
      | nil =>
        have : els.length = 0 := by simpa using hlen.symm
        rw [this]; exact .slemp
      | cons e0 l0 =>
        have hbo : blkOf β H i = some b := by simp only [blkOf, hb, h3, anchor]; rw [if_neg (by omega)]
        refine .sl us (by rw [hlen]) (by simp) ((hall_own hbo).trans h5) hc h9 hone (by rw [hlen]; exact h6) (fun j x e => ?_) (fun j x e => ?_)
        · obtain ⟨y, e1, _⟩ := hs.2 j x e; rw [Nat.zero_add]; exact h12 j y e1
        · obtain ⟨y, e1, e2⟩ := hs.2 j x e; exact e2 E h β w s _ (h13 j y e1)
theorem Froz.grow {i n : Nat} {t : TypeId} {nl : Bool} {els : List AV} (hb : lget H i = some (.grow t nl els)) (hn : els.length = n) (hl : lowL 0 els = true) : Froz P H (.gr i n) (.sl nl els) := by
  intro E h β w s v hr
  have hb' := hb; rw [lget_eq] at hb'
  cases hr with
  | gr ho hi hv =>
    rcases s.blk i _ hb' with ⟨rfl, rfl, _⟩ | ⟨rfl, rfl, _⟩ | ⟨rfl, b, cap, c, h3, h4, h5, h6, h7, h8, h9, h10, h11, us, h12, h13⟩
    · exact Froz.gr hb hn rfl (by simp) (by simp [flat]) ⟨rfl, by simp [flat]⟩ E h β w s v (.gr ho hi hv)
    · exact Froz.gr hb hn rfl (by simp) (by simp [flat]) ⟨rfl, by simp [flat]⟩ E h β w s v (.gr ho hi hv)
    · exact Froz.gr hb hn rfl h10 h11 (FrozL.low (by rw [lowL_iff]; exact low_flat.1 hl)) E h β w s v (.gr ho hi hv)

def xRes (T : Tab) (σ : St) (H : List Blk) : List ResultVar → (List AV → Prop) → Prop
  | [], k => k []
  | .tmp t :: l, k => bnd (σ t) fun r => xRes T σ H l fun rs => k (r :: rs)
  | .cell a t :: l, k => bnd (σ a) fun p => xLoad T t H p fun r => xRes T σ H l fun rs => k (r :: rs)
structure XOut (P : Program) (H : List Blk) (r r0 : AV) : Prop where
  o : Froz P H r r0
def XFn (P : Program) (T : Tab) (res : List ResultVar) (r0 : AV) : Post := fun e D σ H =>
  match e, D with
  | .normal, [] | .ret, [] => xRes T σ H res fun rs => XOut P H (pack rs) r0
  | _, _ => False

theorem opLoad_mono {t : TypeId} {p : AV} {k k' : AV → Prop} (x : opLoad P t H p k) (hk : ∀ r, k r → k' r) : opLoad P t H p k' := by
  unfold opLoad at x ⊢
  refine bnd_mono x fun ti _ x => bnd_mono x fun cs _ x => ?_
  split at x
  · rename_i e; rw [if_pos e]; exact ⟨x.1, hk _ x.2⟩
  · rename_i e; rw [if_neg e]; exact bnd_mono x fun _ _ x => hk _ x
theorem xRes_sound (ok : TabOk P T) : ∀ {l : List ResultVar} {k : List AV → Prop}, xRes T σ H l k → resA P σ H l k
  | [], _, h => h
  | .tmp t :: l, k, h => bnd_mono h fun _ _ h1 => xRes_sound ok h1
  | .cell a t :: l, k, h => bnd_mono h fun _ _ h1 => opLoad_mono (xLoad_sound ok h1) fun _ h2 => xRes_sound ok h2

structure Comp (P : Program) (f : FuncId) (rs : List AV) (r : AV) : Prop where
  lo : lowL 0 rs = true
  o : ACall P f rs [] (Ret r [])

def argX (rs : List AV) : St := fun t => lget rs t
theorem argX_eq (rs : List AV) : argX rs = argsSt rs := by funext t; exact lget_eq _ _

theorem XCall.ret {f : FuncId} {rs : List AV} {r0 : AV} {k : AV → List Blk → Prop} (x : Comp P f rs r0) (hk : k r0 H) : XCall P f rs H k := by
  refine ⟨x.o.1, fun E h β w vs s hr => ?_⟩
  classical
  let E' : Env := ⟨E.b, fun b => if ∃ i, blkOf β H i = some b then w.heap[b]? else E.fr b, E.en⟩
  have s0 : SR P E' h β [] w := by
    refine ⟨s.env, s.imm, fun i x e => by simp at e, fun i j x e => by simp [blkOf] at e, fun i x e => by simp [blkOf] at e, fun b o e => ?_, fun i x e => by simp [blkOf] at e⟩
    simp only [E'] at e
    split at e
    · rename_i hh; obtain ⟨i, hi⟩ := hh; exact ⟨e, s.fresh _ _ hi⟩
    · exact s.frm b o e
  have hr0 : RepL P h β [] rs vs := ⟨hr.1, fun j y e => by
    obtain ⟨v, e1, e2⟩ := hr.2 j y e
    exact ⟨v, e1, Rep.cut (H := []) (l := H) e2 ((lowL_iff.1 x.lo) y (List.mem_of_getElem? e))⟩⟩
  refine (x.o.2 E' h β w vs s0 hr0).mono ?_
  rintro e w' ⟨r, H', h', β', v, rfl, ⟨rfl, rfl⟩, X, s', hrep⟩
  have X' : Ext h β H h' β H := ⟨X.imm, Nat.le_refl _, fun i x x' e e' => by rw [e] at e'; cases e'; exact Blk.to_refl _ _ _⟩
  have hfr : ∀ i b o, blkOf β H i = some b → w.heap[b]? = some o → w'.heap[b]? = some o ∧ h' b = none := fun i b o e eo => s'.frm b o (by simp only [E']; rw [if_pos ⟨i, e⟩]; exact eo)
  have hown : ∀ i b, blkOf β H i = some b → w'.heap[b]? = w.heap[b]? := fun i b e => by
    have hlt := s.lt e
    have : w.heap[b]? = some w.heap[b] := Array.getElem?_eq_getElem hlt
    rw [(hfr i b _ e this).1, this]
  refine ⟨r, H, h', β, v, rfl, hk, X', ⟨s'.env, s'.imm, fun i x e => ?_, s.own, fun i b e => ?_, fun b o e => ?_, s.fro⟩, hrep.none⟩
  · exact (s.blk i x e).keep X' rfl fun hd hd' b hb => hown i b (by unfold blkOf; rw [e]; cases x <;> first | exact absurd rfl hd | exact absurd rfl hd' | exact hb)
  · have hlt := s.lt e
    exact (hfr i b _ e (Array.getElem?_eq_getElem hlt)).2
  · refine s'.frm b o ?_
    simp only [E']; rw [if_neg]; exact e
    rintro ⟨i, hi⟩; rw [s.fro _ _ hi] at e; cases e

mutual
def AV.plain : AV → Bool
  | .bool _ | .int _ _ | .nilp | .nilm | .nilf => true
  | .sl true [] => true
  | .agg cs | .tup cs => plainL cs
  | _ => false
def plainL : List AV → Bool
  | [] => true
  | x :: l => x.plain && plainL l
end
theorem plainL_iff : ∀ {l : List AV}, plainL l = true ↔ ∀ x ∈ l, x.plain = true
  | [] => by simp [plainL]
  | x :: l => by simp [plainL, plainL_iff (l := l)]
theorem Rep.plain {h' : Nat → Option Obj} {β' : Nat → Value} {H' : List Blk} {r : AV} {v : Value} (x : Rep P h β H r v) (hp : r.plain = true) : Rep P h' β' H' r v := by
  induction x with
  | bool b => exact .bool b
  | int k n => exact .int k n
  | nilp => exact .nilp
  | nilm => exact .nilm
  | nilf => exact .nilf
  | slnil => exact .slnil
  | agg us h1 h2 h3 _ ih =>
    simp only [AV.plain] at hp; rw [plainL_iff] at hp
    exact .agg us h1 h2 h3 fun j x e => ih j x e (hp x (List.mem_of_getElem? e))
  | tup us h1 h2 _ ih =>
    simp only [AV.plain] at hp; rw [plainL_iff] at hp
    exact .tup us h1 h2 fun j x e => ih j x e (hp x (List.mem_of_getElem? e))
  | _ => simp [AV.plain] at hp

theorem XCall.lend {f : FuncId} {rs rs' : List AV} {r0 : AV} {k : AV → List Blk → Prop} (x : Comp P f rs' r0) (hf : FrozL P H rs rs') (hp : r0.plain = true) (hk : k r0 H) : XCall P f rs H k := by
  refine ⟨x.o.1, fun E h β w vs s hr => ?_⟩
  have hr0 : RepL P (hall h β H w) β [] rs' vs := ⟨by rw [hf.1]; exact hr.1, fun j y e => by
    obtain ⟨z, e1, e2⟩ := hf.2 j y e
    obtain ⟨v, e3, e4⟩ := hr.2 j z e1
    exact ⟨v, e3, e2 E h β w s v e4⟩⟩
  refine (x.o.2 E _ β w vs s.all hr0).mono ?_
  rintro e w' ⟨r, H', h', β', v, rfl, ⟨rfl, rfl⟩, X, s', hrep⟩
  have hown : ∀ i b, blkOf β H i = some b → w'.heap[b]? = w.heap[b]? := fun i b e => by
    have hlt := s.lt e
    have e1 : w.heap[b]? = some w.heap[b] := Array.getElem?_eq_getElem hlt
    have e2 := s'.imm b _ (X.imm b _ ((hall_own (h := h) (w := w) e).trans e1))
    rw [e2, e1]
  refine ⟨r, H, h, β, v, rfl, hk, Ext.refl _ _ _, ⟨s'.env, fun b o e => s'.imm b o (X.imm b o (hall_imm s e)), fun i x e => ?_, s.own, s.fresh, fun b o e => ⟨(s'.frm b o e).1, (s.frm b o e).2⟩, s.fro⟩, hrep.plain hp⟩
  exact (s.blk i x e).keep (Ext.refl _ _ _) rfl fun hd hd' b hb => hown i b (by unfold blkOf; rw [e]; cases x <;> first | exact absurd rfl hd | exact absurd rfl hd' | exact hb)
end

def SubX : List (Nat × AV) → St → Prop
  | [], _ => True
  | (t, r) :: l, σ => σ t = some r ∧ SubX l σ
structure XAgain {G : Type} (I : G → Prop) (L : G → List (Nat × AV)) (hp : G → List Blk) (μ : G → Nat) (g : G) (D : List Nat) (D' : List Nat) (σ' : St) (H' : List Blk) : Prop where
  d : D' = D
  o : ∃ g', I g' ∧ μ g' < μ g ∧ hp g' = H' ∧ SubX (L g') σ'

section
variable {P : Program} {T : Tab} {N : Nat} {ρ : Option Nat} {D : List Nat} {σ : St} {H : List Blk}
theorem stX_sub : ∀ {l : List (Nat × AV)} {σ : St}, SubX l σ → ∀ t r, stX l t = some r → σ t = some r
  | [], _, _, _, _, e => by cases e
  | (u, x) :: l, σ, h, t, r, e => by
    simp only [stX, updX_eq, upd] at e
    split at e
    · rename_i h1; subst h1; cases e; exact h.1
    · exact stX_sub h.2 t r e

theorem Walk.loop {c : Code} {Q : Post} {G : Type} (ok : TabOk P T) (own : List Nat) (I : G → Prop) (L : G → List (Nat × AV)) (hp : G → List Blk) (μ : G → Nat) (g0 : G) (h0 : I g0) (hH : hp g0 = H) (hs : SubX (L g0) σ)
    (round : ∀ g, I g → XRun P T N ρ own c (thenQ (XAgain I L hp μ g D) Q) D (stX (L g)) (hp g)) : Walk P N ρ (.loop c) Q D σ H := by
  constructor
  refine AWp.loop (G := {g : G // I g}) (fun g => stX (L g.1)) (fun g => hp g.1) (fun g => μ g.1) ⟨g0, h0⟩ (stX_sub hs) hH fun g => ?_
  refine (XRun.sound ok (round g.1 g.2)).mono fun e D' σ' H' q => ?_
  cases e with
  | normal => obtain ⟨h1, g', h2, h3, h4, h5⟩ := q; exact ⟨h1, ⟨g', h2⟩, h3, h4, stX_sub h5⟩
  | _ => exact q
theorem XAgain.go {G : Type} {I : G → Prop} {L : G → List (Nat × AV)} {hp : G → List Blk} {μ : G → Nat} {g : G} (g' : G) (h1 : I g') (h2 : μ g' < μ g) (h3 : hp g' = H) (h4 : SubX (L g') σ) : XAgain I L hp μ g D D σ H := ⟨rfl, g', h1, h2, h3, h4⟩

theorem XBr.tt {A B : Prop} (h : A) : XBr true A B := ⟨fun _ => h, nofun⟩
theorem XBr.ff {A B : Prop} (h : B) : XBr false A B := ⟨nofun, fun _ => h⟩
theorem XBr.yes {c : Bool} {A B : Prop} (e : c = true) (h : A) : XBr c A B := by subst e; exact .tt h
theorem XBr.no {c : Bool} {A B : Prop} (e : c = false) (h : B) : XBr c A B := by subst e; exact .ff h
theorem XBr.dec {p : Prop} [Decidable p] {A B : Prop} (h1 : p → A) (h2 : ¬ p → B) : XBr (decide p) A B := ⟨fun h => h1 (of_decide_eq_true h), fun h => h2 (of_decide_eq_false h)⟩
theorem XBr.beq {a b : Int} {A B : Prop} (h1 : a = b → A) (h2 : a ≠ b → B) : XBr (a == b) A B := ⟨fun h => h1 (by simpa using h), fun h => h2 (by simpa using h)⟩
theorem XBr.bne {a b : Int} {A B : Prop} (h1 : a ≠ b → A) (h2 : a = b → B) : XBr (a != b) A B := ⟨fun h => h1 (by simpa using h), fun h => h2 (by simpa using h)⟩
theorem XBr.not {b : Bool} {A B : Prop} (h : XBr b B A) : XBr (!b) A B := ⟨fun e => h.2 (by simpa using e), fun e => h.1 (by simpa using e)⟩
theorem XBr.mk' {b : Bool} {A B : Prop} (h1 : b = true → A) (h2 : b = false → B) : XBr b A B := ⟨h1, h2⟩
theorem XInt.i64 {x : Int} {k : AV → Prop} (h1 : -9223372036854775808 ≤ x) (h2 : x ≤ 9223372036854775807) (h : k (.int .i64 x)) : XInt .i64 x k := by
  refine ⟨?_⟩
  have : IntKind.i64.wrap x = x := by
    simp only [IntKind.wrap, IntKind.bits, IntKind.signed]; simp; omega
  rw [this]; exact h
theorem XIx.map {α : Type} [Inhabited α] {f : α → AV} {xs : List α} {n : Int} {w : Nat} {k : AV → Prop} (h1 : 0 ≤ n) (h2 : n < xs.length) (hw : ∀ x, (f x).cells.length = w) (h : k (.pim (f (xs.getD n.toNat default)).cells)) : XIx (xs.map f) n w k := by
  have e : nth (xs.map f) n = f (xs.getD n.toNat default) := by
    unfold nth
    have : n.toNat < xs.length := by omega
    rw [List.getD_eq_getElem?_getD, List.getD_eq_getElem?_getD, List.getElem?_map, List.getElem?_eq_getElem this]; rfl
  exact ⟨h1, by simpa using h2, by rw [e]; exact hw _, by rw [e]; exact h⟩
theorem XIx.nat {α : Type} [Inhabited α] {f : α → AV} {xs : List α} {i w : Nat} {k : AV → Prop} (h2 : i < xs.length) (hw : ∀ x, (f x).cells.length = w) (h : k (.pim (f (xs.getD i default)).cells)) : XIx (xs.map f) (i : Int) w k :=
  XIx.map (by omega) (by omega) hw h
theorem drop_cons {cs : List AV} {off : Nat} {c : AV} (h : cs[off]? = some c) : cs.drop off = c :: cs.drop (off + 1) := by
  obtain ⟨h1, h2⟩ := List.getElem?_eq_some_iff.1 h
  rw [List.drop_eq_getElem_cons h1, h2]
theorem XArr.at {cs : List AV} {n : Int} {m w : Nat} {k : AV → Prop} (c : AV) (h1 : 0 ≤ n) (h2 : n < m) (hc : cs[n.toNat * w]? = some c) (h : k (.pim (c :: cs.drop (n.toNat * w + 1)))) : XArr (.pim cs) n m w k :=
  ⟨h1, h2, by show k (.pim (cs.drop _)); rw [drop_cons hc]; exact h⟩
theorem XArr.ptr {i o : Nat} {n : Int} {m w : Nat} {k : AV → Prop} (h1 : 0 ≤ n) (h2 : n < m) (h : k (.ptr i (o + n.toNat * w))) : XArr (.ptr i o) n m w k := ⟨h1, h2, h⟩
theorem XArr.pim {cs : List AV} {n : Int} {m w : Nat} {k : AV → Prop} (h1 : 0 ≤ n) (h2 : n < m) (h : k (.pim (cs.drop (n.toNat * w)))) : XArr (.pim cs) n m w k := ⟨h1, h2, h⟩
theorem xdrop_at {cs : List AV} {off : Nat} {k : List AV → Prop} (c : AV) (hc : cs[off]? = some c) (h : k (c :: cs.drop (off + 1))) : xdrop off cs k := by
  have : ∀ {off : Nat} {cs : List AV}, off ≤ cs.length → k (cs.drop off) → xdrop off cs k := by
    intro off; induction off with
    | zero => intro cs _ h; exact h
    | succ n ih => intro cs hl h; cases cs with
      | nil => simp at hl
      | cons c cs => exact ih (by simpa using hl) (by simpa using h)
  exact this (by have := (List.getElem?_eq_some_iff.1 hc).1; omega) (by rw [drop_cons hc]; exact h)
theorem xdrop_app {a b : List AV} {n : Nat} {k : List AV → Prop} (hn : a.length = n) (h : k b) : xdrop n (a ++ b) k := by
  have : ∀ {n : Nat} {a : List AV}, a.length = n → xdrop n (a ++ b) k := by
    intro n; induction n with
    | zero => intro a ha; rw [List.eq_nil_of_length_eq_zero ha]; exact h
    | succ n ih => intro a ha; cases a with
      | nil => simp at ha
      | cons c cs => exact ih (by simpa using ha)
  exact this hn
theorem XGet.map {α : Type} [Inhabited α] {f : α → AV} {xs : List α} {n e : Nat} {k : List AV → Prop} (h1 : n = xs.length) (h2 : e < n) (h : k (f (xs.getD e default)).cells) : XGet (xs.map f) n e k := by
  have e' : (xs.map f).getD e default = f (xs.getD e default) := by
    have : e < xs.length := by omega
    rw [List.getD_eq_getElem?_getD, List.getD_eq_getElem?_getD, List.getElem?_map, List.getElem?_eq_getElem this]; rfl
  exact ⟨by simpa using h1, h2, by rw [e']; exact h⟩
theorem XPut.map {α : Type} {f : α → AV} {xs : List α} {n e : Nat} {v : AV} {k : List AV → Prop} (x : α) (hv : v = f x) (h1 : n = xs.length) (h2 : e < n) (h : k ((xs.set e x).map f)) : XPut (xs.map f) n e v k :=
  ⟨by simpa using h1, h2, by subst hv; rw [← List.map_set]; exact h⟩
theorem wide_map {α : Type} {f : α → AV} {n : Nat} (h1 : ∀ x, (f x).cells.length = n) (h2 : ∀ x, (f x).isTup = false) : ∀ (xs : List α), wide n (xs.map f) = true
  | [] => rfl
  | x :: xs => by simp [wide, h1, h2, wide_map h1 h2 xs]
theorem lowL_map {α : Type} {f : α → AV} {n : Nat} (hf : ∀ x, (f x).low n = true) (xs : List α) : lowL n (xs.map f) = true := by
  rw [lowL_iff]; intro x hx; obtain ⟨y, _, rfl⟩ := List.mem_map.1 hx; exact hf y
end
end GA
namespace GA
open Go
section
variable {P : Program} {H : List Blk}
theorem XOut.bool {b b' : Bool} (e : b = b') : XOut P H (.bool b) (.bool b') := by subst e; exact ⟨.low rfl⟩
theorem XOut.int {q : IntKind} {n n' : Int} (e : n = n') : XOut P H (.int q n) (.int q n') := by subst e; exact ⟨.low rfl⟩
end
end GA

namespace GA
open Go
theorem take_next {α : Type} [Inhabited α] {xs : List α} {i : Nat} (h : i < xs.length) : xs.take (i + 1) = xs.take i ++ [xs.getD i default] := by
  rw [List.take_add_one, List.getElem?_eq_getElem h, List.getD_eq_getElem?_getD, List.getElem?_eq_getElem h]; rfl
abbrev ints (xs : List Int) : List AV := xs.map (.int .i64)
theorem lowI {n : Nat} (xs : List Int) : lowL n (ints xs) = true := lowL_map (fun _ => rfl) xs
theorem wideI (xs : List Int) : wide 1 (ints xs) = true := wide_map (f := .int .i64) (n := 1) (fun _ => rfl) (fun _ => rfl) xs
end GA
namespace GA
open Go
theorem ints_at {xs : List Int} {i : Nat} (h : i < xs.length) (b : List AV) : (ints xs ++ b)[i * 1]? = some (.int .i64 (xs.getD i 0)) := by
  rw [Nat.mul_one, List.getElem?_append_left (by simpa using h), List.getElem?_map, List.getElem?_eq_getElem h, List.getD_eq_getElem?_getD, List.getElem?_eq_getElem h]; rfl
theorem XArr.ints {xs : List Int} {n : Int} {m : Nat} {k : AV → Prop} (h1 : 0 ≤ n) (h2 : n < m) (hm : (m : Int) ≤ xs.length) (h : k (.pim (.int .i64 (xs.getD n.toNat 0) :: (GA.ints xs).drop (n.toNat * 1 + 1)))) : XArr (.pim (GA.ints xs)) n m 1 k :=
  XArr.at _ h1 h2 (by have := ints_at (xs := xs) (i := n.toNat) (by omega) []; simpa using this) h
end GA

namespace GA
open Go
theorem XArr.pim0 {c : AV} {cs : List AV} {m w : Nat} {k : AV → Prop} (h : k (.pim (c :: cs))) : XArr (.pim (c :: cs)) 0 (m + 1) w k := ⟨by omega, by omega, by show k (.pim (List.drop (0 * w) _)); rw [Nat.zero_mul]; exact h⟩
theorem XArr.pim1 {c d : AV} {cs : List AV} {m : Nat} {k : AV → Prop} (h : k (.pim (d :: cs))) : XArr (.pim (c :: d :: cs)) 1 (m + 2) 1 k := ⟨by omega, by omega, h⟩
end GA
end

section
namespace GA
open Go Go.RowKit
section
variable {P : Program} {t : TypeId} {ag : Bool} {n : Nat} {z : Option AV} {q : Option Nat}
def FldOk (P : Program) (t : TypeId) : Nat → List (Nat × Bool × Nat) → Prop
  | _, [] => True
  | i, x :: l => fldK P t i = some x ∧ FldOk P t (i + 1) l
theorem FldOk.get : ∀ {fs : List (Nat × Bool × Nat)} {j i : Nat} {x : Nat × Bool × Nat}, FldOk P t j fs → lget fs i = some x → fldK P t (j + i) = some x
  | _ :: _, j, 0, x, h, e => by cases e; exact h.1
  | _ :: l, j, i + 1, x, h, e => by
    have := FldOk.get (fs := l) (j := j + 1) (i := i) h.2 e
    rwa [show j + 1 + i = j + (i + 1) by omega] at this
def isStT (P : Program) (t : TypeId) : Bool := match P.underlying t with | some (.struct _) => true | _ => false
theorem place_st (hu : isStT P t = true) {i : Nat} {x : Nat × Bool × Nat} (h : fldK P t i = some x) : placeK P t i = some (x.1, x.2.2) := by
  unfold isStT at hu; split at hu
  · rename_i e; unfold placeK; rw [e]; simp [h]
  · cases hu
theorem TeOk.st {fs : List (Nat × Bool × Nat)} (h1 : tyK P t = some (ag, n)) (h2 : sz P t = n) (h3 : ∀ z', z = some z' → zeroA P t = some z') (hu : isStT P t = true) (hf : FldOk P t 0 fs) (ha : allK P t = true) (hq : ∀ n, q = some n → intsT P t = some n) : TeOk P t ⟨ag, n, z, .st fs, q⟩ :=
  ⟨h1, h2, h3, ⟨fun i x e => by have := hf.get e; rw [Nat.zero_add] at this; exact ⟨this, place_st hu this⟩, ha⟩, hq⟩
theorem TeOk.ar {m : Nat} {el : TypeId} {ag' : Bool} {w : Nat} (h1 : tyK P t = some (ag, n)) (h2 : sz P t = n) (h3 : ∀ z', z = some z' → zeroA P t = some z') (hu : P.underlying t = some (.array m el)) (hf : arK P t = some (m, ag', w)) (ha : allK P t = true) (hq : ∀ n, q = some n → intsT P t = some n) : TeOk P t ⟨ag, n, z, .ar m ag' w, q⟩ :=
  ⟨h1, h2, h3, ⟨hf, ha, fun i => by unfold placeK; rw [hu]; simp [hf]⟩, hq⟩
theorem qsome {n n' : Nat} (h : intsT P t = some n) : some n = some n' → intsT P t = some n' := fun e => e ▸ h
theorem qnone {n' : Nat} : none = some n' → intsT P t = some n' := nofun
theorem zsome {z z' : AV} (h : zeroA P t = some z) : some z = some z' → zeroA P t = some z' := fun e => e ▸ h
theorem znone {z' : AV} : none = some z' → zeroA P t = some z' := nofun
end
end GA
end

section
namespace GA
open Go Go.Proofs
set_option maxRecDepth 100000
@[irreducible] def rep (n : Nat) (x : AV) : List AV := List.replicate n x
theorem rep_eq (n : Nat) (x : AV) : rep n x = List.replicate n x := by unfold rep; rfl
section
variable {P : Program} {t n : Nat} {ag : Bool} {z : AV}
theorem TeOk.c (h1 : tyK P t = some (ag, n) := by kernel_rfl) (h2 : sz P t = n := by kernel_rfl) (h3 : zeroA P t = some z := by kernel_rfl) : TeOk P t ⟨ag, n, some z, .oth, none⟩ := ⟨h1, h2, fun _ => zsome h3, trivial, fun _ => qnone⟩
theorem TeOk.c0 (h1 : tyK P t = some (ag, n) := by kernel_rfl) (h2 : sz P t = n := by kernel_rfl) : TeOk P t ⟨ag, n, none, .oth, none⟩ := ⟨h1, h2, fun _ => znone, trivial, fun _ => qnone⟩
theorem TeOk.i {q : IntKind} (h1 : tyK P t = some (ag, n) := by kernel_rfl) (h2 : sz P t = n := by kernel_rfl) (h3 : zeroA P t = some z := by kernel_rfl) (h4 : P.underlying t = some (.int q) := by kernel_rfl) : TeOk P t ⟨ag, n, some z, .int q, none⟩ := ⟨h1, h2, fun _ => zsome h3, h4, fun _ => qnone⟩
theorem TeOk.bo (h1 : tyK P t = some (ag, n) := by kernel_rfl) (h2 : sz P t = n := by kernel_rfl) (h3 : zeroA P t = some z := by kernel_rfl) (h4 : isBoolT P t := by (unfold isBoolT; kernel_rfl)) : TeOk P t ⟨ag, n, some z, .bool, none⟩ := ⟨h1, h2, fun _ => zsome h3, h4, fun _ => qnone⟩
theorem TeOk.s (e : TypeId) {el w b : Nat} {ze : AV} (h1 : tyK P t = some (ag, n) := by kernel_rfl) (h2 : sz P t = n := by kernel_rfl) (h3 : zeroA P t = some z := by kernel_rfl) (h4 : slE P t = some (el, w, b) := by kernel_rfl) (h5 : slK P t = some w := by kernel_rfl) (h6 : P.underlying t = some (.slice e) := by kernel_rfl) (h7 : zeroA P el = some ze := by kernel_rfl) : TeOk P t ⟨ag, n, some z, .sl el w b ze, none⟩ := ⟨h1, h2, fun _ => zsome h3, ⟨h4, h5, ⟨e, h6⟩, h7⟩, fun _ => qnone⟩
theorem TeOk.m {ze : AV} (h1 : tyK P t = some (ag, n) := by kernel_rfl) (h2 : sz P t = n := by kernel_rfl) (h3 : zeroA P t = some z := by kernel_rfl) (h4 : mapT P t = some ze := by kernel_rfl) : TeOk P t ⟨ag, n, some z, .mp ze, none⟩ := ⟨h1, h2, fun _ => zsome h3, h4, fun _ => qnone⟩
theorem TeOk.m2 {ze : AV} (h1 : tyK P t = some (ag, n) := by kernel_rfl) (h2 : sz P t = n := by kernel_rfl) (h3 : zeroA P t = some z := by kernel_rfl) (h4 : mapT2 P t = some ze := by kernel_rfl) : TeOk P t ⟨ag, n, some z, .mp2 ze, none⟩ := ⟨h1, h2, fun _ => zsome h3, h4, fun _ => qnone⟩
theorem TeOk.a (el : TypeId) {m w : Nat} {ag' : Bool} (h1 : tyK P t = some (ag, n) := by kernel_rfl) (h2 : sz P t = n := by kernel_rfl) (h3 : zeroA P t = some z := by kernel_rfl) (h4 : P.underlying t = some (.array m el) := by kernel_rfl) (h5 : arK P t = some (m, ag', w) := by kernel_rfl) (h6 : allK P t = true := by kernel_rfl) : TeOk P t ⟨ag, n, some z, .ar m ag' w, none⟩ := .ar h1 h2 (fun _ => zsome h3) h4 h5 h6 fun _ => qnone
theorem TeOk.aq (el : TypeId) {m w q : Nat} {ag' : Bool} (h1 : tyK P t = some (ag, n) := by kernel_rfl) (h2 : sz P t = n := by kernel_rfl) (h3 : zeroA P t = some z := by kernel_rfl) (h4 : P.underlying t = some (.array m el) := by kernel_rfl) (h5 : arK P t = some (m, ag', w) := by kernel_rfl) (h6 : allK P t = true := by kernel_rfl) (h7 : intsT P t = some q := by kernel_rfl) : TeOk P t ⟨ag, n, some z, .ar m ag' w, some q⟩ := .ar h1 h2 (fun _ => zsome h3) h4 h5 h6 fun _ => qsome h7
theorem TeOk.u {fs : List (Nat × Bool × Nat)} (h1 : tyK P t = some (ag, n) := by kernel_rfl) (h2 : sz P t = n := by kernel_rfl) (h3 : zeroA P t = some z := by kernel_rfl) (h4 : isStT P t = true := by kernel_rfl) (h5 : FldOk P t 0 fs := by (repeat' first | exact trivial | refine And.intro ?_ ?_ | kernel_rfl)) (h6 : allK P t = true := by kernel_rfl) : TeOk P t ⟨ag, n, some z, .st fs, none⟩ := .st h1 h2 (fun _ => zsome h3) h4 h5 h6 fun _ => qnone
theorem TeOk.uq {fs : List (Nat × Bool × Nat)} {q : Nat} (h1 : tyK P t = some (ag, n) := by kernel_rfl) (h2 : sz P t = n := by kernel_rfl) (h3 : zeroA P t = some z := by kernel_rfl) (h4 : isStT P t = true := by kernel_rfl) (h5 : FldOk P t 0 fs := by (repeat' first | exact trivial | refine And.intro ?_ ?_ | kernel_rfl)) (h6 : allK P t = true := by kernel_rfl) (h7 : intsT P t = some q := by kernel_rfl) : TeOk P t ⟨ag, n, some z, .st fs, some q⟩ := .st h1 h2 (fun _ => zsome h3) h4 h5 h6 fun _ => qsome h7
end
def te1 : TE := ⟨false, 1, some (.nilf), .oth, none⟩
theorem te1_ok : TeOk Tryz.prog 1 te1 := .c
def te2 : TE := ⟨false, 1, some (.int .i64 0), .int .i64, none⟩
theorem te2_ok : TeOk Tryz.prog 2 te2 := .i
def te3 : TE := ⟨false, 1, some (.int .i64 0), .int .i64, none⟩
theorem te3_ok : TeOk Tryz.prog 3 te3 := .i
def te4 : TE := ⟨false, 1, some (.bool false), .bool, none⟩
theorem te4_ok : TeOk Tryz.prog 4 te4 := .bo
def te5 : TE := ⟨false, 1, some (.int .u8 0), .int .u8, none⟩
theorem te5_ok : TeOk Tryz.prog 5 te5 := .i
def te7 : TE := ⟨true, 4, some (.agg [.int .i64 0, .int .i64 0, .bool false, .int .u8 0]), .st [(0, false, 1), (1, false, 1), (2, false, 1), (3, false, 1)], none⟩
theorem te7_ok : TeOk Tryz.prog 7 te7 := .u
def te12 : TE := ⟨false, 1, some (.int .u64 0), .int .u64, none⟩
theorem te12_ok : TeOk Tryz.prog 12 te12 := .i
def te18 : TE := ⟨true, 1, some (.agg [.nilp]), .st [(0, false, 1)], none⟩
theorem te18_ok : TeOk Tryz.prog 18 te18 := .u
def te21 : TE := ⟨false, 1, some (.int .i32 0), .int .i32, none⟩
theorem te21_ok : TeOk Tryz.prog 21 te21 := .i
def te22 : TE := ⟨false, 1, some (.sl true []), .sl 5 1 1 (.int .u8 0), none⟩
theorem te22_ok : TeOk Tryz.prog 22 te22 := .s 5
def te23 : TE := ⟨false, 1, some (.sl true []), .sl 37 2 16 (.agg [.int .i64 0, .int .i64 0]), none⟩
theorem te23_ok : TeOk Tryz.prog 23 te23 := .s 37
def te24 : TE := ⟨true, 2, some (.agg [.int .i64 0, .int .i64 0]), .st [(0, false, 1), (1, false, 1)], some 2⟩
theorem te24_ok : TeOk Tryz.prog 24 te24 := .uq
def te25 : TE := ⟨true, 2, some (.agg [.int .i64 0, .int .i64 0]), .st [(0, false, 1), (1, false, 1)], some 2⟩
theorem te25_ok : TeOk Tryz.prog 25 te25 := .uq
def te26 : TE := ⟨false, 1, some (.sl true []), .sl 3 1 8 (.int .i64 0), none⟩
theorem te26_ok : TeOk Tryz.prog 26 te26 := .s 3
def te27 : TE := ⟨false, 1, some (.sl true []), .sl 77 3 24 (.agg [.int .i64 0, .int .i64 0, .int .i64 0]), none⟩
theorem te27_ok : TeOk Tryz.prog 27 te27 := .s 77
def te28 : TE := ⟨true, 5, some (.agg [.sl true [], .int .i64 0, .int .i64 0, .sl true [], .sl true []]), .st [(0, false, 1), (1, true, 2), (3, false, 1), (4, false, 1)], none⟩
theorem te28_ok : TeOk Tryz.prog 28 te28 := .u
def te29 : TE := ⟨true, 5, some (.agg [.sl true [], .int .i64 0, .int .i64 0, .sl true [], .sl true []]), .st [(0, false, 1), (1, true, 2), (3, false, 1), (4, false, 1)], none⟩
theorem te29_ok : TeOk Tryz.prog 29 te29 := .u
def te30 : TE := ⟨false, 1, some (.nilf), .oth, none⟩
theorem te30_ok : TeOk Tryz.prog 30 te30 := .c
def te31 : TE := ⟨false, 1, some (.nilp), .oth, none⟩
theorem te31_ok : TeOk Tryz.prog 31 te31 := .c
def te32 : TE := ⟨false, 1, some (.nilf), .oth, none⟩
theorem te32_ok : TeOk Tryz.prog 32 te32 := .c
def te33 : TE := ⟨false, 1, some (.int .i64 0), .int .i64, none⟩
theorem te33_ok : TeOk Tryz.prog 33 te33 := .i
def te34 : TE := ⟨false, 1, some (.nilf), .oth, none⟩
theorem te34_ok : TeOk Tryz.prog 34 te34 := .c
def te35 : TE := ⟨false, 1, some (.nilf), .oth, none⟩
theorem te35_ok : TeOk Tryz.prog 35 te35 := .c
def te36 : TE := ⟨true, 2, some (.agg [.int .i64 0, .int .i64 0]), .st [(0, false, 1), (1, false, 1)], some 2⟩
theorem te36_ok : TeOk Tryz.prog 36 te36 := .uq
def te37 : TE := ⟨true, 2, some (.agg [.int .i64 0, .int .i64 0]), .st [(0, false, 1), (1, false, 1)], some 2⟩
theorem te37_ok : TeOk Tryz.prog 37 te37 := .uq
def te38 : TE := ⟨true, 3, some (.agg [.int .i64 0, .int .i64 0, .int .i64 0]), .ar 3 false 1, some 3⟩
theorem te38_ok : TeOk Tryz.prog 38 te38 := .aq 3
def te39 : TE := ⟨false, 1, some (.sl true []), .sl 38 3 24 (.agg [.int .i64 0, .int .i64 0, .int .i64 0]), none⟩
theorem te39_ok : TeOk Tryz.prog 39 te39 := .s 38
def te40 : TE := ⟨false, 1, some (.sl true []), .sl 26 1 24 (.sl true []), none⟩
theorem te40_ok : TeOk Tryz.prog 40 te40 := .s 26
def te41 : TE := ⟨false, 1, some (.sl true []), .sl 46 1 24 (.agg [.sl true []]), none⟩
theorem te41_ok : TeOk Tryz.prog 41 te41 := .s 46
def te42 : TE := ⟨true, 7, some (.agg [.int .i64 0, .int .i64 0, .int .i64 0, .int .i64 0, .sl true [], .sl true [], .sl true []]), .st [(0, false, 1), (1, false, 1), (2, false, 1), (3, false, 1), (4, false, 1), (5, false, 1), (6, false, 1)], none⟩
theorem te42_ok : TeOk Tryz.prog 42 te42 := .u
def te43 : TE := ⟨true, 7, some (.agg [.int .i64 0, .int .i64 0, .int .i64 0, .int .i64 0, .sl true [], .sl true [], .sl true []]), .st [(0, false, 1), (1, false, 1), (2, false, 1), (3, false, 1), (4, false, 1), (5, false, 1), (6, false, 1)], none⟩
theorem te43_ok : TeOk Tryz.prog 43 te43 := .u
def te44 : TE := ⟨false, 1, some (.sl true []), .sl 47 1 24 (.sl true []), none⟩
theorem te44_ok : TeOk Tryz.prog 44 te44 := .s 47
def te45 : TE := ⟨true, 1, some (.agg [.sl true []]), .st [(0, false, 1)], none⟩
theorem te45_ok : TeOk Tryz.prog 45 te45 := .u
def te46 : TE := ⟨true, 1, some (.agg [.sl true []]), .st [(0, false, 1)], none⟩
theorem te46_ok : TeOk Tryz.prog 46 te46 := .u
def te47 : TE := ⟨false, 1, some (.sl true []), .sl 25 2 16 (.agg [.int .i64 0, .int .i64 0]), none⟩
theorem te47_ok : TeOk Tryz.prog 47 te47 := .s 25
def te49 : TE := ⟨false, 1, some (.nilf), .oth, none⟩
theorem te49_ok : TeOk Tryz.prog 49 te49 := .c
def te50 : TE := ⟨false, 1, some (.int .i64 0), .int .i64, none⟩
theorem te50_ok : TeOk Tryz.prog 50 te50 := .i
def te51 : TE := ⟨false, 1, some (.nilf), .oth, none⟩
theorem te51_ok : TeOk Tryz.prog 51 te51 := .c
def te53 : TE := ⟨false, 1, some (.nilf), .oth, none⟩
theorem te53_ok : TeOk Tryz.prog 53 te53 := .c
def te55 : TE := ⟨false, 1, some (.nilf), .oth, none⟩
theorem te55_ok : TeOk Tryz.prog 55 te55 := .c
def te56 : TE := ⟨false, 1, some (.nilf), .oth, none⟩
theorem te56_ok : TeOk Tryz.prog 56 te56 := .c
def te57 : TE := ⟨true, 3, some (.agg [.int .i64 0, .int .i64 0, .int .i64 0]), .st [(0, false, 1), (1, false, 1), (2, false, 1)], some 3⟩
theorem te57_ok : TeOk Tryz.prog 57 te57 := .uq
def te58 : TE := ⟨true, 3, some (.agg [.int .i64 0, .int .i64 0, .int .i64 0]), .st [(0, false, 1), (1, false, 1), (2, false, 1)], some 3⟩
theorem te58_ok : TeOk Tryz.prog 58 te58 := .uq
def te59 : TE := ⟨false, 1, some (.sl true []), .sl 58 3 24 (.agg [.int .i64 0, .int .i64 0, .int .i64 0]), none⟩
theorem te59_ok : TeOk Tryz.prog 59 te59 := .s 58
def te60 : TE := ⟨false, 1, some (.sl true []), .sl 165 2 32 (.agg [.int .i64 0, .sl true []]), none⟩
theorem te60_ok : TeOk Tryz.prog 60 te60 := .s 165
def te61 : TE := ⟨true, 4, some (.agg [.int .i64 0, .sl true [], .int .i64 0, .sl true []]), .st [(0, false, 1), (1, false, 1), (2, false, 1), (3, false, 1)], none⟩
theorem te61_ok : TeOk Tryz.prog 61 te61 := .u
def te62 : TE := ⟨true, 4, some (.agg [.int .i64 0, .sl true [], .int .i64 0, .sl true []]), .st [(0, false, 1), (1, false, 1), (2, false, 1), (3, false, 1)], none⟩
theorem te62_ok : TeOk Tryz.prog 62 te62 := .u
def te63 : TE := ⟨true, 2, some (.agg [.int .i64 0, .int .i64 0]), .ar 2 false 1, some 2⟩
theorem te63_ok : TeOk Tryz.prog 63 te63 := .aq 3
def te64 : TE := ⟨false, 1, some (.sl true []), .sl 63 2 16 (.agg [.int .i64 0, .int .i64 0]), none⟩
theorem te64_ok : TeOk Tryz.prog 64 te64 := .s 63
def te65 : TE := ⟨false, 1, some (.int .i64 0), .int .i64, none⟩
theorem te65_ok : TeOk Tryz.prog 65 te65 := .i
def te67 : TE := ⟨false, 1, some (.nilf), .oth, none⟩
theorem te67_ok : TeOk Tryz.prog 67 te67 := .c
def te69 : TE := ⟨false, 1, some (.nilf), .oth, none⟩
theorem te69_ok : TeOk Tryz.prog 69 te69 := .c
def te70 : TE := ⟨false, 1, some (.nilf), .oth, none⟩
theorem te70_ok : TeOk Tryz.prog 70 te70 := .c
def te72 : TE := ⟨false, 1, some (.nilf), .oth, none⟩
theorem te72_ok : TeOk Tryz.prog 72 te72 := .c
def te73 : TE := ⟨false, 1, some (.nilf), .oth, none⟩
theorem te73_ok : TeOk Tryz.prog 73 te73 := .c
def te74 : TE := ⟨false, 1, some (.nilf), .oth, none⟩
theorem te74_ok : TeOk Tryz.prog 74 te74 := .c
def te75 : TE := ⟨false, 1, some (.nilf), .oth, none⟩
theorem te75_ok : TeOk Tryz.prog 75 te75 := .c
def te76 : TE := ⟨true, 3, some (.agg [.int .i64 0, .int .i64 0, .int .i64 0]), .st [(0, false, 1), (1, false, 1), (2, false, 1)], some 3⟩
theorem te76_ok : TeOk Tryz.prog 76 te76 := .uq
def te77 : TE := ⟨true, 3, some (.agg [.int .i64 0, .int .i64 0, .int .i64 0]), .st [(0, false, 1), (1, false, 1), (2, false, 1)], some 3⟩
theorem te77_ok : TeOk Tryz.prog 77 te77 := .uq
def te78 : TE := ⟨false, 1, some (.nilf), .oth, none⟩
theorem te78_ok : TeOk Tryz.prog 78 te78 := .c
def te79 : TE := ⟨false, 1, some (.int .u32 0), .int .u32, none⟩
theorem te79_ok : TeOk Tryz.prog 79 te79 := .i
def te80 : TE := ⟨true, 3, some (.agg [.sl true [], .int .i64 0, .int .u32 0]), .st [(0, false, 1), (1, false, 1), (2, false, 1)], none⟩
theorem te80_ok : TeOk Tryz.prog 80 te80 := .u
def te81 : TE := ⟨true, 3, some (.agg [.sl true [], .int .i64 0, .int .u32 0]), .st [(0, false, 1), (1, false, 1), (2, false, 1)], none⟩
theorem te81_ok : TeOk Tryz.prog 81 te81 := .u
def te82 : TE := ⟨false, 1, some (.nilf), .oth, none⟩
theorem te82_ok : TeOk Tryz.prog 82 te82 := .c
def te83 : TE := ⟨false, 1, some (.nilf), .oth, none⟩
theorem te83_ok : TeOk Tryz.prog 83 te83 := .c
def te84 : TE := ⟨false, 1, some (.nilf), .oth, none⟩
theorem te84_ok : TeOk Tryz.prog 84 te84 := .c
def te85 : TE := ⟨false, 1, some (.nilf), .oth, none⟩
theorem te85_ok : TeOk Tryz.prog 85 te85 := .c
def te86 : TE := ⟨false, 1, some (.nilf), .oth, none⟩
theorem te86_ok : TeOk Tryz.prog 86 te86 := .c
def te87 : TE := ⟨false, 1, some (.nilf), .oth, none⟩
theorem te87_ok : TeOk Tryz.prog 87 te87 := .c
def te88 : TE := ⟨false, 1, some (.nilf), .oth, none⟩
theorem te88_ok : TeOk Tryz.prog 88 te88 := .c
def te89 : TE := ⟨false, 1, some (.nilp), .oth, none⟩
theorem te89_ok : TeOk Tryz.prog 89 te89 := .c
def te91 : TE := ⟨false, 1, some (.nilf), .oth, none⟩
theorem te91_ok : TeOk Tryz.prog 91 te91 := .c
def te92 : TE := ⟨true, 8, some (.agg [.int .i64 0, .int .i64 0, .int .i64 0, .int .i64 0, .int .i64 0, .int .i64 0, .int .i64 0, .int .i64 0]), .ar 8 false 1, some 8⟩
theorem te92_ok : TeOk Tryz.prog 92 te92 := .aq 3
def te93 : TE := ⟨true, 8, some (.agg [.int .i64 0, .int .i64 0, .int .i64 0, .int .i64 0, .int .i64 0, .int .i64 0, .int .i64 0, .int .i64 0]), .ar 8 false 1, some 8⟩
theorem te93_ok : TeOk Tryz.prog 93 te93 := .aq 3
def te94 : TE := ⟨true, 13, some (.agg [.sl true [], .int .i64 0, .int .i64 0, .sl true [], .sl true [], .int .i64 0, .int .i64 0, .int .i64 0, .int .i64 0, .int .i64 0, .int .i64 0, .int .i64 0, .int .i64 0]), .st [(0, true, 5), (5, true, 8)], none⟩
theorem te94_ok : TeOk Tryz.prog 94 te94 := .u
def te95 : TE := ⟨true, 13, some (.agg [.sl true [], .int .i64 0, .int .i64 0, .sl true [], .sl true [], .int .i64 0, .int .i64 0, .int .i64 0, .int .i64 0, .int .i64 0, .int .i64 0, .int .i64 0, .int .i64 0]), .st [(0, true, 5), (5, true, 8)], none⟩
theorem te95_ok : TeOk Tryz.prog 95 te95 := .u
def te96 : TE := ⟨false, 1, some (.nilf), .oth, none⟩
theorem te96_ok : TeOk Tryz.prog 96 te96 := .c
def te97 : TE := ⟨false, 1, some (.nilf), .oth, none⟩
theorem te97_ok : TeOk Tryz.prog 97 te97 := .c
def te98 : TE := ⟨true, 1, some (.agg [.nilf]), .st [(0, false, 1)], none⟩
theorem te98_ok : TeOk Tryz.prog 98 te98 := .u
def te99 : TE := ⟨true, 1, some (.agg [.nilf]), .st [(0, false, 1)], none⟩
theorem te99_ok : TeOk Tryz.prog 99 te99 := .u
def te100 : TE := ⟨false, 1, some (.nilf), .oth, none⟩
theorem te100_ok : TeOk Tryz.prog 100 te100 := .c
def te101 : TE := ⟨false, 1, some (.nilf), .oth, none⟩
theorem te101_ok : TeOk Tryz.prog 101 te101 := .c
def te102 : TE := ⟨false, 1, some (.nilf), .oth, none⟩
theorem te102_ok : TeOk Tryz.prog 102 te102 := .c
def te103 : TE := ⟨false, 1, some (.nilf), .oth, none⟩
theorem te103_ok : TeOk Tryz.prog 103 te103 := .c
def te104 : TE := ⟨false, 1, some (.nilf), .oth, none⟩
theorem te104_ok : TeOk Tryz.prog 104 te104 := .c
def te105 : TE := ⟨false, 1, some (.nilp), .oth, none⟩
theorem te105_ok : TeOk Tryz.prog 105 te105 := .c
def te107 : TE := ⟨false, 1, some (.nilf), .oth, none⟩
theorem te107_ok : TeOk Tryz.prog 107 te107 := .c
def te108 : TE := ⟨false, 1, some (.nilp), .oth, none⟩
theorem te108_ok : TeOk Tryz.prog 108 te108 := .c
def te109 : TE := ⟨false, 1, some (.nilf), .oth, none⟩
theorem te109_ok : TeOk Tryz.prog 109 te109 := .c
def te110 : TE := ⟨false, 1, some (.nilf), .oth, none⟩
theorem te110_ok : TeOk Tryz.prog 110 te110 := .c
def te111 : TE := ⟨true, 3, some (.agg [.int .i64 0, .int .i64 0, .int .i64 0]), .st [(0, false, 1), (1, false, 1), (2, false, 1)], some 3⟩
theorem te111_ok : TeOk Tryz.prog 111 te111 := .uq
def te112 : TE := ⟨true, 3, some (.agg [.int .i64 0, .int .i64 0, .int .i64 0]), .st [(0, false, 1), (1, false, 1), (2, false, 1)], some 3⟩
theorem te112_ok : TeOk Tryz.prog 112 te112 := .uq
def te113 : TE := ⟨false, 1, some (.nilf), .oth, none⟩
theorem te113_ok : TeOk Tryz.prog 113 te113 := .c
def te114 : TE := ⟨false, 1, some (.nilf), .oth, none⟩
theorem te114_ok : TeOk Tryz.prog 114 te114 := .c
def te115 : TE := ⟨false, 1, some (.nilp), .oth, none⟩
theorem te115_ok : TeOk Tryz.prog 115 te115 := .c
def te117 : TE := ⟨false, 1, some (.nilf), .oth, none⟩
theorem te117_ok : TeOk Tryz.prog 117 te117 := .c
def te118 : TE := ⟨false, 1, some (.nilf), .oth, none⟩
theorem te118_ok : TeOk Tryz.prog 118 te118 := .c
def te119 : TE := ⟨true, 64, some (.agg (List.replicate 64 (.int .i64 0))), .ar 8 true 8, some 64⟩
theorem te119_ok : TeOk Tryz.prog 119 te119 := .aq 92
def te120 : TE := ⟨true, 64, some (.agg (List.replicate 64 (.int .i64 0))), .ar 8 true 8, some 64⟩
theorem te120_ok : TeOk Tryz.prog 120 te120 := .aq 92
def te121 : TE := ⟨true, 68, some (.agg ([.int .i64 0, .sl true [], .int .i64 0, .sl true []] ++ List.replicate 64 (.int .i64 0))), .st [(0, true, 4), (4, true, 64)], none⟩
theorem te121_ok : TeOk Tryz.prog 121 te121 := .u
def te122 : TE := ⟨true, 68, some (.agg ([.int .i64 0, .sl true [], .int .i64 0, .sl true []] ++ List.replicate 64 (.int .i64 0))), .st [(0, true, 4), (4, true, 64)], none⟩
theorem te122_ok : TeOk Tryz.prog 122 te122 := .u
def te123 : TE := ⟨false, 1, some (.nilf), .oth, none⟩
theorem te123_ok : TeOk Tryz.prog 123 te123 := .c
def te124 : TE := ⟨false, 1, some (.nilf), .oth, none⟩
theorem te124_ok : TeOk Tryz.prog 124 te124 := .c
def te125 : TE := ⟨false, 1, some (.nilf), .oth, none⟩
theorem te125_ok : TeOk Tryz.prog 125 te125 := .c
def te126 : TE := ⟨false, 1, some (.nilf), .oth, none⟩
theorem te126_ok : TeOk Tryz.prog 126 te126 := .c
def te127 : TE := ⟨false, 1, some (.nilf), .oth, none⟩
theorem te127_ok : TeOk Tryz.prog 127 te127 := .c
def te128 : TE := ⟨false, 1, some (.nilf), .oth, none⟩
theorem te128_ok : TeOk Tryz.prog 128 te128 := .c
def te129 : TE := ⟨false, 1, some (.nilf), .oth, none⟩
theorem te129_ok : TeOk Tryz.prog 129 te129 := .c
def te130 : TE := ⟨false, 1, some (.nilf), .oth, none⟩
theorem te130_ok : TeOk Tryz.prog 130 te130 := .c
def te131 : TE := ⟨false, 1, some (.nilf), .oth, none⟩
theorem te131_ok : TeOk Tryz.prog 131 te131 := .c
def te132 : TE := ⟨false, 1, some (.nilf), .oth, none⟩
theorem te132_ok : TeOk Tryz.prog 132 te132 := .c
def te133 : TE := ⟨false, 1, some (.nilf), .oth, none⟩
theorem te133_ok : TeOk Tryz.prog 133 te133 := .c
def te134 : TE := ⟨false, 1, some (.nilf), .oth, none⟩
theorem te134_ok : TeOk Tryz.prog 134 te134 := .c
def te135 : TE := ⟨false, 1, some (.nilm), .mp (.sl true []), none⟩
theorem te135_ok : TeOk Tryz.prog 135 te135 := .m
def te136 : TE := ⟨true, 61, some (.agg (List.replicate 61 (.int .i64 0))), .ar 61 false 1, some 61⟩
theorem te136_ok : TeOk Tryz.prog 136 te136 := .aq 3
def te137 : TE := ⟨true, 305, some (.agg (List.replicate 305 (.int .i64 0))), .ar 5 true 61, some 305⟩
theorem te137_ok : TeOk Tryz.prog 137 te137 := .aq 136
def te138 : TE := ⟨true, 305, some (.agg (List.replicate 305 (.int .i64 0))), .ar 5 true 61, some 305⟩
theorem te138_ok : TeOk Tryz.prog 138 te138 := .aq 136
def te139 : TE := ⟨true, 313, some (.agg ([.int .i64 0, .int .i64 0, .int .i64 0, .int .i64 0, .sl true [], .sl true [], .sl true []] ++ List.replicate 305 (.int .i64 0) ++ [.nilm])), .st [(0, true, 7), (7, true, 305), (312, false, 1)], none⟩
theorem te139_ok : TeOk Tryz.prog 139 te139 := .u
def te140 : TE := ⟨true, 313, some (.agg ([.int .i64 0, .int .i64 0, .int .i64 0, .int .i64 0, .sl true [], .sl true [], .sl true []] ++ List.replicate 305 (.int .i64 0) ++ [.nilm])), .st [(0, true, 7), (7, true, 305), (312, false, 1)], none⟩
theorem te140_ok : TeOk Tryz.prog 140 te140 := .u
def te141 : TE := ⟨false, 1, some (.sl true []), .sl 143 2 16 (.agg [.int .i64 0, .int .i64 0]), none⟩
theorem te141_ok : TeOk Tryz.prog 141 te141 := .s 143
def te142 : TE := ⟨true, 2, some (.agg [.int .i64 0, .int .i64 0]), .st [(0, false, 1), (1, false, 1)], some 2⟩
theorem te142_ok : TeOk Tryz.prog 142 te142 := .uq
def te143 : TE := ⟨true, 2, some (.agg [.int .i64 0, .int .i64 0]), .st [(0, false, 1), (1, false, 1)], some 2⟩
theorem te143_ok : TeOk Tryz.prog 143 te143 := .uq
def te144 : TE := ⟨true, 16, some (.agg [.int .i64 0, .int .i64 0, .int .i64 0, .int .i64 0, .int .i64 0, .int .i64 0, .int .i64 0, .int .i64 0, .int .i64 0, .int .i64 0, .int .i64 0, .int .i64 0, .int .i64 0, .int .i64 0, .int .i64 0, .int .i64 0]), .ar 16 false 1, some 16⟩
theorem te144_ok : TeOk Tryz.prog 144 te144 := .aq 3
def te145 : TE := ⟨true, 976, some (.agg (rep 976 (.int .i64 0))), .ar 61 true 16, some 976⟩
theorem te145_ok : TeOk Tryz.prog 145 te145 := .aq 144
def te146 : TE := ⟨true, 4880, some (.agg (rep 4880 (.int .i64 0))), .ar 5 true 976, none⟩
theorem te146_ok : TeOk Tryz.prog 146 te146 := .a 145
def te147 : TE := ⟨true, 4880, some (.agg (rep 4880 (.int .i64 0))), .ar 5 true 976, none⟩
theorem te147_ok : TeOk Tryz.prog 147 te147 := .a 145
def te148 : TE := ⟨true, 16, some (.agg [.bool false, .bool false, .bool false, .bool false, .bool false, .bool false, .bool false, .bool false, .bool false, .bool false, .bool false, .bool false, .bool false, .bool false, .bool false, .bool false]), .ar 16 false 1, some 1048592⟩
theorem te148_ok : TeOk Tryz.prog 148 te148 := .aq 4
def te149 : TE := ⟨true, 976, some (.agg (rep 976 (.bool false))), .ar 61 true 16, none⟩
theorem te149_ok : TeOk Tryz.prog 149 te149 := .a 148
def te150 : TE := ⟨true, 4880, some (.agg (rep 4880 (.bool false))), .ar 5 true 976, none⟩
theorem te150_ok : TeOk Tryz.prog 150 te150 := .a 149
def te151 : TE := ⟨false, 1, some (.nilf), .oth, none⟩
theorem te151_ok : TeOk Tryz.prog 151 te151 := .c
def te152 : TE := ⟨false, 1, some (.nilf), .oth, none⟩
theorem te152_ok : TeOk Tryz.prog 152 te152 := .c
def te153 : TE := ⟨false, 1, some (.nilm), .mp2 (.int .i64 0), none⟩
theorem te153_ok : TeOk Tryz.prog 153 te153 := .m2
def te154 : TE := ⟨false, 1, some (.nilf), .oth, none⟩
theorem te154_ok : TeOk Tryz.prog 154 te154 := .c
def te155 : TE := ⟨false, 1, some (.nilf), .oth, none⟩
theorem te155_ok : TeOk Tryz.prog 155 te155 := .c
def te156 : TE := ⟨false, 1, some (.nilf), .oth, none⟩
theorem te156_ok : TeOk Tryz.prog 156 te156 := .c
def te157 : TE := ⟨true, 1, some (.agg [.nilf]), .st [(0, false, 1)], none⟩
theorem te157_ok : TeOk Tryz.prog 157 te157 := .u
def te158 : TE := ⟨true, 1, some (.agg [.nilf]), .st [(0, false, 1)], none⟩
theorem te158_ok : TeOk Tryz.prog 158 te158 := .u
def te159 : TE := ⟨false, 1, some (.nilf), .oth, none⟩
theorem te159_ok : TeOk Tryz.prog 159 te159 := .c
def te160 : TE := ⟨true, 2, some (.agg [.int .i64 0, .int .i64 0]), .st [(0, false, 1), (1, false, 1)], some 2⟩
theorem te160_ok : TeOk Tryz.prog 160 te160 := .uq
def te161 : TE := ⟨true, 2, some (.agg [.int .i64 0, .int .i64 0]), .st [(0, false, 1), (1, false, 1)], some 2⟩
theorem te161_ok : TeOk Tryz.prog 161 te161 := .uq
def te162 : TE := ⟨false, 1, some (.nilf), .oth, none⟩
theorem te162_ok : TeOk Tryz.prog 162 te162 := .c
def te163 : TE := ⟨false, 1, some (.nilf), .oth, none⟩
theorem te163_ok : TeOk Tryz.prog 163 te163 := .c
def te164 : TE := ⟨true, 2, some (.agg [.int .i64 0, .sl true []]), .st [(0, false, 1), (1, false, 1)], none⟩
theorem te164_ok : TeOk Tryz.prog 164 te164 := .u
def te165 : TE := ⟨true, 2, some (.agg [.int .i64 0, .sl true []]), .st [(0, false, 1), (1, false, 1)], none⟩
theorem te165_ok : TeOk Tryz.prog 165 te165 := .u
def te166 : TE := ⟨false, 1, some (.nilf), .oth, none⟩
theorem te166_ok : TeOk Tryz.prog 166 te166 := .c
def te167 : TE := ⟨false, 1, some (.nilf), .oth, none⟩
theorem te167_ok : TeOk Tryz.prog 167 te167 := .c
def te168 : TE := ⟨false, 1, some (.nilf), .oth, none⟩
theorem te168_ok : TeOk Tryz.prog 168 te168 := .c
def te169 : TE := ⟨false, 1, some (.nilf), .oth, none⟩
theorem te169_ok : TeOk Tryz.prog 169 te169 := .c
def te170 : TE := ⟨false, 1, some (.int .u64 0), .int .u64, none⟩
theorem te170_ok : TeOk Tryz.prog 170 te170 := .i
def te171 : TE := ⟨false, 1, some (.nilf), .oth, none⟩
theorem te171_ok : TeOk Tryz.prog 171 te171 := .c
def te172 : TE := ⟨false, 1, some (.nilf), .oth, none⟩
theorem te172_ok : TeOk Tryz.prog 172 te172 := .c
def te173 : TE := ⟨false, 1, some (.nilf), .oth, none⟩
theorem te173_ok : TeOk Tryz.prog 173 te173 := .c
def te174 : TE := ⟨false, 1, some (.nilf), .oth, none⟩
theorem te174_ok : TeOk Tryz.prog 174 te174 := .c
def te175 : TE := ⟨false, 1, some (.nilf), .oth, none⟩
theorem te175_ok : TeOk Tryz.prog 175 te175 := .c
def te176 : TE := ⟨false, 1, some (.nilf), .oth, none⟩
theorem te176_ok : TeOk Tryz.prog 176 te176 := .c
def te177 : TE := ⟨false, 1, some (.nilf), .oth, none⟩
theorem te177_ok : TeOk Tryz.prog 177 te177 := .c
def te178 : TE := ⟨false, 1, some (.nilf), .oth, none⟩
theorem te178_ok : TeOk Tryz.prog 178 te178 := .c
def te179 : TE := ⟨false, 1, some (.nilf), .oth, none⟩
theorem te179_ok : TeOk Tryz.prog 179 te179 := .c
def te180 : TE := ⟨false, 1, some (.nilf), .oth, none⟩
theorem te180_ok : TeOk Tryz.prog 180 te180 := .c
def te181 : TE := ⟨false, 1, some (.nilf), .oth, none⟩
theorem te181_ok : TeOk Tryz.prog 181 te181 := .c
def te182 : TE := ⟨false, 1, some (.nilf), .oth, none⟩
theorem te182_ok : TeOk Tryz.prog 182 te182 := .c
def te183 : TE := ⟨false, 1, some (.sl true []), .sl 112 3 24 (.agg [.int .i64 0, .int .i64 0, .int .i64 0]), none⟩
theorem te183_ok : TeOk Tryz.prog 183 te183 := .s 112
def te184 : TE := ⟨false, 1, some (.nilf), .oth, none⟩
theorem te184_ok : TeOk Tryz.prog 184 te184 := .c
def te185 : TE := ⟨false, 1, some (.nilf), .oth, none⟩
theorem te185_ok : TeOk Tryz.prog 185 te185 := .c
def te186 : TE := ⟨false, 1, some (.nilf), .oth, none⟩
theorem te186_ok : TeOk Tryz.prog 186 te186 := .c
def te187 : TE := ⟨false, 1, some (.nilf), .oth, none⟩
theorem te187_ok : TeOk Tryz.prog 187 te187 := .c
def te188 : TE := ⟨false, 1, some (.nilf), .oth, none⟩
theorem te188_ok : TeOk Tryz.prog 188 te188 := .c
def te189 : TE := ⟨false, 1, some (.nilf), .oth, none⟩
theorem te189_ok : TeOk Tryz.prog 189 te189 := .c
def te190 : TE := ⟨false, 1, some (.nilf), .oth, none⟩
theorem te190_ok : TeOk Tryz.prog 190 te190 := .c
def te191 : TE := ⟨false, 1, some (.nilf), .oth, none⟩
theorem te191_ok : TeOk Tryz.prog 191 te191 := .c
def te192 : TE := ⟨false, 1, some (.nilf), .oth, none⟩
theorem te192_ok : TeOk Tryz.prog 192 te192 := .c
def te193 : TE := ⟨false, 1, some (.nilf), .oth, none⟩
theorem te193_ok : TeOk Tryz.prog 193 te193 := .c
def te194 : TE := ⟨false, 1, some (.nilf), .oth, none⟩
theorem te194_ok : TeOk Tryz.prog 194 te194 := .c
def te195 : TE := ⟨false, 1, some (.nilf), .oth, none⟩
theorem te195_ok : TeOk Tryz.prog 195 te195 := .c
def te196 : TE := ⟨false, 1, some (.nilf), .oth, none⟩
theorem te196_ok : TeOk Tryz.prog 196 te196 := .c
def te197 : TE := ⟨false, 1, some (.nilf), .oth, none⟩
theorem te197_ok : TeOk Tryz.prog 197 te197 := .c
def te198 : TE := ⟨false, 1, some (.nilf), .oth, none⟩
theorem te198_ok : TeOk Tryz.prog 198 te198 := .c
def te201 : TE := ⟨true, 0, some (.agg []), .ar 0 false 1, none⟩
theorem te201_ok : TeOk Tryz.prog 201 te201 := .a 16
def te202 : TE := ⟨true, 0, some (.agg []), .st [(0, true, 0)], none⟩
theorem te202_ok : TeOk Tryz.prog 202 te202 := .u
def te206 : TE := ⟨false, 1, some (.nilf), .oth, none⟩
theorem te206_ok : TeOk Tryz.prog 206 te206 := .c
def te207 : TE := ⟨false, 1, some (.nilp), .oth, none⟩
theorem te207_ok : TeOk Tryz.prog 207 te207 := .c
def te210 : TE := ⟨true, 11, some (.agg [.int .u64 0, .int .u64 0, .int .u32 0, .int .u8 0, .int .u8 0, .int .u8 0, .int .u8 0, .nilf, .nilp, .int .i32 0, .int .i32 0]), .st [(0, false, 1), (1, false, 1), (2, false, 1), (3, false, 1), (4, false, 1), (5, false, 1), (6, false, 1), (7, false, 1), (8, false, 1), (9, false, 1), (10, false, 1)], none⟩
theorem te210_ok : TeOk Tryz.prog 210 te210 := .u
def tab : Tab := [none, some te1, some te2, some te3, some te4, some te5, none, some te7, none, none, none, none, some te12, none, none, none, none, none, some te18, none, none, some te21, some te22, some te23, some te24, some te25, some te26, some te27, some te28, some te29, some te30, some te31, some te32, some te33, some te34, some te35, some te36, some te37, some te38, some te39, some te40, some te41, some te42, some te43, some te44, some te45, some te46, some te47, none, some te49, some te50, some te51, none, some te53, none, some te55, some te56, some te57, some te58, some te59, some te60, some te61, some te62, some te63, some te64, some te65, none, some te67, none, some te69, some te70, none, some te72, some te73, some te74, some te75, some te76, some te77, some te78, some te79, some te80, some te81, some te82, some te83, some te84, some te85, some te86, some te87, some te88, some te89, none, some te91, some te92, some te93, some te94, some te95, some te96, some te97, some te98, some te99, some te100, some te101, some te102, some te103, some te104, some te105, none, some te107, some te108, some te109, some te110, some te111, some te112, some te113, some te114, some te115, none, some te117, some te118, some te119, some te120, some te121, some te122, some te123, some te124, some te125, some te126, some te127, some te128, some te129, some te130, some te131, some te132, some te133, some te134, some te135, some te136, some te137, some te138, some te139, some te140, some te141, some te142, some te143, some te144, some te145, some te146, some te147, some te148, some te149, some te150, some te151, some te152, some te153, some te154, some te155, some te156, some te157, some te158, some te159, some te160, some te161, some te162, some te163, some te164, some te165, some te166, some te167, some te168, some te169, some te170, some te171, some te172, some te173, some te174, some te175, some te176, some te177, some te178, some te179, some te180, some te181, some te182, some te183, some te184, some te185, some te186, some te187, some te188, some te189, some te190, some te191, some te192, some te193, some te194, some te195, some te196, some te197, some te198, none, none, some te201, some te202, none, none, none, some te206, some te207, none, none, some te210]
theorem tab_ok : TabOk Tryz.prog tab := ⟨te1_ok, te2_ok, te3_ok, te4_ok, te5_ok, te7_ok, te12_ok, te18_ok, te21_ok, te22_ok, te23_ok, te24_ok, te25_ok, te26_ok, te27_ok, te28_ok, te29_ok, te30_ok, te31_ok, te32_ok, te33_ok, te34_ok, te35_ok, te36_ok, te37_ok, te38_ok, te39_ok, te40_ok, te41_ok, te42_ok, te43_ok, te44_ok, te45_ok, te46_ok, te47_ok, te49_ok, te50_ok, te51_ok, te53_ok, te55_ok, te56_ok, te57_ok, te58_ok, te59_ok, te60_ok, te61_ok, te62_ok, te63_ok, te64_ok, te65_ok, te67_ok, te69_ok, te70_ok, te72_ok, te73_ok, te74_ok, te75_ok, te76_ok, te77_ok, te78_ok, te79_ok, te80_ok, te81_ok, te82_ok, te83_ok, te84_ok, te85_ok, te86_ok, te87_ok, te88_ok, te89_ok, te91_ok, te92_ok, te93_ok, te94_ok, te95_ok, te96_ok, te97_ok, te98_ok, te99_ok, te100_ok, te101_ok, te102_ok, te103_ok, te104_ok, te105_ok, te107_ok, te108_ok, te109_ok, te110_ok, te111_ok, te112_ok, te113_ok, te114_ok, te115_ok, te117_ok, te118_ok, te119_ok, te120_ok, te121_ok, te122_ok, te123_ok, te124_ok, te125_ok, te126_ok, te127_ok, te128_ok, te129_ok, te130_ok, te131_ok, te132_ok, te133_ok, te134_ok, te135_ok, te136_ok, te137_ok, te138_ok, te139_ok, te140_ok, te141_ok, te142_ok, te143_ok, te144_ok, te145_ok, te146_ok, te147_ok, te148_ok, te149_ok, te150_ok, te151_ok, te152_ok, te153_ok, te154_ok, te155_ok, te156_ok, te157_ok, te158_ok, te159_ok, te160_ok, te161_ok, te162_ok, te163_ok, te164_ok, te165_ok, te166_ok, te167_ok, te168_ok, te169_ok, te170_ok, te171_ok, te172_ok, te173_ok, te174_ok, te175_ok, te176_ok, te177_ok, te178_ok, te179_ok, te180_ok, te181_ok, te182_ok, te183_ok, te184_ok, te185_ok, te186_ok, te187_ok, te188_ok, te189_ok, te190_ok, te191_ok, te192_ok, te193_ok, te194_ok, te195_ok, te196_ok, te197_ok, te198_ok, te201_ok, te202_ok, te206_ok, te207_ok, te210_ok, trivial⟩
end GA
end

section
namespace GA
open Go Go.RowKit
set_option linter.unusedVariables false

def xPend (P : Program) (T : Tab) (N : Nat) (own : List Nat) (Q : Post) (D : List Nat) (σ : St) (H : List Blk) (pend : Option Code) : Prop :=
  match pend with
  | none => Q .normal D σ H
  | some c => XRun P T N none own c Q D σ H
def xRangeEnd (P : Program) (T : Tab) (N : Nat) (own : List Nat) (Q : Post) (D : List Nat) (σ : St) (i : Nat) (H : List Blk) : Prop :=
  match lget H i with
  | some (.lp st pend _ _ _ _ _ _) => match st with
    | .busy => False
    | _ => hset H i .dead fun H' => xPend P T N own Q D σ H' pend
  | _ => False

def xPuts : List Nat → List AV → St → Option St
  | [], [], σ => some σ
  | t :: ts, r :: rs, σ => xPuts ts rs (updX σ t r)
  | _, _, _ => none

def xRound (i : Nat) (K : AV → List Blk → Prop) : Post := fun e _ _ H =>
  match lget H i with
  | some (.lp _ _ f tm ps x y n) => match e with
    | .normal => hset H i (.lp .ready none f tm ps x y n) fun H' => K (.bool true) H'
    | .ret => hset H i (.lp .done (some .ret) f tm ps x y n) fun H' => K (.bool false) H'
    | .exit id => hset H i (.lp .done (some (.exit id)) f tm ps x y n) fun H' => K (.bool false) H'
    | _ => False
  | _ => False
def xBegin (P : Program) (T : Tab) (own : List Nat) (i : Nat) (K : AV → List Blk → Prop) (ρ : Option Nat) : Post := fun e D σ H =>
  match e, lget H i with
  | .normal, some (.lp .ready pend f tm ps x y n) => hset H i (.lp .busy pend f tm ps x y n) fun H' => XRun P T n ρ own y (xRound i K) D σ H'
  | _, _ => False

section
variable {P : Program} {T : Tab} {N : Nat} {ρ : Option Nat} {own : List Nat} {E : Env} {h : Nat → Option Obj} {β : Nat → Value} {H : List Blk} {w : World} {σ : St} {a : Act} {D : List Nat}

theorem xPuts_fits : ∀ {ts : List Nat} {rs : List AV} {vs : List Value} {σ σ' : St} {tmps : Array Value}, xPuts ts rs σ = some σ' → RepL P h β H rs vs → (∀ t ∈ ts, t < tmps.size) →
    (∀ t r, σ t = some r → ∃ v, tmps[t]? = some v ∧ Rep P h β H r v) → vs.length = ts.length ∧
    ∀ t r, σ' t = some r → ∃ v, ((ts.zip vs).foldl (fun (tmps : Array Value) (x : Nat × Value) => tmps.setIfInBounds x.1 x.2) tmps)[t]? = some v ∧ Rep P h β H r v
  | [], [], vs, σ, σ', tmps, e, hr, _, F => by
    cases e
    have : vs = [] := List.eq_nil_of_length_eq_zero hr.1
    subst this; exact ⟨rfl, F⟩
  | t :: ts, r :: rs, vs, σ, σ', tmps, e, hr, hb, F => by
    cases vs with
    | nil => have := hr.1; simp at this
    | cons v vs =>
      obtain ⟨v', e1, e2⟩ := hr.2 0 r rfl
      simp at e1; subst e1
      have hr' : RepL P h β H rs vs := ⟨by have := hr.1; simpa using this, fun j x ex => by have := hr.2 (j + 1) x (by simpa using ex); simpa using this⟩
      have F' : ∀ u x, updX σ t r u = some x → ∃ y, (tmps.setIfInBounds t v)[u]? = some y ∧ Rep P h β H x y := by
        intro u x ex
        rw [updX_eq] at ex; unfold upd at ex
        by_cases hu : u = t
        · subst hu; simp at ex; subst ex
          exact ⟨v, by simp [hb u (by simp)], e2⟩
        · simp [hu] at ex
          obtain ⟨y, g1, g2⟩ := F u x ex
          exact ⟨y, by rw [Array.getElem?_setIfInBounds_ne (Ne.symm hu)]; exact g1, g2⟩
      obtain ⟨g1, g2⟩ := xPuts_fits (tmps := tmps.setIfInBounds t v) (show xPuts ts rs (updX σ t r) = some σ' from e) hr' (fun u hu => by simpa using hb u (by simp [hu])) F'
      exact ⟨by simp [g1], by simpa using g2⟩
  | [], _ :: _, _, _, _, _, e, _, _, _ => by cases e
  | _ :: _, [], _, _, _, _, e, _, _, _ => by cases e

theorem Walk.range {g : Operand} {ps : Array Tmp} {assign body : Code} {Q : Post} {f : FuncId} {caps : List AV} (ok : TabOk P T) (tm : List (Nat × AV)) (hg : ev σ g = some (.fn f caps)) (ht : SubX tm σ)
    (x : ∀ fn, XCall P f (.yld (H.length + 1) :: caps) (H ++ [.raw (.deferred (some []))] ++ [.lp .ready none fn tm ps assign body N]) fun _ H' => xRangeEnd P T N own Q (H.length :: D) σ (H.length + 1) H') :
    Walk P N none (.rangeFunc g ps assign body) Q D σ H := by
  constructor
  intro E h β a w s
  refine wpIn_rangeFunc fun fn _ => ?_
  have hf := s.fits.ev hg
  generalize hv : a.eval g = fval at hf
  cases hf with
  | @fn _ _ vs us hs hc hr =>
    obtain ⟨hent, hcall⟩ := (x fn).o
    let w1 := (w.alloc (.deferred (some []))).alloc (.loop { state := .ready, pending := none, fn, tmps := a.tmps, params := ps, assign, body, defers := w.heap.size })
    -- the blocks
    obtain ⟨s1, X1⟩ := s.sr.push (w' := w.alloc (.deferred (some []))) s.sr.env (fun k hk => Below.heap_alloc _ _ _ hk) (.pointer (some ⟨w.heap.size, 0, none⟩)) (.raw (.deferred (some []))) (by intro b hb; simp [anchor] at hb; omega)
      (fun X => ⟨w.heap.size, by simp [upb], heap_alloc_new w _⟩)
    have hsz : (w.alloc (.deferred (some []))).heap.size = w.heap.size + 1 := World.size_alloc _ _
    obtain ⟨s2, X2⟩ := s1.push (w' := w1) s.sr.env (fun k hk => Below.heap_alloc _ _ _ hk) (.pointer (some ⟨w.heap.size + 1, 0, none⟩)) (.lp .ready none fn tm ps assign body N) (by intro b hb; simp [anchor] at hb; omega)
      (fun X => ⟨w.heap.size + 1, w.heap.size, a.tmps, by simp [upb], by rw [← hsz]; exact heap_alloc_new _ _, s.size, fun t r e => by
        have : σ t = some r := by
          have : ∀ (l : List (Nat × AV)), SubX l σ → (t, r) ∈ l → σ t = some r := by
            intro l; induction l with
            | nil => intro _ h; cases h
            | cons p l ih => intro h1 h2; rcases List.mem_cons.1 h2 with h2 | h2
                             · subst h2; exact h1.1
                             · exact ih h1.2 h2
          exact this tm ht e
        obtain ⟨v, e1, e2⟩ := s.fits t r this
        exact ⟨v, e1, X.rep (X1.rep e2)⟩⟩)
    have hl2 : (H ++ [Blk.raw (.deferred (some []))]).length = H.length + 1 := by simp
    rw [hl2] at s2 X2
    have X := X1.trans X2
    have hlp : (H ++ [Blk.raw (.deferred (some []))] ++ [Blk.lp .ready none fn tm ps assign body N])[H.length + 1]? = some (.lp .ready none fn tm ps assign body N) := by
      rw [List.getElem?_append_right (by simp)]; simp
    have hraw : (H ++ [Blk.raw (.deferred (some []))] ++ [Blk.lp .ready none fn tm ps assign body N])[H.length]? = some (.raw (.deferred (some []))) := by
      rw [List.getElem?_append_left (by simp), List.getElem?_append_right (by simp)]; simp
    have hy : Rep P h (upb (upb β H.length (.pointer (some ⟨w.heap.size, 0, none⟩))) (H.length + 1) (.pointer (some ⟨w.heap.size + 1, 0, none⟩))) (H ++ [.raw (.deferred (some []))] ++ [.lp .ready none fn tm ps assign body N]) (.yld (H.length + 1)) (.func (.yield (w.heap.size + 1)) #[] #[]) :=
      .yld (.of hlp rfl) fun y _ _ => by simp [upb]
    have hmk : Rep P h (upb (upb β H.length (.pointer (some ⟨w.heap.size, 0, none⟩))) (H.length + 1) (.pointer (some ⟨w.heap.size + 1, 0, none⟩))) (H ++ [.raw (.deferred (some []))] ++ [.lp .ready none fn tm ps assign body N]) (.yld H.length) (.func (.yield w.heap.size) #[] #[]) :=
      .yld (.of hraw rfl) fun y _ _ => by simp [upb]
    have hargs : RepL P h (upb (upb β H.length (.pointer (some ⟨w.heap.size, 0, none⟩))) (H.length + 1) (.pointer (some ⟨w.heap.size + 1, 0, none⟩))) (H ++ [.raw (.deferred (some []))] ++ [.lp .ready none fn tm ps assign body N]) (.yld (H.length + 1) :: caps) (.func (.yield (w.heap.size + 1)) #[] #[] :: vs.toList) :=
      .cons hy ⟨by simpa using hs, fun j y e => ⟨us j, by simpa using hc j y e, X.rep (hr j y e)⟩⟩
    have hres : (resolve a.eval (rangeCall g (w.heap.size + 1)) 0).run P w1 = .ok { target := .fn (.func f) vs, args := #[.func (.yield (w.heap.size + 1)) #[] #[]] } w1 := by
      have hcst : ∀ v, a.eval (.const v) = v := fun _ => rfl
      simp [resolve, hv, Deferred.ofValue, hcst]
    have hinv : (invoke (.fn (.func f) vs) #[.func (.yield (w.heap.size + 1)) #[] #[]]).run P w1 = .ok (.enter f (.func (.yield (w.heap.size + 1)) #[] #[] :: vs.toList).toArray) w1 := by
      have : (#[Value.func (.yield (w.heap.size + 1)) #[] #[]] ++ vs) = (.func (.yield (w.heap.size + 1)) #[] #[] :: vs.toList).toArray := by apply Array.ext'; simp
      simp only [invoke, run_callFunc hent, this]
    refine ⟨w.heap.size + 1, _, w1, _, w1, f, _, w1, run_enterLoop_outer fn a.tmps ps assign body, hres, fun _ _ => trivial, hinv, fun h => by simp at h, ?_⟩
    have hc2 := hcall E h _ w1 _ s2 hargs
    refine (show CallsIn (FW none) (0 - 1) P f _ w1 _ from hc2.mono ?_)
    rintro e w' ⟨r, H', h', β', v, rfl, hk, X', s', _⟩
    -- the end
    unfold xRangeEnd at hk
    split at hk
    case h_2 => exact hk.elim
    rename_i st pend f' tm' ps' as' bo' n' hl
    rw [lget_eq] at hl
    have hto := X'.to _ _ _ hlp hl
    rcases hto with hd | ⟨st2, pend2, he, hβ⟩
    · cases hd
    · cases he
      have hβ1 : β' (H.length + 1) = .pointer (some ⟨w.heap.size + 1, 0, none⟩) := by rw [hβ]; simp [upb]
      obtain ⟨b, dfr, tmps, h1, h2, h3, h4⟩ := s'.blk _ _ hl
      rw [hβ1] at h1; cases h1
      have hnb : st ≠ .busy := by rintro rfl; exact hk
      have hk2 : hset H' (H.length + 1) .dead fun H' => xPend P T N own Q (H.length :: D) σ H' pend := by
        cases st with
        | busy => exact hk.elim
        | ready => exact hk
        | done => exact hk
        | exhausted => exact hk
      obtain ⟨hlt, hk3⟩ := hset_spec hk2
      have hbo : blkOf β' H' (H.length + 1) = some (w.heap.size + 1) := by simp only [blkOf, hl, hβ1]; rfl
      obtain ⟨s3, X3⟩ := s'.modify (β' := β') (w' := w'.putObj (w.heap.size + 1) (.loop { state := .exhausted, pending := pend, fn := fn, tmps := tmps, params := ps, assign := assign, body := body, defers := dfr })) (x' := .dead) hl (fun _ _ => rfl) (.inl rfl) s'.env
        (fun q _ hn => World.putObj_heap_other (fun e => hn (by rw [hbo, e]))) (fun b e => .inl (by rw [hbo]; rw [hβ1] at e; exact e)) (fun _ => trivial)
      have Xall := X.trans (X'.trans X3)
      have hst : Stands P E N h' β' (H.length :: D) σ (H'.set (H.length + 1) .dead) { a with defers := [{ target := .collected w.heap.size, args := #[] }] ++ a.defers } (w'.putObj (w.heap.size + 1) (.loop { state := .exhausted, pending := pend, fn := fn, tmps := tmps, params := ps, assign := assign, body := body, defers := dfr })) := by
        exact ⟨s3, s.fits.ext Xall, s.size, ⟨(s.df.ext Xall).en, .own ((X'.trans X3).rep hmk) (s.df.ext Xall).l⟩⟩
      refine ⟨pend, _, run_endLoop h2 hnb, ?_⟩
      cases pend with
      | none => exact ⟨_, _, _, _, _, hk3, Xall, hst⟩
      | some c => exact wpIn_mono (XRun.sound ok hk3 E h' β' _ _ hst) fun _ _ _ => Conc.ext Xall

theorem XYield.go {i : Nat} {rs : List AV} {K : AV → List Blk → Prop} {pend : Option Code} {f : FuncId} {tm : List (Nat × AV)} {ps : Array Tmp} {assign body : Code} {σ0 : St} (ok : TabOk P T) (hl : lget H i = some (.lp .ready pend f tm ps assign body N)) (hp : xPuts ps.toList rs (stX tm) = some σ0)
    (hb : ∀ t ∈ ps.toList, t < N) (x : ∀ ρ, XRun P T N ρ own assign (xBegin P T own i K ρ) [] σ0 H) : XYield P i rs H K := by
  rw [lget_eq] at hl
  refine ⟨(List.getElem?_eq_some_iff.1 hl).1, fun E h β w b vs s hr hβ => ?_⟩
  have hβ := hβ _ hl rfl
  obtain ⟨b', dfr, tmps, h1, h2, h3, h4⟩ := s.blk _ _ hl
  rw [hβ] at h1; cases h1
  obtain ⟨hlen, F⟩ := xPuts_fits (tmps := tmps) hp hr (fun t ht => by rw [h3]; exact hb t ht) (fun t r e => by
    have : ∀ (l : List (Nat × AV)), stX l t = some r → (t, r) ∈ l := by
      intro l; induction l with
      | nil => intro h; cases h
      | cons p l ih =>
        obtain ⟨u, x⟩ := p
        intro h; simp only [stX, updX_eq, upd] at h
        split at h
        · rename_i e; cases h; subst e; exact List.mem_cons_self
        · exact List.mem_cons_of_mem _ (ih h)
    exact h4 t r (this tm e))
  have hzip : ((ps.zip vs.toArray).foldl (fun (tmps : Array Value) (x : Nat × Value) => tmps.setIfInBounds x.1 x.2) tmps) = ((ps.toList.zip vs).foldl (fun (tmps : Array Value) (x : Nat × Value) => tmps.setIfInBounds x.1 x.2) tmps) := by
    rw [← Array.foldl_toList]; simp
  refine ⟨f, _, assign, body, run_yield h2 (by simp [hlen]), ?_⟩
  refine roundIn_of_wpIn trivial ?_
  have hF : (FW none).inRound b = FW (some b) := rfl
  rw [hF]
  have hsz : ∀ (l : List (Nat × Value)) (tmps : Array Value), (l.foldl (fun (tmps : Array Value) (x : Nat × Value) => tmps.setIfInBounds x.1 x.2) tmps).size = tmps.size := by
    intro l; induction l with
    | nil => intro _; rfl
    | cons p l ih => intro tmps; simp [ih]
  have st0 : Stands P ⟨E.b, E.fr, h⟩ N h β [] σ0 H { tmps := (ps.zip vs.toArray).foldl (fun (tmps : Array Value) (x : Nat × Value) => tmps.setIfInBounds x.1 x.2) tmps, defers := [] } w :=
    ⟨s.en h, fun t r e => by rw [hzip]; exact F t r e, by rw [hzip]; exact (hsz _ _).trans h3, ⟨fun _ _ e => e, .nil⟩⟩
  refine wpIn_mono (XRun.sound ok (x (some b)) ⟨E.b, E.fr, h⟩ h β _ w st0) ?_
  rintro e a1 w1 ⟨D1, σ1, H1, h1', β1, q, X1, s1⟩
  have hq : e = .normal ∧ ∃ pend' f' tm' ps' x' y' n', lget H1 i = some (.lp .ready pend' f' tm' ps' x' y' n') ∧ hset H1 i (.lp .busy pend' f' tm' ps' x' y' n') fun H' => XRun P T n' (some b) own y' (xRound i K) D1 σ1 H' := by
    unfold xBegin at q; split at q
    · rename_i hh; exact ⟨rfl, _, _, _, _, _, _, _, hh, q⟩
    · exact q.elim
  obtain ⟨rfl, pend', f', tm', ps', x', y', n', g1, g2⟩ := hq
  rw [lget_eq] at g1
  have hβ1 : β1 i = β i ∧ body = y' ∧ N = n' := by
    rcases X1.to _ _ _ hl g1 with hd | ⟨_, _, he, hb1⟩
    · cases hd
    · cases he; exact ⟨hb1, rfl, rfl⟩
  obtain ⟨hβ1, rfl, rfl⟩ := hβ1
  rw [hβ] at hβ1
  obtain ⟨b', dfr', tmps', k1, k2, k3, k4⟩ := s1.sr.blk _ _ g1
  rw [hβ1] at k1; cases k1
  obtain ⟨hlt, g3⟩ := hset_spec g2
  refine ⟨_, run_beginRound k2 rfl, ?_⟩
  have hbo : blkOf β1 H1 i = some b := by simp only [blkOf, g1, hβ1]; rfl
  have hbs : b < w1.heap.size := (Array.getElem?_eq_some_iff.1 k2).1
  obtain ⟨s2, X2⟩ := s1.sr.modify (β' := β1) (w' := w1.putObj b (.loop { state := .busy, pending := pend', fn := f', tmps := tmps', params := ps', assign := x', body := body, defers := dfr' })) (x' := .lp .busy pend' f' tm' ps' x' body N) g1 (fun _ _ => rfl) (.inr ⟨_, _, rfl, rfl⟩) s1.sr.env
    (fun q _ hn => World.putObj_heap_other (fun e => hn (by rw [hbo, e]))) (fun b e => .inl (by rw [hbo]; rw [hβ1] at e; exact e)) (fun X => ⟨b, dfr', tmps', hβ1, World.putObj_heap_same hbs, k3, fun t r e => let ⟨v, p1, p2⟩ := k4 t r e; ⟨v, p1, X.rep p2⟩⟩)
  refine wpIn_mono (XRun.sound ok g3 ⟨E.b, E.fr, h⟩ _ _ _ _ ⟨s2, s1.fits.ext X2, s1.size, s1.df.ext X2⟩) ?_
  rintro e a3 w3 ⟨D3, σ3, H3, h3', β3, q3, X3, s3⟩
  unfold xRound at q3
  split at q3
  case h_2 => exact q3.elim
  rename_i st4 pend4 f4 tm4 ps4 x4 y4 n4 m1
  rw [lget_eq] at m1
  have hg2 : (H1.set i (.lp .busy pend' f' tm' ps' x' body N))[i]? = some (.lp .busy pend' f' tm' ps' x' body N) := by simp [hlt]
  have hβ3 : β3 i = .pointer (some ⟨b, 0, none⟩) := by
    rcases X3.to _ _ _ hg2 m1 with hd | ⟨_, _, he, hb1⟩
    · cases hd
    · rw [hb1, hβ1]
  obtain ⟨b', dfr4, tmps4, o1, o2, o3, o4⟩ := s3.sr.blk _ _ m1
  rw [hβ3] at o1; cases o1
  have hbo3 : blkOf β3 H3 i = some b := by simp only [blkOf, m1, hβ3]; rfl
  have hbs3 : b < w3.heap.size := (Array.getElem?_eq_some_iff.1 o2).1
  have Xto := X1.trans (X2.trans X3)
  have fin : ∀ (jump : Option Code) (st' : LoopState), st' = (if jump.isNone then .ready else .done) → (hset H3 i (.lp st' jump f4 tm4 ps4 x4 y4 n4) fun H' => K (.bool jump.isNone) H') →
      ∃ v w', (Instr.endRound b jump).run P w3 = .ok v w' ∧ Ends P E h β H K (.returned v) w' := by
    intro jump st' hst hk
    subst hst
    obtain ⟨_, hk2⟩ := hset_spec hk
    obtain ⟨s4, X4⟩ := s3.sr.modify (β' := β3) (w' := w3.putObj b (.loop { state := (if jump.isNone then .ready else .done), pending := jump, fn := f4, tmps := tmps4, params := ps4, assign := x4, body := y4, defers := dfr4 })) (x' := .lp (if jump.isNone then .ready else .done) jump f4 tm4 ps4 x4 y4 n4) m1 (fun _ _ => rfl) (.inr ⟨_, _, rfl, rfl⟩) s3.sr.env
      (fun q _ hn => World.putObj_heap_other (fun e => hn (by rw [hbo3, e]))) (fun b e => .inl (by rw [hbo3]; rw [hβ3] at e; exact e)) (fun X => ⟨b, dfr4, tmps4, hβ3, World.putObj_heap_same hbs3, o3, fun t r e => let ⟨v, p1, p2⟩ := o4 t r e; ⟨v, p1, X.rep p2⟩⟩)
    refine ⟨_, _, run_endRound jump o2, .bool jump.isNone, _, _, _, _, rfl, hk2, Xto.trans X4, ?_, .bool _⟩
    exact s4.unen
  cases e with
  | normal => exact fin none .ready rfl q3
  | ret => exact fin (some .ret) .done rfl q3
  | exit id => exact fin (some (.exit id)) .done rfl q3
  | _ => exact q3.elim
end
end GA
end

section
namespace GA
open Go Go.RowKit
set_option linter.unusedVariables false

def xMarks : List Nat → List Blk → (List Blk → Prop) → Prop
  | [], H, k => k H
  | i :: D, H, k => match lget H i with
    | some (.raw (.deferred (some []))) => hset H i (.raw (.deferred none)) fun H' => xMarks D H' k
    | _ => False
def XIn (T : Tab) (res : List ResultVar) (k : AV → List Blk → Prop) : Post := fun e D σ H =>
  match e with
  | .normal | .ret => xMarks D H fun H' => xRes T σ H' res fun rs => k (pack rs) H'
  | _ => False
def XFm (P : Program) (T : Tab) (res : List ResultVar) (r0 : AV) : Post := XIn T res fun r H => XOut P H r r0

section
variable {P : Program} {T : Tab} {N : Nat} {ρ : Option Nat} {own : List Nat} {E : Env} {h : Nat → Option Obj} {β : Nat → Value} {H : List Blk} {w : World} {σ : St} {a : Act}

theorem leavesX {fn : Func} {k : AV → List Blk → Prop} {h0 : Nat → Option Obj} {β0 : Nat → Value} {H0 : List Blk} (ok : TabOk P T) (hen : ∀ b, E.en b = none → h0 b = none) : ∀ (ds : List Deferred) (D : List Nat) (h : Nat → Option Obj) (β : Nat → Value) (H : List Blk) (w : World), Ext h0 β0 H0 h β H → SR P E h β H w → Fits P h β H σ a → DfOk P E h β H D ds →
      xMarks D H (fun H' => xRes T σ H' fn.results.toList fun rs => k (pack rs) H') → LeavesInM (FW none) 0 P fn a.tmps (Ends P E h0 β0 H0 k) ds .returning w
  | [], D, h, β, H, w, X, s, F, df, hk => by
    obtain ⟨_, df⟩ := df
    cases df
    obtain ⟨v, rs, e1, e2, e3⟩ := results_run (fn := fn) s F (xRes_sound ok hk)
    exact ⟨v, e1, pack rs, H, h, β, v, rfl, e3, X, s, e2⟩
  | d :: ds, D, h, β, H, w, X, s, F, ⟨hen2, df⟩, hk => by
    cases df with
    | @lost b _ _ hb he nd t =>
      have h4 := s.imm _ _ hb
      have htake := run_takeDeferred (P := P) h4
      refine ⟨by simp, .inl ⟨b, _, rfl, htake, ?_⟩⟩
      exact leavesX ok hen ds D _ β H _ (X.hid (hen _ he)) (s.hid hb _) (F.hid hb) (DfOk.hid hb he ⟨hen2, t⟩ nd) hk
    | @own i b D _ h2 t =>
      unfold xMarks at hk
      split at hk
      case h_2 => exact hk.elim
      rename_i hl
      rw [lget_eq] at hl
      obtain ⟨hlt, hk2⟩ := hset_spec hk
      cases h2 with
      | yld hlv hb =>
        have hb' := hb _ hl rfl
        obtain ⟨b', h3, h4⟩ := s.blk i _ hl
        rw [hb'] at h3; cases h3
        have htake := run_takeDeferred (P := P) h4
        have hbo : blkOf β H i = some b := by simp only [blkOf, hl, hb']; rfl
        obtain ⟨s', X'⟩ := s.modify (β' := β) (w' := w.putObj b (.deferred none)) (x' := .raw (.deferred none)) hl (fun _ _ => rfl) (.inr ⟨_, rfl, rfl⟩) s.env
          (fun q _ hn => World.putObj_heap_other (fun e => hn (by rw [hbo, e]))) (fun b0 e => .inl (by rw [hbo]; rw [hb'] at e; exact e))
          (fun _ => ⟨b, hb', World.putObj_heap_same (Array.getElem?_eq_some_iff.1 h4).1⟩)
        refine ⟨by simp, .inl ⟨b, _, rfl, htake, ?_⟩⟩
        exact leavesX ok hen ds D h β _ _ (X.trans X') s' (F.ext X') (DfOk.ext ⟨hen2, t⟩ X') hk2

theorem ACall.inl {f : FuncId} {fn : Func} {c : Code} {rs : List AV} {res : List ResultVar} {k : AV → List Blk → Prop} (ok : TabOk P T) (own : List Nat) (hf : P.funcs[f]? = some fn) (hb : fn.body = some c) (hn : (fn.name == "runtime.NumGoroutine") = false)
    (hN : fn.ntmps = N) (hr : fn.results = res.toArray) (hl : rs.length ≤ N) (x : XRun P T N none own c (XIn T res k) [] (argX rs) H) : ACall P f rs H k := by
  refine ⟨⟨fn, hf, hn, by rw [hb]; rfl⟩, fun E h β w vs s hrs => ?_⟩
  refine (show CallsIn (FW none) 0 P f vs.toArray w (Ends P ⟨E.b, E.fr, h⟩ h β H k) from ?_).mono fun _ _ => Ends.unen
  refine callsIn_of_wp_marks hf hb trivial ?_ rfl
  have hsz : (vs.toArray ++ Array.replicate (fn.ntmps - vs.toArray.size) undef).size = N := by simp [hrs.1]; omega
  refine wpIn_mono (XRun.sound (own := own) ok x ⟨E.b, E.fr, h⟩ h β _ w ⟨s.en h, fun t r e => ?_, hsz, ⟨fun _ _ e => e, .nil⟩⟩) ?_
  · rw [argX_eq] at e
    obtain ⟨v, h1, h2⟩ := hrs.2 t r e
    refine ⟨v, ?_, h2⟩
    rw [Array.getElem?_append_left (by simpa using (List.getElem?_eq_some_iff.1 h1).1)]; simpa using h1
  · rintro e a' w' ⟨D', σ', H', h', β', q, X, s'⟩
    have hq : (e = .normal ∨ e = .ret) ∧ xMarks D' H' fun H' => xRes T σ' H' fn.results.toList fun rs => k (pack rs) H' := by
      rw [hr]
      unfold XIn at q; split at q
      · exact ⟨.inl rfl, q⟩
      · exact ⟨.inr rfl, q⟩
      · exact q.elim
    obtain ⟨he, q⟩ := hq
    have hL : LeavesInM (FW none) 0 P fn a'.tmps (Ends P ⟨E.b, E.fr, h⟩ h β H k) a'.defers .returning w' :=
      leavesX ok (fun _ e => e) a'.defers D' h' β' H' w' X s'.sr s'.fits s'.df q
    rcases he with rfl | rfl <;> exact hL

theorem Comp.body' {f : FuncId} {fn : Func} {c : Code} {rs : List AV} {res : List ResultVar} {r0 : AV} (ok : TabOk P T) (own : List Nat) (hf : P.funcs[f]? = some fn) (hb : fn.body = some c) (hn : (fn.name == "runtime.NumGoroutine") = false)
    (hN : fn.ntmps = N) (hr : fn.results = res.toArray) (hl : rs.length ≤ N) (hlo : lowL 0 rs = true) (x : XRun P T N none own c (XFm P T res r0) [] (argX rs) []) : Comp P f rs r0 := by
  refine ⟨hlo, ?_⟩
  obtain ⟨h1, h2⟩ := ACall.inl ok own hf hb hn hN hr hl x
  refine ⟨h1, fun E h β w vs s hrs => (h2 E h β w vs s hrs).mono ?_⟩
  rintro e w' ⟨r, H', h', β', v, rfl, hk, X, s', hrep⟩
  exact ⟨r0, [], hall h' β' H' w', β', v, rfl, ⟨rfl, rfl⟩, ⟨fun b o eb => hall_imm s' (X.imm b o eb), Nat.le_refl _, by simp⟩, s'.all, hk.o E h' β' w' s' v hrep⟩

theorem XRun.monoX (ok : TabOk P T) {c : Code} {Q Q' : Post} {D : List Nat} (hq : ∀ e D σ H, Q e D σ H → Q' e D σ H) (x : XRun P T N ρ own c Q D σ H) : AWp P N ρ c Q' D σ H := (XRun.sound ok x).mono hq
theorem ACall.inl0 {f : FuncId} {fn : Func} {c : Code} {rs : List AV} {res : List ResultVar} {k : AV → List Blk → Prop} (ok : TabOk P T) (own : List Nat) (hf : P.funcs[f]? = some fn) (hb : fn.body = some c) (hn : (fn.name == "runtime.NumGoroutine") = false)
    (hN : fn.ntmps = N) (hr : fn.results = res.toArray) (hl : rs.length ≤ N) (x : AWp P N none c (XIn T res k) [] (argX rs) H) : ACall P f rs H k := by
  refine ⟨⟨fn, hf, hn, by rw [hb]; rfl⟩, fun E h β w vs s hrs => ?_⟩
  refine (show CallsIn (FW none) 0 P f vs.toArray w (Ends P ⟨E.b, E.fr, h⟩ h β H k) from ?_).mono fun _ _ => Ends.unen
  refine callsIn_of_wp_marks hf hb trivial ?_ rfl
  have hsz : (vs.toArray ++ Array.replicate (fn.ntmps - vs.toArray.size) undef).size = N := by simp [hrs.1]; omega
  refine wpIn_mono (x ⟨E.b, E.fr, h⟩ h β _ w ⟨s.en h, fun t r e => ?_, hsz, ⟨fun _ _ e => e, .nil⟩⟩) ?_
  · rw [argX_eq] at e
    obtain ⟨v, h1, h2⟩ := hrs.2 t r e
    refine ⟨v, ?_, h2⟩
    rw [Array.getElem?_append_left (by simpa using (List.getElem?_eq_some_iff.1 h1).1)]; simpa using h1
  · rintro e a' w' ⟨D', σ', H', h', β', q, X, s'⟩
    have hq : (e = .normal ∨ e = .ret) ∧ xMarks D' H' fun H' => xRes T σ' H' fn.results.toList fun rs => k (pack rs) H' := by
      rw [hr]
      unfold XIn at q; split at q
      · exact ⟨.inl rfl, q⟩
      · exact ⟨.inr rfl, q⟩
      · exact q.elim
    obtain ⟨he, q⟩ := hq
    have hL : LeavesInM (FW none) 0 P fn a'.tmps (Ends P ⟨E.b, E.fr, h⟩ h β H k) a'.defers .returning w' :=
      leavesX ok (fun _ e => e) a'.defers D' h' β' H' w' X s'.sr s'.fits s'.df q
    rcases he with rfl | rfl <;> exact hL
theorem Comp.body {f : FuncId} {fn : Func} {c : Code} {rs : List AV} {res : List ResultVar} {r0 : AV} (ok : TabOk P T) (own : List Nat) (hf : P.funcs[f]? = some fn) (hb : fn.body = some c) (hn : (fn.name == "runtime.NumGoroutine") = false)
    (hN : fn.ntmps = N) (hr : fn.results = res.toArray) (hl : rs.length ≤ N) (hlo : lowL 0 rs = true) (x : XRun P T N none own c (XFn P T res r0) [] (argX rs) []) : Comp P f rs r0 := by
  refine ⟨hlo, ?_⟩
  obtain ⟨h1, h2⟩ := ACall.inl0 (k := fun r H => XOut P H r r0) ok own hf hb hn hN hr hl (XRun.monoX ok (fun e D σ H q => by
    unfold XFn at q
    split at q
    · exact q
    · exact q
    · exact q.elim) x)
  refine ⟨h1, fun E h β w vs s hrs => (h2 E h β w vs s hrs).mono ?_⟩
  rintro e w' ⟨r, H', h', β', v, rfl, hk, X, s', hrep⟩
  exact ⟨r0, [], hall h' β' H' w', β', v, rfl, ⟨rfl, rfl⟩, ⟨fun b o eb => hall_imm s' (X.imm b o eb), Nat.le_refl _, by simp⟩, s'.all, hk.o E h' β' w' s' v hrep⟩

theorem XCall.inl {f : FuncId} {fn : Func} {c : Code} {rs : List AV} {res : List ResultVar} {k : AV → List Blk → Prop} (ok : TabOk P T) (own : List Nat) (hf : P.funcs[f]? = some fn) (hb : fn.body = some c) (hn : (fn.name == "runtime.NumGoroutine") = false)
    (hN : fn.ntmps = N) (hr : fn.results = res.toArray) (hl : rs.length ≤ N) (x : XRun P T N none own c (XIn T res k) [] (argX rs) H) : XCall P f rs H k :=
  ⟨.inl ok own hf hb hn hN hr hl x⟩

theorem Walk.nilgr {c : Code} {Q : Post} {D : List Nat} (t : Nat) (te : TypeId) (ht : σ t = some (.sl true [])) (x : Walk P N ρ c Q D (updX σ t (.gr H.length 0)) (H ++ [.grow te true []])) : Walk P N ρ c Q D σ H := by
  constructor
  intro E h β a w s
  obtain ⟨s', X⟩ := s.sr.push (w' := w) s.sr.env (fun _ _ => rfl) (.slice none 0 0) (.grow te true []) (by intro b hb; simp [anchor] at hb) (fun _ => .inl ⟨rfl, rfl, by simp [upb]⟩)
  refine wpIn_mono (x.o E h _ a w ⟨s', fun u r e => ?_, s.size, s.df.ext X⟩) fun _ _ _ => Conc.ext X
  rw [updX_eq] at e; unfold upd at e
  split at e
  · rename_i hu; subst hu; cases e
    obtain ⟨v, h1, h2⟩ := s.fits u _ ht
    cases h2
    refine ⟨_, h1, .gr rfl (.push rfl) fun t' nl els e => ?_⟩
    rw [List.getElem?_append_right (Nat.le_refl _)] at e; simp at e; obtain ⟨_, _, rfl⟩ := e
    exact ⟨Nat.le_refl _, fun _ => by simp [upb]⟩
  · obtain ⟨v, h1, h2⟩ := s.fits u r e
    exact ⟨v, h1, X.rep h2⟩
end
end GA
end

section
namespace GA
open Go Go.RowKit
set_option linter.unusedVariables false

section
variable {P : Program} {T : Tab} {N : Nat} {ρ : Option Nat} {own : List Nat} {E : Env} {h : Nat → Option Obj} {β : Nat → Value} {H : List Blk} {w : World} {σ σ' : St} {a : Act}

def Knows (σ σ' : St) (l : List Operand) : Prop := ∀ t, Operand.tmp t ∈ l → ∀ r, σ t = some r → σ' t = some r
theorem Knows.ev {l : List Operand} (k : Knows σ σ' l) {x : Operand} (hx : x ∈ l) {r : AV} (e : ev σ x = some r) : ev σ' x = some r := by
  cases x with
  | tmp t => exact k t hx r e
  | _ => exact e
theorem Knows.evL {l : List Operand} (k : Knows σ σ' l) : ∀ {xs : List Operand} {rs : List AV}, (∀ x ∈ xs, x ∈ l) → evL σ xs = some rs → evL σ' xs = some rs
  | [], _, _, e => e
  | x :: xs, rs, hx, e => by
    unfold GA.evL at e ⊢
    split at e <;> cases e
    rename_i h1 h2
    rw [k.ev (hx x (by simp)) h1, k.evL (fun y hy => hx y (by simp [hy])) h2]
theorem Knows.evP {l : List Operand} (k : Knows σ σ' l) : ∀ {xs : List (Nat × Operand)} {rs : List (Nat × AV)}, (∀ x ∈ xs.map (·.2), x ∈ l) → evP σ xs = some rs → evP σ' xs = some rs
  | [], _, _, e => e
  | (i, x) :: xs, rs, hx, e => by
    unfold GA.evP at e ⊢
    split at e <;> cases e
    rename_i h1 h2
    rw [k.ev (hx x (by simp)) h1, k.evP (fun y hy => hx y (by simp at hy ⊢; exact .inr hy)) h2]
theorem Knows.evO {l : List Operand} (k : Knows σ σ' l) {x : Option Operand} {r : Option AV} (hx : ∀ y, x = some y → y ∈ l) (e : evO σ x = some r) : evO σ' x = some r := by
  cases x with
  | none => exact e
  | some y =>
    simp only [GA.evO] at e ⊢
    cases h1 : GA.ev σ y with
    | none => rw [h1] at e; cases e
    | some z => rw [h1] at e; rw [k.ev (hx y rfl) h1]; exact e

theorem Knows.b {l : List Operand} (k : Knows σ σ' l) {x : Operand} (hx : x ∈ l) {K : AV → Prop} (e : bnd (GA.ev σ x) K) : bnd (GA.ev σ' x) K := by
  obtain ⟨r, h1, h2⟩ := bnd_elim e; rw [k.ev hx h1]; exact h2
theorem AOp_look {op : Op} {d : Option Nat} {K : AV → List Blk → Prop} (k : Knows σ σ' op.operands.toList) (x : AOp P own d σ H K op) : AOp P own d σ' H K op := by
  cases op with
  | move a => exact k.b (by simp [Op.operands]) x
  | assign a => exact k.b (by simp [Op.operands]) x
  | pick c a b =>
    refine bnd_mono (k.b (x := c) (by simp [Op.operands]) x) fun r _ h => ?_
    split at h
    · exact ⟨fun e => k.b (by simp [Op.operands]) (h.1 e), fun e => k.b (by simp [Op.operands]) (h.2 e)⟩
    · exact h
  | alloc t => exact x
  | box t a => exact k.b (by simp [Op.operands]) x
  | build t ps => obtain ⟨r, h1, h2⟩ := bnd_elim x; show bnd _ _; rw [k.evP (by simp [Op.operands]) h1]; exact h2
  | buildSlice t n ps => obtain ⟨r, h1, h2⟩ := bnd_elim x; show bnd _ _; rw [k.evP (by simp [Op.operands]) h1]; exact h2
  | load t a => exact k.b (by simp [Op.operands]) x
  | store t a v => exact bnd_mono (k.b (x := a) (by simp [Op.operands]) x) fun r _ h => k.b (by simp [Op.operands]) h
  | nilCheck a => exact k.b (by simp [Op.operands]) x
  | binOp op t a b y => exact bnd_mono (k.b (x := a) (by simp [Op.operands]) x) fun r _ h => k.b (by simp [Op.operands]) h
  | unOp op t a => exact k.b (by simp [Op.operands]) x
  | convert s d a => exact k.b (by simp [Op.operands]) x
  | makeFunc fn first caps =>
    cases fn with
    | func f =>
      rcases x with ⟨h0, h⟩ | ⟨h0, h⟩
      · obtain ⟨r, h1, h2⟩ := bnd_elim h
        refine .inl ⟨h0, ?_⟩
        rw [k.evL (by simp [Op.operands]; exact fun _ h => .inr h) h1]; exact h2
      · obtain ⟨r, h1, h2⟩ := bnd_elim h
        refine .inr ⟨h0, ?_⟩
        rw [k.evL (by simp [Op.operands]; exact fun _ h => .inl h) h1]; exact h2
    | _ => exact x
  | makeSlice t a b => exact bnd_mono (k.b (x := a) (by simp [Op.operands]) x) fun r _ h => k.b (by simp [Op.operands]) h
  | slice t a lo hi mx =>
    refine bnd_mono (k.b (x := a) (by simp [Op.operands]) x) fun r _ h => ?_
    obtain ⟨l1, g1, h⟩ := bnd_elim h
    obtain ⟨l2, g2, h⟩ := bnd_elim h
    obtain ⟨l3, g3, h⟩ := bnd_elim h
    rw [k.evO (by rintro y rfl; simp [Op.operands]) g1, bnd_some, k.evO (by rintro y rfl; simp [Op.operands]) g2, bnd_some, k.evO (by rintro y rfl; simp [Op.operands]) g3, bnd_some]
    exact h
  | fieldAddr t a f => exact k.b (by simp [Op.operands]) x
  | field t a f => exact k.b (by simp [Op.operands]) x
  | indexAddr t a b => exact bnd_mono (k.b (x := a) (by simp [Op.operands]) x) fun r _ h => k.b (by simp [Op.operands]) h
  | index t a b =>
    rcases x with x | ⟨c, e, x⟩
    · exact .inl (bnd_mono (k.b (x := a) (by simp [Op.operands]) x) fun r _ h => k.b (by simp [Op.operands]) h)
    · exact .inr ⟨c, e, k.b (by simp [Op.operands]) x⟩
  | extract a i => exact k.b (by simp [Op.operands]) x
  | makeMap t r => exact x
  | lookup t a b ok => exact bnd_mono (k.b (x := a) (by simp [Op.operands]) x) fun r _ h => k.b (by simp [Op.operands]) h
  | mapUpdate t m a b => exact bnd_mono (k.b (x := m) (by simp [Op.operands]) x) fun r _ h => bnd_mono (k.b (x := a) (by simp [Op.operands]) h) fun r _ h => k.b (by simp [Op.operands]) h
  | insert t m a b => exact bnd_mono (k.b (x := m) (by simp [Op.operands]) x) fun r _ h => bnd_mono (k.b (x := a) (by simp [Op.operands]) h) fun r _ h => k.b (by simp [Op.operands]) h
  | call c =>
    obtain ⟨callee, args, argTypes⟩ := c
    change opCall P σ H _ K at x
    change opCall P σ' H _ K
    unfold opCall at x ⊢
    cases callee with
    | value f =>
      refine bnd_mono (k.b (x := f) (by simp [Op.operands, Call.operands]) x) fun fv _ h => ?_
      obtain ⟨rs, h1, h2⟩ := bnd_elim h
      rw [k.evL (by simp [Op.operands, Call.operands]; exact fun _ h => .inr h) h1]; exact h2
    | builtin b =>
      obtain ⟨rs, h1, h2⟩ := bnd_elim x
      simp only
      rw [k.evL (by simp [Op.operands, Call.operands]) h1]; exact h2
    | invoke r m => exact x
  | _ => exact x
end
end GA
end

section
namespace GA
open Go Go.RowKit
set_option linter.unusedVariables false

def dep (o : Oper) (j : Nat) : Bool := o.after.toList.any fun e => Region.binds .any e && Nat.beq e.on j
def flagsOf (eff : List Nat) (listed : Array Bool) : List Bool := eff.map fun j => listed.getD j false
def setF (eff : List Nat) (i : Nat) (fl : List Bool) : List Bool := List.zipWith (fun j b => b || Nat.beq j i) eff fl
def opAt (ops : List Oper) (j : Nat) (f : Oper → Bool) : Bool := match lget ops j with | some o => f o | none => true
def compat (ops : List Oper) (eff : List Nat) (i : Nat) (fl : List Bool) : Bool :=
  (eff.zip fl).all fun (j, b) =>
    (opAt ops i fun o => !dep o j || b) && (!Nat.beq j i || !b) && (opAt ops j fun o => !dep o i || !b) &&
    (!b || (eff.zip fl).all fun (j', b') => opAt ops j fun o => !dep o j' || b')

structure XSame (r : AV) (H : List Blk) (r0 : AV) (H0 : List Blk) : Prop where
  r : r = r0
  h : H = H0

section
variable (P : Program) (T : Tab) (N : Nat) (own : List Nat) (ops : List Oper) (eff : List Nat) (HS : List Bool → List Blk)
def Chk (i : Nat) (o : Oper) (σ : St) (r : AV) (fl : List Bool) : Prop :=
  xGate ops σ o.guard (fun σ => XOp P T own o.dst σ (HS fl) (fun r' H' => XSame r' H' r (HS (setF eff i fl))) o.op) (fun _ => XSame (.tup []) (HS fl) r (HS (setF eff i fl)))
def ChkAll : Nat → List Oper → List AV → St → Prop
  | _, [], [], _ => True
  | i, o :: l, r :: R, σ => (∀ fl, fl.length = eff.length → compat ops eff i fl = true → Chk P T own ops eff HS i o σ r fl) ∧ ChkAll (i + 1) l R (putX N σ o.dst r)
  | _, _, _, _ => False
end
def xFold (N : Nat) : List Oper → List AV → St → St
  | o :: l, r :: R, σ => xFold N l R (putX N σ o.dst r)
  | _, _, σ => σ

section
variable {P : Program} {T : Tab} {N : Nat} {ρ : Option Nat} {own : List Nat} {E : Env} {h : Nat → Option Obj} {β : Nat → Value} {H : List Blk} {w : World} {σ σ' : St} {a : Act} {ops : List Oper} {eff : List Nat} {HS : List Bool → List Blk}

theorem ChkAll.get : ∀ {l : List Oper} {R : List AV} {i : Nat} {σ : St}, ChkAll P T N own ops eff HS i l R σ → l.length = R.length ∧ ∀ (j : Nat) o, l[j]? = some o → ∃ r, R[j]? = some r ∧
      ∀ fl, fl.length = eff.length → compat ops eff (i + j) fl = true → Chk P T own ops eff HS (i + j) o (xFold N (l.take j) (R.take j) σ) r fl
  | [], [], _, _, _ => ⟨rfl, by simp⟩
  | o :: l, r :: R, i, σ, h => by
    obtain ⟨h1, h2⟩ := h
    obtain ⟨h3, h4⟩ := ChkAll.get h2
    refine ⟨by simp [h3], fun j o' e => ?_⟩
    cases j with
    | zero => simp at e; subst e; exact ⟨r, rfl, h1⟩
    | succ j =>
      obtain ⟨r', e1, e2⟩ := h4 j o' (by simpa using e)
      refine ⟨r', by simpa using e1, fun fl hf hc => ?_⟩
      have := e2 fl hf (by rwa [show i + 1 + j = i + (j + 1) by omega])
      rw [show i + 1 + j = i + (j + 1) by omega] at this
      exact this
  | [], _ :: _, _, _, h => h.elim
  | _ :: _, [], _, _, h => h.elim

theorem putX_get {N : Nat} {σ : St} {d : Option Nat} {r x : AV} {t : Nat} (e : putX N σ d r t = some x) : (d = some t ∧ t < N ∧ x = r) ∨ ((d ≠ some t ∨ ¬ t < N) ∧ σ t = some x) := by
  rw [putX_eq] at e
  cases d with
  | none => exact .inr ⟨.inl (by simp), e⟩
  | some d =>
    simp only [putO] at e
    split at e
    · rename_i hd; unfold upd at e; split at e
      · rename_i ht; subst ht; cases e; exact .inl ⟨rfl, hd, rfl⟩
      · rename_i ht; exact .inr ⟨.inl (by intro hh; cases hh; exact ht rfl), e⟩
    · rename_i hd
      by_cases ht : d = t
      · subst ht; exact .inr ⟨.inr hd, e⟩
      · exact .inr ⟨.inl (by intro hh; cases hh; exact ht rfl), e⟩

theorem xFold_get {N : Nat} : ∀ {l : List Oper} {R : List AV} {σ : St} {t : Nat} {x : AV}, l.length = R.length → xFold N l R σ t = some x →
    (∃ (j : Nat) (o : Oper), l[j]? = some o ∧ o.dst = some t ∧ t < N ∧ R[j]? = some x ∧ ∀ (k : Nat) o', l[k]? = some o' → j < k → o'.dst ≠ some t) ∨
    ((∀ (k : Nat) o', l[k]? = some o' → o'.dst ≠ some t ∨ ¬ t < N) ∧ σ t = some x)
  | [], R, σ, t, x, hl, e => by
    right; refine ⟨by simp, ?_⟩
    cases R <;> exact e
  | o :: l, [], _, _, _, hl, _ => by simp at hl
  | o :: l, r :: R, σ, t, x, hl, e => by
    rcases xFold_get (l := l) (R := R) (by simpa using hl) e with ⟨j, o', h1, h2, h3, h4, h5⟩ | ⟨h1, h2⟩
    · left
      refine ⟨j + 1, o', by simpa using h1, h2, h3, by simpa using h4, fun k o'' hk hj => ?_⟩
      cases k with
      | zero => omega
      | succ k => exact h5 k o'' (by simpa using hk) (by omega)
    · rcases putX_get h2 with ⟨g1, g2, g3⟩ | ⟨g1, g2⟩
      · left
        refine ⟨0, o, rfl, g1, g2, by simp [g3], fun k o' hk hj => ?_⟩
        cases k with
        | zero => omega
        | succ k =>
          rcases h1 k o' (by simpa using hk) with h | h
          · exact h
          · exact absurd g2 h
      · right
        refine ⟨fun k o' hk => ?_, g2⟩
        cases k with
        | zero => simp at hk; subst hk; exact g1
        | succ k => exact h1 k o' (by simpa using hk)

theorem lex_spec {ops : Array Oper} : ∀ (fuel k : Nat) (listed : Array Bool), listed.size = ops.size → (∀ j, listed.getD j true = false ↔ k ≤ j ∧ j < ops.size) → k + fuel = ops.size → Region.lexFrom .any ops fuel k listed = true →
    ∀ i o, k ≤ i → ops[i]? = some o → (∀ e ∈ o.after, Region.binds .any e = true → e.on < i) ∧ ∀ (j : Nat) oj, i < j → ops[j]? = some oj → (∀ e ∈ oj.after, Region.binds .any e = true → e.on ≠ i) → o.apart ops oj = true
  | 0, k, listed, _, _, hk, _, i, o, hi, ho => by have := (Array.getElem?_eq_some_iff.1 ho).1; omega
  | fuel + 1, k, listed, hs, hl, hk, hB, i, o, hi, ho => by
    simp only [Region.lexFrom, Bool.and_eq_true] at hB
    obtain ⟨⟨hr, hf⟩, hB'⟩ := hB
    rcases Nat.lt_or_eq_of_le hi with hlt | rfl
    · refine lex_spec fuel (k + 1) (listed.setIfInBounds k true) (by simpa using hs) (fun j => ?_) (by omega) hB' i o (by omega) ho
      by_cases hjk : k = j
      · subst hjk
        have : k < listed.size := by omega
        simp [this]; omega
      · rw [getD_set_ne true hjk, hl j]; omega
    · have hr' : k ∈ Region.ready .any ops listed := by simpa using hr
      obtain ⟨_, o', ho', hall⟩ := mem_ready.1 hr'
      rw [ho] at ho'; cases ho'
      refine ⟨fun e he hb => ?_, fun j oj hj hoj hno => Region.free_spec ho hf j oj hoj (by omega) ((hl j).2 ⟨by omega, (Array.getElem?_eq_some_iff.1 hoj).1⟩) hno⟩
      have h1 := hall e he hb
      rcases Nat.lt_or_ge e.on k with h | h
      · exact h
      · exfalso
        rcases Nat.lt_or_ge e.on ops.size with h' | h'
        · have h2 := (hl e.on).2 ⟨h, h'⟩
          simp at h1 h2
          rcases Nat.lt_or_ge e.on listed.size with h3 | h3
          · simp [h3] at h1 h2; rw [h2] at h1; cases h1
          · simp [Array.getElem?_eq_none h3] at h1
        · have h3 : listed.size ≤ e.on := by omega
          simp [Array.getElem?_eq_none h3] at h1
end
end GA
end

section
namespace GA
open Go Go.RowKit
set_option linter.unusedVariables false

section
variable {P : Program} {T : Tab} {N : Nat} {ρ : Option Nat} {own : List Nat} {E : Env} {h : Nat → Option Obj} {β : Nat → Value} {H : List Blk} {w : World} {σ σ' : St} {a : Act} {ops : List Oper} {eff : List Nat} {HS : List Bool → List Blk}

def isL (listed : Array Bool) (j : Nat) : Prop := listed.getD j false = true
def Closed (ops : List Oper) (listed : Array Bool) : Prop := ∀ (j : Nat) o, ops[j]? = some o → isL listed j → ∀ e ∈ o.after, Region.binds .any e = true → isL listed e.on
structure DInv (P : Program) (E : Env) (N : Nat) (ops : List Oper) (eff : List Nat) (HS : List Bool → List Blk) (R : List AV) (σ : St) (a0 : Act) (h0 : Nat → Option Obj) (β0 : Nat → Value) (H0 : List Blk) (listed : Array Bool) (a : Act) (w : World) : Prop where
  size : listed.size = ops.length
  closed : Closed ops listed
  st : ∃ h β, Ext h0 β0 H0 h β (HS (flagsOf eff listed)) ∧ SR P E h β (HS (flagsOf eff listed)) w ∧
    (∀ t r, σ t = some r → (∀ (j : Nat) o, ops[j]? = some o → isL listed j → o.dst ≠ some t ∨ ¬ t < N) → ∃ v, a.tmps[t]? = some v ∧ Rep P h β (HS (flagsOf eff listed)) r v) ∧
    (∀ (j : Nat) o d r, ops[j]? = some o → isL listed j → o.dst = some d → d < N → R[j]? = some r → (∀ (k : Nat) ok, ops[k]? = some ok → isL listed k → j < k → ok.dst ≠ some d) → ∃ v, a.tmps[d]? = some v ∧ Rep P h β (HS (flagsOf eff listed)) r v)
  keeps : Keeps a0 a

theorem dep_iff {o : Oper} {j : Nat} : dep o j = true ↔ ∃ e ∈ o.after, Region.binds .any e = true ∧ e.on = j := by
  unfold dep; rw [List.any_eq_true]
  constructor
  · rintro ⟨e, h1, h2⟩
    simp only [Bool.and_eq_true] at h2
    exact ⟨e, by simpa using h1, h2.1, Nat.eq_of_beq_eq_true h2.2⟩
  · rintro ⟨e, h1, h2, h3⟩
    exact ⟨e, by simpa using h1, by subst h3; simp [h2]⟩
theorem flags_zip {listed : Array Bool} {p : Nat × Bool} : ∀ {eff : List Nat}, p ∈ eff.zip (flagsOf eff listed) → p.2 = listed.getD p.1 false
  | [], h => by simp at h
  | j :: eff, h => by
    simp only [flagsOf, List.map_cons, List.zip_cons_cons] at h
    rcases List.mem_cons.1 h with h | h
    · subst h; rfl
    · exact flags_zip h
theorem opAt_spec {j : Nat} {f : Oper → Bool} (h : ∀ o, ops[j]? = some o → f o = true) : opAt ops j f = true := by
  unfold opAt; rw [lget_eq]; split
  · rename_i e; exact h _ e
  · rfl
theorem compat_flags {listed : Array Bool} {i : Nat} (hc : Closed ops listed) (hi : ¬ isL listed i) (hr : ∀ o, ops[i]? = some o → ∀ e ∈ o.after, Region.binds .any e = true → isL listed e.on) : compat ops eff i (flagsOf eff listed) = true := by
  unfold compat
  rw [List.all_eq_true]
  rintro ⟨j, b⟩ hp
  have hb := flags_zip hp
  simp only at hb; subst hb
  simp only [Bool.and_eq_true]
  refine ⟨⟨⟨opAt_spec fun o ho => ?_, ?_⟩, opAt_spec fun o ho => ?_⟩, ?_⟩
  · cases hd : dep o j with
    | false => rfl
    | true => obtain ⟨e, h1, h2, h3⟩ := dep_iff.1 hd; have := hr o ho e h1 h2; rw [h3] at this; simpa [isL] using this
  · cases hd : Nat.beq j i with
    | false => rfl
    | true => have := Nat.eq_of_beq_eq_true hd; subst this; simpa [isL] using hi
  · cases hd : dep o i with
    | false => rfl
    | true =>
      obtain ⟨e, h1, h2, h3⟩ := dep_iff.1 hd
      cases hl : listed.getD j false with
      | false => rfl
      | true => exact absurd (h3 ▸ hc j o ho hl e h1 h2) hi
  · cases hl : listed.getD j false with
    | false => rfl
    | true =>
      simp only [Bool.not_true, Bool.false_or]
      rw [List.all_eq_true]
      rintro ⟨j', b'⟩ hp'
      have hb' := flags_zip hp'
      simp only at hb'; subst hb'
      refine opAt_spec fun o ho => ?_
      cases hd : dep o j' with
      | false => rfl
      | true => obtain ⟨e, h1, h2, h3⟩ := dep_iff.1 hd; have := hc j o ho hl e h1 h2; rw [h3] at this; simpa [isL] using this

theorem isL_set {listed : Array Bool} {i j : Nat} (hi : i < listed.size) : isL (listed.setIfInBounds i true) j ↔ j = i ∨ isL listed j := by
  unfold isL
  by_cases h : i = j
  · subst h; simp [hi]
  · rw [getD_set_ne false h]; simp [Ne.symm h]
theorem flags_set {listed : Array Bool} {i : Nat} (hi : i < listed.size) : ∀ (eff : List Nat), flagsOf eff (listed.setIfInBounds i true) = setF eff i (flagsOf eff listed)
  | [] => rfl
  | j :: eff => by
    simp only [flagsOf, setF, List.map_cons, List.zipWith_cons_cons]
    congr 1
    · by_cases h : i = j
      · subst h; simp [hi]
      · rw [getD_set_ne false h]
        cases hb : Nat.beq j i with
        | true => exact absurd (Nat.eq_of_beq_eq_true hb).symm h
        | false => simp
    · exact flags_set hi eff

theorem DInv.step {R : List AV} {a0 : Act} {h0 : Nat → Option Obj} {β0 : Nat → Value} {H0 : List Blk} {Q : Exit → Act → World → Prop} (ok : TabOk P T) (hN : a0.tmps.size = N)
    (hlex : ∀ (i : Nat) o, ops[i]? = some o → ∀ (j : Nat) oj, i < j → ops[j]? = some oj → (∀ e ∈ oj.after, Region.binds .any e = true → e.on ≠ i) → o.apart ops.toArray oj = true)
    (hchk : ChkAll P T N own ops eff HS 0 ops R σ) {listed : Array Bool} {a : Act} {w : World} (I : DInv P E N ops eff HS R σ a0 h0 β0 H0 listed a w) {i : Nat} (hi : i ∈ Region.ready .any ops.toArray listed) :
    wpOpIn (FW ρ) 0 P ops.toArray Q i (DInv P E N ops eff HS R σ a0 h0 β0 H0 (listed.setIfInBounds i true)) a w := by
  obtain ⟨hnot, o, ho, hall⟩ := mem_ready.1 hi
  have ho' : ops[i]? = some o := by simpa using ho
  have hilt : i < ops.length := (List.getElem?_eq_some_iff.1 ho').1
  have hils : i < listed.size := by rw [I.size]; exact hilt
  have hni : ¬ isL listed i := by unfold isL; simp [hils] at hnot ⊢; exact hnot
  obtain ⟨hRl, hget⟩ := hchk.get
  obtain ⟨r, hr, hc⟩ := hget i o ho'
  rw [Nat.zero_add] at hc
  have hC := hc (flagsOf eff listed) (by simp [flagsOf]) (compat_flags I.closed hni fun o' h e he hb => by rw [ho'] at h; cases h; exact hall e he hb)
  obtain ⟨h, β, X, s, K1, K2⟩ := I.st
  -- edges
  have edge : ∀ (j : Nat) oj, ops[j]? = some oj → i < j → isL listed j → o.apart ops.toArray oj = true := fun j oj hj hij hl =>
    hlex i o ho' j oj hij hj fun e he hb heq => hni (heq ▸ I.closed j oj hj hl e he hb)
  have edge' : ∀ (j : Nat) oj, ops[j]? = some oj → j < i → ¬ isL listed j → oj.apart ops.toArray o = true := fun j oj hj hij hl =>
    hlex j oj hj i o hij ho' fun e he hb heq => hl (heq ▸ hall e he hb)
  -- what is looked at
  let σ₁ := xFold N (ops.take i) (R.take i) σ
  let σ₂ : St := fun t => if t ∈ o.looksAt ops.toArray then σ₁ t else none
  have hF : Fits P h β (HS (flagsOf eff listed)) σ₂ a := by
    intro t x ex
    simp only [σ₂] at ex
    split at ex
    · rename_i hlook
      rcases xFold_get (by simp [hRl]) ex with ⟨j, oj, h1, h2, h3, h4, h5⟩ | ⟨h1, h2⟩
      · have hji : j < i := by have := (List.getElem?_eq_some_iff.1 h1).1; simp at this; omega
        have h1' : ops[j]? = some oj := by rw [List.getElem?_take, if_pos hji] at h1; exact h1
        have h4' : R[j]? = some x := by rw [List.getElem?_take, if_pos hji] at h4; exact h4
        have hjl : isL listed j := by
          by_cases hl : isL listed j
          · exact hl
          · exact absurd hlook ((Oper.apart_spec (edge' j oj h1' hji hl)).1 t h2)
        refine K2 j oj t x h1' hjl h2 h3 h4' fun k ok hk hkl hjk => ?_
        rcases Nat.lt_trichotomy k i with hki | rfl | hki
        · exact h5 k ok (by rw [List.getElem?_take, if_pos hki]; exact hk) hjk
        · exact absurd hkl hni
        · intro hd; exact (Oper.apart_spec (edge k ok hk hki hkl)).2.2 t hd hlook
      · refine K1 t x h2 fun j oj hj hjl => ?_
        rcases Nat.lt_trichotomy j i with hji | rfl | hji
        · exact h1 j oj (by rw [List.getElem?_take, if_pos hji]; exact hj)
        · exact absurd hjl hni
        · left; intro hd; exact (Oper.apart_spec (edge j oj hj hji hjl)).2.2 t hd hlook
    · cases ex
  have hk2 : Knows σ₁ σ₂ o.op.operands.toList := by
    intro t ht x ex
    have : t ∈ o.looksAt ops.toArray := by
      unfold Oper.looksAt; rw [List.mem_append]; left; rw [List.mem_filterMap]; exact ⟨.tmp t, ht, rfl⟩
    simp only [σ₂]; rw [if_pos this]; exact ex
  have hg1 := xGate_gate hC
  have hg2 : gate ops σ₂ o.guard (XOp P T own o.dst σ₁ (HS (flagsOf eff listed)) (fun r' H' => XSame r' H' r (HS (setF eff i (flagsOf eff listed)))) o.op) (XSame (.tup []) (HS (flagsOf eff listed)) r (HS (setF eff i (flagsOf eff listed)))) := by
    unfold gate at hg1 ⊢
    cases hgd : o.guard with
    | none => rw [hgd] at hg1; exact hg1
    | some p =>
      obtain ⟨j, want⟩ := p
      rw [hgd] at hg1
      obtain ⟨d, e1, e2⟩ := bnd_elim hg1
      obtain ⟨x, e3, e4⟩ := bnd_elim e2
      have : d ∈ o.looksAt ops.toArray := by
        unfold Oper.looksAt; rw [List.mem_append]; right; rw [hgd]; simp only [List.getElem?_toArray, e1]; simp
      have e5 : σ₂ d = some x := by simp only [σ₂]; rw [if_pos this]; exact e3
      simp only [e1, bnd_some, e5]; exact e4
  -- the next state
  have next : ∀ (v : Value) h' β' w', Ext h β (HS (flagsOf eff listed)) h' β' (HS (setF eff i (flagsOf eff listed))) → SR P E h' β' (HS (setF eff i (flagsOf eff listed))) w' → Rep P h' β' (HS (setF eff i (flagsOf eff listed))) r v →
      DInv P E N ops eff HS R σ a0 h0 β0 H0 (listed.setIfInBounds i true) (a.put o.dst v) w' := by
    intro v h' β' w' X' s' hrep
    have hsz : a.tmps.size = N := I.keeps.size.trans hN
    refine ⟨by simpa using I.size, fun j oj hj hl e he hb => ?_, ⟨h', β', ?_, ?_, ?_, ?_⟩, ⟨(size_put _ _ _).trans I.keeps.size, (defers_put _ _ _).trans I.keeps.defers⟩⟩
    · rw [isL_set hils] at hl ⊢
      rcases hl with rfl | hl
      · rw [ho'] at hj; cases hj; exact .inr (hall e he hb)
      · exact .inr (I.closed j oj hj hl e he hb)
    · rw [flags_set hils]; exact X.trans X'
    · rw [flags_set hils]; exact s'
    · rw [flags_set hils]
      intro t x ex hno
      obtain ⟨u, g1, g2⟩ := K1 t x ex fun j oj hj hl => hno j oj hj ((isL_set hils).2 (.inr hl))
      refine ⟨u, ?_, X'.rep g2⟩
      have hd := hno i o ho' ((isL_set hils).2 (.inl rfl))
      cases hdst : o.dst with
      | none => exact g1
      | some d =>
        simp only [Act.put]
        by_cases hdt : d = t
        · subst hdt
          rcases hd with hd | hd
          · exact absurd hdst hd
          · rw [Array.setIfInBounds_eq_of_size_le (by omega)]; exact g1
        · rw [Array.getElem?_setIfInBounds_ne hdt]; exact g1
    · rw [flags_set hils]
      intro j oj d x hj hl hd hdN hx hlast
      rw [isL_set hils] at hl
      by_cases hji : j = i
      · subst hji
        rw [ho'] at hj; cases hj
        rw [hr] at hx; cases hx
        exact ⟨v, by rw [hd]; simp [Act.put, hsz, hdN], hrep⟩
      · have hl : isL listed j := hl.resolve_left hji
        obtain ⟨u, g1, g2⟩ := K2 j oj d x hj hl hd hdN hx fun k ok hk hkl hjk => hlast k ok hk ((isL_set hils).2 (.inr hkl)) hjk
        refine ⟨u, ?_, X'.rep g2⟩
        have hne : o.dst ≠ some d := by
          intro hod
          rcases Nat.lt_trichotomy j i with hlt | heq | hlt
          · exact hlast i o ho' ((isL_set hils).2 (.inl rfl)) hlt hod
          · exact hji heq
          · exact (Oper.apart_spec (edge j oj hj hlt hl)).2.1 d hod hd
        cases hdst : o.dst with
        | none => exact g1
        | some d' =>
          simp only [Act.put]
          rw [Array.getElem?_setIfInBounds_ne (fun e => hne (by rw [hdst, e]))]; exact g1
  unfold wpOpIn
  simp only [ho]
  rcases gate_wanted hF hg2 with ⟨hw, hA⟩ | ⟨hw, hB⟩
  · rw [if_pos hw]
    refine AOp.sound (AOp_look hk2 (hA.sound ok)) s hF ?_
    intro r' H' h' β' w' v hk' X' s' hrep
    obtain ⟨e1, e2⟩ := hk'
    subst e1; subst e2
    exact next v h' β' w' X' s' hrep
  · rw [if_neg (by rw [hw]; simp)]
    refine ⟨fun _ _ => trivial, ?_⟩
    obtain ⟨e1, e2⟩ := hB
    refine next undef h β w ?_ ?_ ?_
    · rw [← e2]; exact Ext.refl _ _ _
    · rw [← e2]; exact s
    · rw [← e1]; exact rep_undef

theorem unl_zero {listed : Array Bool} (h : (List.range listed.size).countP (fun j => !listed.getD j false) = 0) {j : Nat} (hj : j < listed.size) : isL listed j := by
  rw [List.countP_eq_zero] at h
  have := h j (by simpa using hj)
  simpa [isL] using this
theorem unl_set {listed : Array Bool} {i : Nat} (hi : i < listed.size) (hn : ¬ isL listed i) :
    (List.range (listed.setIfInBounds i true).size).countP (fun j => !(listed.setIfInBounds i true).getD j false) + 1 = (List.range listed.size).countP (fun j => !listed.getD j false) := by
  have e : ∀ n, n ≤ listed.size → (List.range n).countP (fun j => !(listed.setIfInBounds i true).getD j false) + (if i < n then 1 else 0) = (List.range n).countP (fun j => !listed.getD j false) := by
    intro n
    induction n with
    | zero => intro _; simp
    | succ n ih =>
      intro hn'
      have ih := ih (by omega)
      rw [List.range_succ, List.countP_append, List.countP_append, ← ih]
      by_cases h : i = n
      · subst h
        have h1 : listed.getD i false = false := by unfold isL at hn; simpa using hn
        have h2 : (listed.setIfInBounds i true).getD i false = true := by simp [hi]
        simp only [List.countP_cons, List.countP_nil, h1, h2]
        simp
      · rw [show List.countP (fun j => !(listed.setIfInBounds i true).getD j false) [n] = List.countP (fun j => !listed.getD j false) [n] by simp only [List.countP_cons, List.countP_nil, getD_set_ne false h]]
        split <;> split <;> omega
  have := e listed.size (Nat.le_refl _)
  rw [if_pos hi] at this
  simpa using this

theorem DInv.any {R : List AV} {a0 : Act} {h0 : Nat → Option Obj} {β0 : Nat → Value} {H0 : List Blk} {Q : Exit → Act → World → Prop} (ok : TabOk P T) (hN : a0.tmps.size = N) (hs : Region.lexB .any ops.toArray = true)
    (hchk : ChkAll P T N own ops eff HS 0 ops R σ) (hQ : ∀ listed a w, DInv P E N ops eff HS R σ a0 h0 β0 H0 listed a w → (∀ j, j < ops.length → isL listed j) → Q .normal a w) :
    ∀ (fuel : Nat) (listed : Array Bool) (a : Act) (w : World), (List.range listed.size).countP (fun j => !listed.getD j false) = fuel → DInv P E N ops eff HS R σ a0 h0 β0 H0 listed a w → wpAnyIn (FW ρ) 0 P .any ops.toArray Q fuel listed a w := by
  simp only [Region.lexB, Bool.and_eq_true] at hs
  have hspec := lex_spec (ops := ops.toArray) ops.toArray.size 0 (Array.replicate ops.toArray.size false) (by simp) (fun j => by
    simp only [Array.getD_eq_getD_getElem?, Array.getElem?_replicate]
    split <;> simp_all) (by simp) hs.2
  have hlex : ∀ (i : Nat) o, ops[i]? = some o → ∀ (j : Nat) oj, i < j → ops[j]? = some oj → (∀ e ∈ oj.after, Region.binds .any e = true → e.on ≠ i) → o.apart ops.toArray oj = true :=
    fun i o ho j oj hij hj hno => (hspec i o (Nat.zero_le _) (by simpa using ho)).2 j oj hij (by simpa using hj) hno
  -- who is ready when nobody is
  have hready : ∀ listed a w, DInv P E N ops eff HS R σ a0 h0 β0 H0 listed a w → Region.ready .any ops.toArray listed = [] → ∀ j, j < ops.length → isL listed j := by
    intro listed a w I hr j
    induction j using Nat.strongRecOn with
    | _ j ih =>
      intro hj
      by_cases hl : isL listed j
      · exact hl
      · exfalso
        have : j ∈ Region.ready .any ops.toArray listed := by
          rw [mem_ready]
          refine ⟨?_, ops[j], by simp [hj], fun e he hb => ?_⟩
          · have hjs : j < listed.size := by rw [I.size]; exact hj
            unfold isL at hl; simp [hjs] at hl ⊢; exact hl
          · have h1 := (hspec j ops[j] (Nat.zero_le _) (by simp [hj])).1 e he hb
            exact ih e.on h1 (by omega)
        rw [hr] at this; cases this
  intro fuel
  induction fuel with
  | zero =>
    intro listed a w hc I
    have hall : ∀ j, j < ops.length → isL listed j := fun j hj => unl_zero hc (by rw [I.size]; exact hj)
    refine ⟨?_, hQ listed a w I hall⟩
    cases hr : Region.ready .any ops.toArray listed with
    | nil => rfl
    | cons j l =>
      have : j ∈ Region.ready .any ops.toArray listed := by rw [hr]; simp
      obtain ⟨h1, o, h2, _⟩ := mem_ready.1 this
      have hj : j < ops.length := by have := (Array.getElem?_eq_some_iff.1 h2).1; simpa using this
      have hjs : j < listed.size := by rw [I.size]; exact hj
      have := hall j hj
      unfold isL at this; simp [hjs] at h1 this; rw [h1] at this; cases this
  | succ fuel ih =>
    intro listed a w hc I
    refine ⟨fun hr => hQ listed a w I (hready listed a w I hr), fun i hi => ?_⟩
    obtain ⟨h1, o, h2, _⟩ := mem_ready.1 hi
    have hj : i < ops.length := by have := (Array.getElem?_eq_some_iff.1 h2).1; simpa using this
    have hjs : i < listed.size := by rw [I.size]; exact hj
    have hn : ¬ isL listed i := by unfold isL; simp [hjs] at h1 ⊢; exact h1
    refine wpOpIn_mono (fun a' w' I' => ih _ a' w' ?_ I') (DInv.step ok hN hlex hchk I hi)
    have := unl_set hjs hn
    omega

theorem Walk.draw {id : Nat} {Q : Post} {D : List Nat} (ok : TabOk P T) (hm : P.follows .mixedOrders = true) (own : List Nat) (eff : List Nat) (HS : List Bool → List Blk) (R : List AV) (hs : Region.lexB .any ops.toArray = true)
    (hH : HS (eff.map fun _ => false) = H) (hchk : ChkAll P T N own ops eff HS 0 ops R σ) (hk : Q .normal D (xFold N ops R σ) (HS (eff.map fun j => Nat.blt j ops.length))) : Walk P N ρ (.region id ops.toArray true) Q D σ H := by
  constructor
  intro E h β a w s
  have hfl0 : flagsOf eff (Array.replicate ops.toArray.size false) = eff.map fun _ => false := by
    unfold flagsOf; apply List.map_congr_left; intro j _
    simp only [Array.getD_eq_getD_getElem?, Array.getElem?_replicate]; split <;> rfl
  have hnl : ∀ j, ¬ isL (Array.replicate ops.toArray.size false) j := by
    intro j; unfold isL
    simp only [Array.getD_eq_getD_getElem?, Array.getElem?_replicate]; split <;> simp
  have I0 : DInv P E N ops eff HS R σ a h β H (Array.replicate ops.toArray.size false) a { w with drawn := w.drawn + 1 } := by
    refine ⟨by simp, fun j o _ hl => absurd hl (hnl j), ⟨h, β, ?_, ?_, fun t r e _ => ?_, fun j o d r _ hl => absurd hl (hnl j)⟩, ⟨rfl, rfl⟩⟩
    · rw [hfl0, hH]; exact Ext.refl _ _ _
    · rw [hfl0, hH]; exact s.sr.drew
    · rw [hfl0, hH]; exact s.fits t r e
  have hcnt : (List.range (Array.replicate ops.toArray.size false).size).countP (fun j => !(Array.replicate ops.toArray.size false).getD j false) = ops.toArray.size := by
    rw [List.countP_eq_length.2]
    · simp
    · intro j _; have := hnl j; unfold isL at this; simpa using this
  refine wpIn_region_any hm (DInv.any ok s.size hs hchk (fun listed a' w' I hall => ?_) _ _ a _ hcnt I0)
  obtain ⟨h', β', X, s', K1, K2⟩ := I.st
  have hfl : flagsOf eff listed = eff.map fun j => Nat.blt j ops.length := by
    unfold flagsOf; apply List.map_congr_left; intro j _
    rcases Nat.lt_or_ge j ops.length with hj | hj
    · have := hall j hj; unfold isL at this; rw [this]; symm; rw [Nat.blt_eq]; exact hj
    · have h1 : listed.getD j false = false := by simp [Array.getElem?_eq_none (show listed.size ≤ j by rw [I.size]; exact hj)]
      rw [h1]; cases hb : Nat.blt j ops.length with
      | false => rfl
      | true => rw [Nat.blt_eq] at hb; omega
  rw [hfl] at X s' K1 K2
  refine ⟨D, _, _, h', β', hk, X, s', fun t x ex => ?_, I.keeps.size.trans s.size, by rw [I.keeps.defers]; exact s.df.ext X⟩
  rcases xFold_get hchk.get.1 ex with ⟨j, oj, h1, h2, h3, h4, h5⟩ | ⟨h1, h2⟩
  · exact K2 j oj t x h1 (hall j (List.getElem?_eq_some_iff.1 h1).1) h2 h3 h4 fun k ok hk _ hjk => h5 k ok hk hjk
  · exact K1 t x h2 fun j o hj _ => h1 j o hj
end
end GA
end

section
namespace GA
open Go Go.RowKit
set_option linter.unusedVariables false

structure XAnd (A B : Prop) : Prop where
  l : A
  r : B
def allF : Nat → List (List Bool)
  | 0 => [[]]
  | n + 1 => (allF n).flatMap fun l => [l ++ [false], l ++ [true]]
def sameF : List Bool → List Bool → Bool
  | [], [] => true
  | true :: l, true :: m => sameF l m
  | false :: l, false :: m => sameF l m
  | _, _ => false
theorem sameF_eq : ∀ {l m : List Bool}, sameF l m = true → l = m
  | [], [], _ => rfl
  | true :: l, true :: m, h => by rw [sameF_eq (l := l) (m := m) h]
  | false :: l, false :: m, h => by rw [sameF_eq (l := l) (m := m) h]
  | [], _ :: _, h => by cases h
  | _ :: _, [], h => by simp [sameF] at h
  | true :: _, false :: _, h => by cases h
  | false :: _, true :: _, h => by cases h
theorem allF_mem : ∀ {n : Nat} {fl : List Bool}, fl.length = n → fl ∈ allF n
  | 0, fl, h => by simp [allF, List.eq_nil_of_length_eq_zero h]
  | n + 1, fl, h => by
    have hne : fl ≠ [] := by intro e; rw [e] at h; simp at h
    have h1 : fl.dropLast ++ [fl.getLast hne] = fl := List.dropLast_concat_getLast hne
    have h2 := allF_mem (n := n) (fl := fl.dropLast) (by simp [h])
    simp only [allF, List.mem_flatMap]
    refine ⟨fl.dropLast, h2, ?_⟩
    cases hb : fl.getLast hne with
    | true => rw [hb] at h1; rw [h1]; simp
    | false => rw [hb] at h1; rw [h1]; simp

section
variable (P : Program) (T : Tab) (N : Nat) (own : List Nat) (ops : List Oper) (eff : List Nat) (HS : List Bool → List Blk)
def textF (i : Nat) : List Bool := eff.map fun j => Nat.blt j i
def ChkA : Nat → List Oper → List AV → St → Prop
  | _, [], [], _ => True
  | i, o :: l, r :: R, σ => XAnd (Chk P T own ops eff HS i o σ r (textF eff i)) (ChkA (i + 1) l R (putX N σ o.dst r))
  | _, _, _, _ => False
def ChkF (fl : List Bool) : Nat → List Oper → List AV → St → Prop
  | i, o :: l, r :: R, σ => match compat ops eff i fl && !sameF fl (textF eff i) with
    | true => XAnd (Chk P T own ops eff HS i o σ r fl) (ChkF fl (i + 1) l R (putX N σ o.dst r))
    | false => ChkF fl (i + 1) l R (putX N σ o.dst r)
  | _, _, _, _ => True
def ChkB (R : List AV) (σ : St) : List (List Bool) → Prop
  | [] => True
  | fl :: fls => XAnd (ChkF P T N own ops eff HS fl 0 ops R σ) (ChkB R σ fls)
end
section
variable {P : Program} {T : Tab} {N : Nat} {own : List Nat} {ops : List Oper} {eff : List Nat} {HS : List Bool → List Blk}
theorem ChkF.all : ∀ {l : List Oper} {R : List AV} {i : Nat} {σ : St}, ChkA P T N own ops eff HS i l R σ → (∀ fl, fl.length = eff.length → ChkF P T N own ops eff HS fl i l R σ) → ChkAll P T N own ops eff HS i l R σ
  | [], [], _, _, _, _ => trivial
  | o :: l, r :: R, i, σ, hA, hB => by
    refine ⟨fun fl hf hc => ?_, ChkF.all hA.r fun fl hf => ?_⟩
    · cases hs : sameF fl (textF eff i) with
      | true => rw [sameF_eq hs]; exact hA.l
      | false =>
        have := hB fl hf
        simp only [ChkF, hc, hs] at this
        exact this.l
    · have := hB fl hf
      simp only [ChkF] at this
      split at this
      · exact this.r
      · exact this
  | [], _ :: _, _, _, h, _ => h.elim
  | _ :: _, [], _, _, h, _ => h.elim
theorem ChkB.get {R : List AV} {σ : St} : ∀ {fls : List (List Bool)}, ChkB P T N own ops eff HS R σ fls → ∀ fl ∈ fls, ChkF P T N own ops eff HS fl 0 ops R σ
  | fl :: fls, h, f, hf => by
    rcases List.mem_cons.1 hf with rfl | hf
    · exact h.l
    · exact ChkB.get h.r f hf

def hsC (l : List (List Blk)) (fl : List Bool) : List Blk := match lget l (fl.countP id) with | some H => H | none => []
theorem Walk.drawX {ρ : Option Nat} {id : Nat} {Q : Post} {D : List Nat} {σ : St} {H : List Blk} (ok : TabOk P T) (hm : P.follows .mixedOrders = true) (own : List Nat) (eff : List Nat) (HS : List Bool → List Blk) (R : List AV) (hs : Region.lexB .any ops.toArray = true)
    (hH : HS (eff.map fun _ => false) = H) (hA : ChkA P T N own ops eff HS 0 ops R σ) (hB : ChkB P T N own ops eff HS R σ (allF eff.length)) (hk : Q .normal D (xFold N ops R σ) (HS (eff.map fun j => Nat.blt j ops.length))) : Walk P N ρ (.region id ops.toArray true) Q D σ H :=
  .draw ok hm own eff HS R hs hH (ChkF.all hA fun fl hf => hB.get fl (allF_mem hf)) hk
theorem ChkA.go {i : Nat} {l : List Oper} {R : List AV} {σ : St} (h : ChkA P T N own ops eff HS i l R σ) : ChkA P T N own ops eff HS i l R σ := h
theorem ChkF.go {fl : List Bool} {i : Nat} {l : List Oper} {R : List AV} {σ : St} (h : ChkF P T N own ops eff HS fl i l R σ) : ChkF P T N own ops eff HS fl i l R σ := h
theorem ChkB.go {R : List AV} {σ : St} {fls : List (List Bool)} (h : ChkB P T N own ops eff HS R σ fls) : ChkB P T N own ops eff HS R σ fls := h
theorem Chk.go {i : Nat} {o : Oper} {σ : St} {r : AV} {fl : List Bool} (h : Chk P T own ops eff HS i o σ r fl) : Chk P T own ops eff HS i o σ r fl := h
end
end GA
end

section
namespace GA
open Go Go.RowKit
set_option linter.unusedVariables false

section
variable {P : Program} {T : Tab} {N : Nat} {ρ : Option Nat} {D : List Nat} {σ : St} {H : List Blk} {Q : Post}

theorem AWp.loopG {c : Code} {G : Type} (st : G → St) (hp : G → List Blk) (μ : G → Nat) (g0 : G) (hσ : ∀ t r, st g0 t = some r → σ t = some r) (hH : hp g0 = H) (hD : D = [])
    (hlow : ∀ g, (∀ x ∈ hp g, x.low (hp g).length = true) ∧ ∀ t r, st g t = some r → r.low (hp g).length = true) (hlen : ∀ g, (hp g0).length ≤ (hp g).length)
    (round : ∀ g, AWp P N ρ c (thenQ (fun D' σ' H' => D' = D ∧ ∃ g' l, μ g' < μ g ∧ hp g' ++ l = H' ∧ ∀ t r, st g' t = some r → σ' t = some r) Q) D (st g) (hp g)) : AWp P N ρ (.loop c) Q D σ H := by
  intro E h β a w s
  subst hH; subst hD
  let I : G → Act → World → Prop := fun g a w => ∃ h' β', Ext h β (hp g0) h' β' (hp g) ∧ Stands P E N h' β' [] (st g) (hp g) a w
  have least : ∀ a w, (∃ g, I g a w) → ∃ n, (∃ g, I g a w ∧ μ g = n) ∧ ∀ m, m < n → ¬ ∃ g, I g a w ∧ μ g = m :=
    fun a w ⟨g, hg⟩ => exists_least ⟨μ g, g, hg, rfl⟩
  classical
  let M : Act → World → Nat := fun a w => if e : ∃ g, I g a w then Classical.choose (least a w e) else 0
  have hM : ∀ a w (e : ∃ g, I g a w), (∃ g, I g a w ∧ μ g = M a w) ∧ ∀ g, I g a w → M a w ≤ μ g := by
    intro a w e
    have hc := Classical.choose_spec (least a w e)
    have hm : M a w = Classical.choose (least a w e) := by simp only [M, dif_pos e]
    rw [hm]
    refine ⟨hc.1, fun g hg => ?_⟩
    rcases Nat.lt_or_ge (μ g) (Classical.choose (least a w e)) with hlt | hge
    · exact absurd ⟨g, hg, rfl⟩ (hc.2 _ hlt)
    · exact hge
  refine wpIn_loop (fun a w => ∃ g, I g a w) M ⟨g0, h, β, Ext.refl _ _ _, s.sr, fun t r e => s.fits t r (hσ t r e), s.size, s.df⟩ ?_
  intro a' w' hI
  obtain ⟨⟨g, hg, hmu⟩, _⟩ := hM a' w' hI
  obtain ⟨h', β', X, s'⟩ := hg
  refine wpIn_mono (round g E h' β' a' w' s') ?_
  rintro e a'' w'' ⟨D'', σ'', H'', h'', β'', q, X', s''⟩
  cases e with
  | normal =>
    obtain ⟨rfl, g', l, hlt, rfl, hsub⟩ := q
    have hI' : I g' a'' w'' := by
      refine ⟨h'', β'', (X.trans X').cut (hlen g'), s''.sr.cut (hlow g').1, fun t r e => ?_, s''.size, s''.df.any⟩
      obtain ⟨v, h1, h2⟩ := s''.fits t r (hsub t r e)
      exact ⟨v, h1, h2.cut ((hlow g').2 t r e)⟩
    refine ⟨⟨g', hI'⟩, ?_⟩
    have := (hM a'' w'' ⟨g', hI'⟩).2 g' hI'
    omega
  | _ => exact ⟨D'', σ'', H'', h'', β'', q, X.trans X', s''⟩

structure XAgainG {G : Type} (I : G → Prop) (L : G → List (Nat × AV)) (hp : G → List Blk) (μ : G → Nat) (g : G) (D' : List Nat) (σ' : St) (H' : List Blk) : Prop where
  d : D' = []
  o : ∃ g' l, I g' ∧ μ g' < μ g ∧ hp g' ++ l = H' ∧ SubX (L g') σ'
theorem Walk.loopG {c : Code} {G : Type} (ok : TabOk P T) (own : List Nat) (I : G → Prop) (L : G → List (Nat × AV)) (hp : G → List Blk) (μ : G → Nat) (g0 : G) (h0 : I g0) (hH : hp g0 = H) (hs : SubX (L g0) σ)
    (hlow : ∀ g, I g → (∀ x ∈ hp g, x.low (hp g).length = true) ∧ ∀ p ∈ L g, p.2.low (hp g).length = true) (hlen : ∀ g, I g → (hp g0).length ≤ (hp g).length)
    (round : ∀ g, I g → XRun P T N ρ own c (thenQ (XAgainG I L hp μ g) Q) [] (stX (L g)) (hp g)) : Walk P N ρ (.loop c) Q [] σ H := by
  constructor
  have hst : ∀ (l : List (Nat × AV)) t r, stX l t = some r → (t, r) ∈ l := by
    intro l; induction l with
    | nil => intro t r h; cases h
    | cons p l ih =>
      obtain ⟨u, x⟩ := p
      intro t r h; simp only [stX, updX_eq, upd] at h
      split at h
      · rename_i e; cases h; subst e; exact List.mem_cons_self
      · exact List.mem_cons_of_mem _ (ih t r h)
  refine AWp.loopG (G := {g : G // I g}) (fun g => stX (L g.1)) (fun g => hp g.1) (fun g => μ g.1) ⟨g0, h0⟩ (stX_sub hs) hH rfl (fun g => ⟨(hlow g.1 g.2).1, fun t r e => (hlow g.1 g.2).2 (t, r) (hst _ _ _ e)⟩) (fun g => hlen g.1 g.2) fun g => ?_
  refine (XRun.sound ok (round g.1 g.2)).mono fun e D' σ' H' q => ?_
  cases e with
  | normal => obtain ⟨h1, g', l, h2, h3, h4, h5⟩ := q; exact ⟨h1, ⟨g', h2⟩, l, h3, h4, stX_sub h5⟩
  | _ => exact q
theorem XAgainG.go {G : Type} {I : G → Prop} {L : G → List (Nat × AV)} {hp : G → List Blk} {μ : G → Nat} {g : G} (g' : G) (l : List Blk) (h1 : I g') (h2 : μ g' < μ g) (h3 : hp g' ++ l = H) (h4 : SubX (L g') σ) : XAgainG I L hp μ g [] σ H := ⟨rfl, g', l, h1, h2, h3, h4⟩
end
end GA
end

section
namespace GA
open Go Go.RowKit
set_option linter.unusedVariables false

mutual
def AV.ren (ρ : Nat → Nat) : AV → AV
  | .ptr i o => .ptr (ρ i) o
  | .gr i n => .gr (ρ i) n
  | .gp i n e o => .gp (ρ i) n e o
  | .os i m o n => .os (ρ i) m o n
  | .mp i => .mp (ρ i)
  | .yld i => .yld (ρ i)
  | .pim cs => .pim (renL ρ cs)
  | .sl nl cs => .sl nl (renL ρ cs)
  | .fn f cs => .fn f (renL ρ cs)
  | .bf f cs => .bf f (renL ρ cs)
  | .agg cs => .agg (renL ρ cs)
  | .tup cs => .tup (renL ρ cs)
  | .im ks cs => .im ks (renL ρ cs)
  | .bool b => .bool b
  | .int k n => .int k n
  | .nilp => .nilp
  | .se => .se
  | .nilm => .nilm
  | .nilf => .nilf
def renL (ρ : Nat → Nat) : List AV → List AV
  | [] => []
  | x :: l => x.ren ρ :: renL ρ l
end
theorem renL_eq (ρ : Nat → Nat) : ∀ l : List AV, renL ρ l = l.map (AV.ren ρ)
  | [] => rfl
  | x :: l => by rw [renL, renL_eq ρ l]; rfl
def Blk.ren (ρ : Nat → Nat) : Blk → Blk
  | .dead => .dead
  | .free => .free
  | .cells cs => .cells (renL ρ cs)
  | .grow t nl els => .grow t nl (renL ρ els)
  | .map es => .map (es.map fun p => (p.1, p.2.ren ρ))
  | .pm es => .pm (es.map fun p => (p.1, p.2.ren ρ))
  | .raw o => .raw o
  | .lp st pend f tm ps x y n => .lp st pend f (tm.map fun p => (p.1, p.2.ren ρ)) ps x y n

theorem AV.ren_one (ρ : Nat → Nat) (a : AV) : (a.ren ρ).one = a.one := by cases a <;> rfl
theorem AV.ren_cells (ρ : Nat → Nat) (a : AV) : (a.ren ρ).cells = a.cells.map (AV.ren ρ) := by
  cases a <;> first | rfl | (simp only [AV.ren, AV.cells, renL_eq]; rfl) | simp only [AV.ren, AV.cells, renL_eq]
theorem flat_ren (ρ : Nat → Nat) (l : List AV) : flat (l.map (AV.ren ρ)) = (flat l).map (AV.ren ρ) := by
  induction l with
  | nil => rfl
  | cons x l ih =>
    simp only [flat, List.map_cons, List.flatMap_cons, List.map_append] at ih ⊢
    rw [ih, AV.ren_cells]
theorem Blk.ren_free (ρ : Nat → Nat) (x : Blk) : (x.ren ρ).isFree = x.isFree := by cases x <;> rfl
theorem Blk.ren_rec (ρ : Nat → Nat) (x : Blk) : (x.ren ρ).isRec = x.isRec := by cases x <;> rfl
theorem Blk.ren_isMap (ρ : Nat → Nat) (x : Blk) : (x.ren ρ).isMap = x.isMap := by cases x <;> rfl

theorem AV.ren_low {ρ : Nat → Nat} {n : Nat} (h : ∀ i, i < n → ρ i = i) : ∀ {a : AV}, a.low n = true → a.ren ρ = a := by
  intro a
  refine AV.rec (motive_1 := fun a => a.low n = true → a.ren ρ = a) (motive_2 := fun l => lowL n l = true → renL ρ l = l) ?_ ?_ ?_ ?_ ?_ ?_ ?_ ?_ ?_ ?_ ?_ ?_ ?_ ?_ ?_ ?_ ?_ ?_ ?_ ?_ ?_ a
  all_goals try (intros; rfl)
  · intro i o hl; simp only [AV.low, decide_eq_true_eq] at hl; rw [AV.ren, h i hl]
  · intro cs ih hl; rw [AV.ren, ih hl]
  · intro nl cs ih hl; rw [AV.ren, ih hl]
  · intro i o hl; simp only [AV.low, decide_eq_true_eq] at hl; rw [AV.ren, h i hl]
  · intro i o e f hl; simp only [AV.low, decide_eq_true_eq] at hl; rw [AV.ren, h i hl]
  · intro i hl; simp only [AV.low, decide_eq_true_eq] at hl; rw [AV.ren, h i hl]
  · intro f cs ih hl; rw [AV.ren, ih hl]
  · intro f cs ih hl; rw [AV.ren, ih hl]
  · intro i m o n hl; simp only [AV.low, decide_eq_true_eq] at hl; rw [AV.ren, h i hl]
  · intro i hl; simp only [AV.low, decide_eq_true_eq] at hl; rw [AV.ren, h i hl]
  · intro cs ih hl; rw [AV.ren, ih hl]
  · intro cs ih hl; rw [AV.ren, ih hl]
  · intro ks cs ih hl; rw [AV.ren, ih hl]
  · intro x l ih1 ih2 hl; simp only [lowL, Bool.and_eq_true] at hl; rw [renL, ih1 hl.1, ih2 hl.2]
theorem renL_low {ρ : Nat → Nat} {n : Nat} (h : ∀ i, i < n → ρ i = i) {l : List AV} (hl : lowL n l = true) : renL ρ l = l := by
  have := AV.ren_low h (a := .agg l) hl
  simpa [AV.ren] using this
theorem AV.ren_low0 {ρ : Nat → Nat} {a : AV} (hl : a.low 0 = true) : a.ren ρ = a := AV.ren_low (n := 0) (fun i hi => by omega) hl
theorem renL_low0 {ρ : Nat → Nat} {l : List AV} (hl : lowL 0 l = true) : renL ρ l = l := renL_low (n := 0) (fun i hi => by omega) hl

structure Ren (ρ : Nat → Nat) (β1 : Nat → Value) (H1 : List Blk) (β : Nat → Value) (H : List Blk) : Prop where
  m : ∀ (i : Nat) x1, H1[i]? = some x1 → H[ρ i]? = some (x1.ren ρ)
  b : ∀ i, i < H1.length → β (ρ i) = β1 i

section
variable {P : Program} {E : Env} {h : Nat → Option Obj} {β β1 : Nat → Value} {H H1 : List Blk} {w : World} {ρ : Nat → Nat}

theorem Ren.live (R : Ren ρ β1 H1 β H) {i : Nat} (l : live H1 i) : live H (ρ i) := let ⟨x, h1, h2⟩ := l; ⟨x.ren ρ, R.m i x h1, by rw [Blk.ren_free]; exact h2⟩
theorem Ren.unlive (R : Ren ρ β1 H1 β H) {i : Nat} (l : GA.live H (ρ i)) (hi : i < H1.length) : GA.live H1 i := by
  obtain ⟨x, h1, h2⟩ := l
  have h3 := R.m i _ (List.getElem?_eq_getElem hi)
  rw [h3] at h1; cases h1
  exact ⟨_, List.getElem?_eq_getElem hi, by rw [Blk.ren_free] at h2; exact h2⟩

theorem Ren.rep (R : Ren ρ β1 H1 β H) {a : AV} {v : Value} (x : Rep P h β1 H1 a v) : Rep P h β H (a.ren ρ) v := by
  induction x with
  | bool b => exact .bool b
  | int k n => exact .int k n
  | nilp => exact .nilp
  | @ptr i o b hi hb =>
    refine .ptr (R.live hi) fun cs e => ?_
    obtain ⟨x, hx, hf⟩ := hi
    rw [R.m i x hx] at e; rw [R.b i (List.getElem?_eq_some_iff.1 hx).1]
    cases x <;> simp only [Blk.ren, Option.some.injEq, reduceCtorEq] at e
    exact hb _ hx
  | pim us hone hb hc _ ih =>
    rw [AV.ren, renL_eq]
    refine .pim us (fun x hx => ?_) hb (fun j x e => ?_) (fun j x e => ?_)
    · obtain ⟨y, hy, rfl⟩ := List.mem_map.1 hx; rw [AV.ren_one]; exact hone y hy
    · rw [List.getElem?_map] at e; cases hq : ‹List AV›[j]? with | none => simp [hq] at e | some y => exact hc j y hq
    · rw [List.getElem?_map] at e
      cases hq : ‹List AV›[j]? with
      | none => simp [hq] at e
      | some y => simp only [hq, Option.map_some, Option.some.injEq] at e; subst e; exact ih j y hq
  | slnil => exact .slnil
  | slemp => exact .slemp
  | @sl b off cap c t fz els w n us hn hne hb hw hw0 hone hcap hc _ ih =>
    rw [AV.ren, renL_eq]
    refine .sl (w := w) us (by rw [List.length_map]; exact hn) (by simpa using hne) hb (fun e he => ?_) hw0 (fun x hx => ?_) (by rw [List.length_map]; exact hcap) (fun j x e => ?_) (fun j x e => ?_)
    · obtain ⟨y, hy, rfl⟩ := List.mem_map.1 he; rw [AV.ren_cells, List.length_map]; exact hw y hy
    · rw [flat_ren] at hx; obtain ⟨y, hy, rfl⟩ := List.mem_map.1 hx; rw [AV.ren_one]; exact hone y hy
    · rw [flat_ren, List.getElem?_map] at e; cases hq : (flat els)[j]? with | none => simp [hq] at e | some y => exact hc j y hq
    · rw [flat_ren, List.getElem?_map] at e
      cases hq : (flat els)[j]? with
      | none => simp [hq] at e
      | some y => simp only [hq, Option.map_some, Option.some.injEq] at e; subst e; exact ih j y hq
  | se => exact .se
  | @gr i n v ho hi hv =>
    refine .gr ho (R.live hi) fun t nl els e => ?_
    obtain ⟨x, hx, hf⟩ := hi
    rw [R.m i x hx] at e; rw [R.b i (List.getElem?_eq_some_iff.1 hx).1]
    cases x <;> simp only [Blk.ren, Option.some.injEq, Blk.grow.injEq, reduceCtorEq] at e
    obtain ⟨rfl, rfl, rfl⟩ := e
    rw [renL_eq, List.length_map]; exact hv _ _ _ hx
  | @gp i n e o b q hi hv =>
    refine .gp (R.live hi) fun t nl els e => ?_
    obtain ⟨x, hx, hf⟩ := hi
    rw [R.m i x hx] at e; rw [R.b i (List.getElem?_eq_some_iff.1 hx).1]
    cases x <;> simp only [Blk.ren, Option.some.injEq, Blk.grow.injEq, reduceCtorEq] at e
    obtain ⟨rfl, rfl, rfl⟩ := e
    rw [renL_eq, List.length_map]; exact hv _ _ _ hx
  | nilm => exact .nilm
  | @mp i r hi hb =>
    refine .mp (R.live hi) fun y e hy => ?_
    obtain ⟨x, hx, hf⟩ := hi
    rw [R.m i x hx] at e; rw [R.b i (List.getElem?_eq_some_iff.1 hx).1]
    cases e
    rw [Blk.ren_isMap] at hy
    exact hb _ hx hy
  | nilf => exact .nilf
  | @yld i b hi hb =>
    refine .yld (R.live hi) fun y e hy => ?_
    obtain ⟨x, hx, hf⟩ := hi
    rw [R.m i x hx] at e; rw [R.b i (List.getElem?_eq_some_iff.1 hx).1]
    cases e
    rw [Blk.ren_rec] at hy
    exact hb _ hx hy
  | @fn f caps vs us hs hc _ ih =>
    rw [AV.ren, renL_eq]
    refine .fn us (by rw [List.length_map]; exact hs) (fun j x e => ?_) (fun j x e => ?_)
    · rw [List.getElem?_map] at e; cases hq : caps[j]? with | none => simp [hq] at e | some y => exact hc j y hq
    · rw [List.getElem?_map] at e
      cases hq : caps[j]? with
      | none => simp [hq] at e
      | some y => simp only [hq, Option.map_some, Option.some.injEq] at e; subst e; exact ih j y hq
  | @bf f caps vs us hs hc _ ih =>
    rw [AV.ren, renL_eq]
    refine .bf us (by rw [List.length_map]; exact hs) (fun j x e => ?_) (fun j x e => ?_)
    · rw [List.getElem?_map] at e; cases hq : caps[j]? with | none => simp [hq] at e | some y => exact hc j y hq
    · rw [List.getElem?_map] at e
      cases hq : caps[j]? with
      | none => simp [hq] at e
      | some y => simp only [hq, Option.map_some, Option.some.injEq] at e; subst e; exact ih j y hq
  | @os i m o n b q cap hi hn hc hg hz =>
    obtain ⟨x, hx, hf⟩ := id hi
    refine .os (R.live hi) hn (fun cs e hne => ?_) (fun t nl els e => ?_) fun ho t nl els e hlen => ?_
    · rw [R.m i x hx] at e; rw [R.b i (List.getElem?_eq_some_iff.1 hx).1]
      cases x <;> simp only [Blk.ren, Option.some.injEq, reduceCtorEq] at e
      exact hc _ hx hne
    · rw [R.m i x hx] at e; rw [R.b i (List.getElem?_eq_some_iff.1 hx).1]
      cases x <;> simp only [Blk.ren, Option.some.injEq, Blk.grow.injEq, reduceCtorEq] at e
      obtain ⟨rfl, rfl, rfl⟩ := e
      rw [renL_eq, List.length_map]; exact hg _ _ _ hx
    · rw [R.m i x hx] at e; rw [R.b i (List.getElem?_eq_some_iff.1 hx).1]
      cases x <;> simp only [Blk.ren, Option.some.injEq, Blk.grow.injEq, reduceCtorEq] at e
      obtain ⟨rfl, rfl, rfl⟩ := e
      rw [renL_eq, List.length_map] at hlen; exact hz ho _ _ _ hx hlen
  | @agg caps vs us hs hone hc _ ih =>
    rw [AV.ren, renL_eq]
    refine .agg us (by rw [List.length_map]; exact hs) (fun x hx => ?_) (fun j x e => ?_) (fun j x e => ?_)
    · obtain ⟨y, hy, rfl⟩ := List.mem_map.1 hx; rw [AV.ren_one]; exact hone y hy
    · rw [List.getElem?_map] at e; cases hq : caps[j]? with | none => simp [hq] at e | some y => exact hc j y hq
    · rw [List.getElem?_map] at e
      cases hq : caps[j]? with
      | none => simp [hq] at e
      | some y => simp only [hq, Option.map_some, Option.some.injEq] at e; subst e; exact ih j y hq
  | @tup caps vs us hs hc _ ih =>
    rw [AV.ren, renL_eq]
    refine .tup us (by rw [List.length_map]; exact hs) (fun j x e => ?_) (fun j x e => ?_)
    · rw [List.getElem?_map] at e; cases hq : caps[j]? with | none => simp [hq] at e | some y => exact hc j y hq
    · rw [List.getElem?_map] at e
      cases hq : caps[j]? with
      | none => simp [hq] at e
      | some y => simp only [hq, Option.map_some, Option.some.injEq] at e; subst e; exact ih j y hq
  | @im ks vs r ents clock us h0 h1 h2 h3 h4 _ ih =>
    rw [AV.ren, renL_eq]
    refine .im us h0 (by rw [List.length_map]; exact h1) h2 h3 (fun j q x e1 e2 => ?_) (fun j x e => ?_)
    · rw [List.getElem?_map] at e2; cases hq : vs[j]? with | none => simp [hq] at e2 | some y => exact h4 j q y e1 hq
    · rw [List.getElem?_map] at e
      cases hq : vs[j]? with
      | none => simp [hq] at e
      | some y => simp only [hq, Option.map_some, Option.some.injEq] at e; subst e; exact ih j y hq

theorem lowL_get {n : Nat} {l : List AV} (hl : lowL n l = true) {j : Nat} {x : AV} (e : l[j]? = some x) : x.low n = true := lowL_iff.1 hl x (List.mem_of_getElem? e)
theorem map_get {l : List AV} {j : Nat} {x : AV} (e : l[j]? = some x) : (l.map (AV.ren ρ))[j]? = some (x.ren ρ) := by rw [List.getElem?_map, e]; rfl

theorem Ren.unrep (R : Ren ρ β1 H1 β H) {r : AV} {v : Value} (x : Rep P h β H r v) : ∀ {a : AV}, a.ren ρ = r → a.low H1.length = true → Rep P h β1 H1 a v := by
  induction x with
  | bool b => intro a e hl; cases a <;> simp only [AV.ren, AV.bool.injEq, reduceCtorEq] at e; subst e; exact .bool _
  | int k n => intro a e hl; cases a <;> simp only [AV.ren, AV.int.injEq, reduceCtorEq] at e; obtain ⟨rfl, rfl⟩ := e; exact .int _ _
  | nilp => intro a e hl; cases a <;> simp only [AV.ren, reduceCtorEq] at e; exact .nilp
  | @ptr i o b hi hb =>
    intro a e hl; cases a <;> simp only [AV.ren, AV.ptr.injEq, reduceCtorEq] at e
    rename_i i0 o0
    obtain ⟨rfl, rfl⟩ := e
    simp only [AV.low, decide_eq_true_eq] at hl
    refine .ptr (R.unlive hi hl) fun cs e => ?_
    rw [← R.b i0 hl]; exact hb _ (R.m _ _ e)
  | @pim b off c t fz cs us hone hb hc _ ih =>
    intro a e hl; cases a <;> simp only [AV.ren, AV.pim.injEq, reduceCtorEq] at e
    rename_i cs0
    rw [renL_eq] at e; subst e
    refine .pim us (fun x hx => ?_) hb (fun j x e => ?_) (fun j x e => ?_)
    · rw [← AV.ren_one ρ]; exact hone _ (List.mem_map.2 ⟨x, hx, rfl⟩)
    · exact hc j _ (map_get e)
    · exact ih j _ (map_get e) rfl (lowL_get hl e)
  | slnil => intro a e hl; cases a <;> simp only [AV.ren, AV.sl.injEq, reduceCtorEq] at e; obtain ⟨rfl, e⟩ := e; rw [renL_eq, List.map_eq_nil_iff] at e; subst e; exact .slnil
  | slemp => intro a e hl; cases a <;> simp only [AV.ren, AV.sl.injEq, reduceCtorEq] at e; obtain ⟨rfl, e⟩ := e; rw [renL_eq, List.map_eq_nil_iff] at e; subst e; exact .slemp
  | @sl b off cap c t fz els w n us hn hne hb hw hw0 hone hcap hc _ ih =>
    intro a e hl; cases a <;> simp only [AV.ren, AV.sl.injEq, reduceCtorEq] at e
    rename_i nl cs0
    obtain ⟨rfl, e⟩ := e
    rw [renL_eq] at e; subst e
    rw [List.length_map] at hn hcap
    rw [flat_ren] at hone hc
    refine .sl (w := w) us hn (by simpa using hne) hb (fun e he => ?_) hw0 (fun x hx => ?_) hcap (fun j x e => hc j _ (map_get e)) (fun j x e => ?_)
    · have := hw _ (List.mem_map.2 ⟨e, he, rfl⟩); rwa [AV.ren_cells, List.length_map] at this
    · rw [← AV.ren_one ρ]; exact hone _ (List.mem_map.2 ⟨x, hx, rfl⟩)
    · exact ih j _ (by rw [flat_ren]; exact map_get e) rfl (low_flat.1 hl x (List.mem_of_getElem? e))
  | se => intro a e hl; cases a <;> simp only [AV.ren, reduceCtorEq] at e; exact .se
  | @gr i n v ho hi hv =>
    intro a e hl; cases a <;> simp only [AV.ren, AV.gr.injEq, reduceCtorEq] at e
    rename_i i0 o0
    obtain ⟨rfl, rfl⟩ := e
    simp only [AV.low, decide_eq_true_eq] at hl
    refine .gr ho (R.unlive hi hl) fun t nl els e => ?_
    rw [← R.b i0 hl]; have := hv _ _ _ (R.m _ _ e); rwa [renL_eq, List.length_map] at this
  | @gp i n e o b q hi hv =>
    intro a e hl; cases a <;> simp only [AV.ren, AV.gp.injEq, reduceCtorEq] at e
    rename_i i0 n0 e0 o0
    obtain ⟨rfl, rfl, rfl, rfl⟩ := e
    simp only [AV.low, decide_eq_true_eq] at hl
    refine .gp (R.unlive hi hl) fun t nl els e => ?_
    rw [← R.b i0 hl]; have := hv _ _ _ (R.m _ _ e); rwa [renL_eq, List.length_map] at this
  | nilm => intro a e hl; cases a <;> simp only [AV.ren, reduceCtorEq] at e; exact .nilm
  | @mp i r hi hb =>
    intro a e hl; cases a <;> simp only [AV.ren, AV.mp.injEq, reduceCtorEq] at e
    subst e
    simp only [AV.low, decide_eq_true_eq] at hl
    refine .mp (R.unlive hi hl) fun x e hx => ?_
    rw [← R.b _ hl]; exact hb _ (R.m _ _ e) (by rw [Blk.ren_isMap]; exact hx)
  | nilf => intro a e hl; cases a <;> simp only [AV.ren, reduceCtorEq] at e; exact .nilf
  | @yld i b hi hb =>
    intro a e hl; cases a <;> simp only [AV.ren, AV.yld.injEq, reduceCtorEq] at e
    subst e
    simp only [AV.low, decide_eq_true_eq] at hl
    refine .yld (R.unlive hi hl) fun x e hx => ?_
    rw [← R.b _ hl]; exact hb _ (R.m _ _ e) (by rw [Blk.ren_rec]; exact hx)
  | @fn f caps vs us hs hc _ ih =>
    intro a e hl; cases a <;> simp only [AV.ren, AV.fn.injEq, reduceCtorEq] at e
    rename_i f0 cs0
    obtain ⟨rfl, e⟩ := e
    rw [renL_eq] at e; subst e
    exact .fn us (by rw [hs, List.length_map]) (fun j x e => hc j _ (map_get e)) (fun j x e => ih j _ (map_get e) rfl (lowL_get hl e))
  | @bf f caps vs us hs hc _ ih =>
    intro a e hl; cases a <;> simp only [AV.ren, AV.bf.injEq, reduceCtorEq] at e
    rename_i f0 cs0
    obtain ⟨rfl, e⟩ := e
    rw [renL_eq] at e; subst e
    exact .bf us (by rw [hs, List.length_map]) (fun j x e => hc j _ (map_get e)) (fun j x e => ih j _ (map_get e) rfl (lowL_get hl e))
  | @os i m o n b q cap hi hn hc hg hz =>
    intro a e hl; cases a <;> simp only [AV.ren, AV.os.injEq, reduceCtorEq] at e
    rename_i i0 m0 o0 n0
    obtain ⟨rfl, rfl, rfl, rfl⟩ := e
    simp only [AV.low, decide_eq_true_eq] at hl
    refine .os (R.unlive hi hl) hn (fun cs e hne => ?_) (fun t nl els e => ?_) fun ho t nl els e hlen => ?_
    · rw [← R.b i0 hl]; exact hc _ (R.m _ _ e) hne
    · rw [← R.b i0 hl]; have := hg _ _ _ (R.m _ _ e); rwa [renL_eq, List.length_map] at this
    · rw [← R.b i0 hl]; have := hz ho _ _ _ (R.m _ _ e); rw [renL_eq, List.length_map] at this; exact this hlen
  | @agg caps vs us hs hone hc _ ih =>
    intro a e hl; cases a <;> simp only [AV.ren, AV.agg.injEq, reduceCtorEq] at e
    rename_i cs0
    rw [renL_eq] at e; subst e
    exact .agg us (by rw [hs, List.length_map]) (fun x hx => by rw [← AV.ren_one ρ]; exact hone _ (List.mem_map.2 ⟨x, hx, rfl⟩)) (fun j x e => hc j _ (map_get e)) (fun j x e => ih j _ (map_get e) rfl (lowL_get hl e))
  | @tup caps vs us hs hc _ ih =>
    intro a e hl; cases a <;> simp only [AV.ren, AV.tup.injEq, reduceCtorEq] at e
    rename_i cs0
    rw [renL_eq] at e; subst e
    exact .tup us (by rw [hs, List.length_map]) (fun j x e => hc j _ (map_get e)) (fun j x e => ih j _ (map_get e) rfl (lowL_get hl e))
  | @im ks vs r ents clock us h0 h1 h2 h3 h4 _ ih =>
    intro a e hl; cases a <;> simp only [AV.ren, AV.im.injEq, reduceCtorEq] at e
    rename_i ks0 cs0
    obtain ⟨rfl, e⟩ := e
    rw [renL_eq] at e; subst e
    rw [List.length_map] at h1
    exact .im us h0 h1 h2 h3 (fun j q x e1 e2 => h4 j q _ e1 (map_get e2)) (fun j x e => ih j _ (map_get e) rfl (lowL_get hl e))

theorem Ren.cells (R : Ren ρ β1 H1 β H) {cs : List AV} {c : Array Value} (k : CellsOk P h β1 H1 cs c) : CellsOk P h β H (cs.map (AV.ren ρ)) c := by
  obtain ⟨us, a, b⟩ := k
  refine ⟨us, fun j x e => ?_, fun j x e => ?_⟩ <;> (rw [List.getElem?_map] at e; cases hq : cs[j]? with | none => simp [hq] at e | some y => ?_)
  · exact a j y hq
  · simp only [hq, Option.map_some, Option.some.injEq] at e; subst e; exact R.rep (b j y hq)
theorem Ren.uncells (R : Ren ρ β1 H1 β H) {cs : List AV} {c : Array Value} (hl : lowL H1.length cs = true) (k : CellsOk P h β H (cs.map (AV.ren ρ)) c) : CellsOk P h β1 H1 cs c := by
  obtain ⟨us, a, b⟩ := k
  exact ⟨us, fun j x e => a j _ (map_get e), fun j x e => R.unrep (b j _ (map_get e)) rfl (lowL_get hl e)⟩

theorem Ren.blk (R : Ren ρ β1 H1 β H) {heap : Array Obj} {i : Nat} (hi : i < H1.length) {x : Blk} (k : BlkOk P h β1 H1 heap i x) : BlkOk P h β H heap (ρ i) (x.ren ρ) := by
  have hb := R.b i hi
  cases x with
  | dead => trivial
  | free => trivial
  | cells cs =>
    obtain ⟨b, c, t, h1, h2, h3, h4, h5⟩ := k
    rw [Blk.ren, renL_eq]
    refine ⟨b, c, t, hb.trans h1, h2, by rw [h3, List.length_map], fun x hx => ?_, R.cells h5⟩
    obtain ⟨y, hy, rfl⟩ := List.mem_map.1 hx; rw [AV.ren_one]; exact h4 y hy
  | grow t nl els =>
    rw [Blk.ren, renL_eq]
    rcases k with ⟨h1, h2, h3⟩ | ⟨h1, h2, a, h3⟩ | ⟨h1, b, cap, c, h2, h3, h4, h5, h6, h7, h8, h9, h10, h11⟩
    · exact .inl ⟨h1, by rw [h2]; rfl, hb.trans h3⟩
    · exact .inr (.inl ⟨h1, by rw [h2]; rfl, a, hb.trans h3⟩)
    · refine .inr (.inr ⟨h1, b, cap, c, by rw [hb, h2, List.length_map], h3, h4, by rw [List.length_map]; exact h5, h6, h7, h8, fun e he => ?_, fun x hx => ?_, by rw [flat_ren]; exact R.cells h11⟩)
      · obtain ⟨y, hy, rfl⟩ := List.mem_map.1 he; rw [AV.ren_cells, List.length_map]; exact h9 y hy
      · rw [flat_ren] at hx; obtain ⟨y, hy, rfl⟩ := List.mem_map.1 hx; rw [AV.ren_one]; exact h10 y hy
  | map es =>
    obtain ⟨r, ents, clock, h1, h2, h3, h4, us, h5⟩ := k
    refine ⟨r, ents, clock, hb.trans h1, h2, ?_, by rw [h4, List.length_map], us, fun j q x e => ?_⟩
    · rw [List.map_map]; exact h3
    · rw [List.getElem?_map] at e
      cases hq : es[j]? with
      | none => simp [hq] at e
      | some y =>
        obtain ⟨a, b⟩ := y
        simp only [hq, Option.map_some, Option.some.injEq, Prod.mk.injEq] at e
        obtain ⟨rfl, rfl⟩ := e
        obtain ⟨h6, h7⟩ := h5 j _ _ hq
        exact ⟨R.rep h6, h7⟩
  | pm es =>
    obtain ⟨r, ents, clock, h1, h2, h3, h4, us, h5⟩ := k
    refine ⟨r, ents, clock, hb.trans h1, h2, ?_, by rw [h4, List.length_map], us, fun j q x e => ?_⟩
    · rw [List.map_map]; exact h3
    · rw [List.getElem?_map] at e
      cases hq : es[j]? with
      | none => simp [hq] at e
      | some y =>
        obtain ⟨a, b⟩ := y
        simp only [hq, Option.map_some, Option.some.injEq, Prod.mk.injEq] at e
        obtain ⟨rfl, rfl⟩ := e
        obtain ⟨h6, h7⟩ := h5 j _ _ hq
        exact ⟨R.rep h6, h7⟩
  | raw o => obtain ⟨b, h1, h2⟩ := k; exact ⟨b, hb.trans h1, h2⟩
  | lp st pend f tm ps x y n =>
    obtain ⟨b, dfr, tmps, h1, h2, h3, h4⟩ := k
    refine ⟨b, dfr, tmps, hb.trans h1, h2, h3, fun t r e => ?_⟩
    obtain ⟨⟨t', r'⟩, hm, he⟩ := List.mem_map.1 e
    simp only [Prod.mk.injEq] at he; obtain ⟨rfl, rfl⟩ := he
    obtain ⟨v, h5, h6⟩ := h4 _ _ hm
    exact ⟨v, h5, R.rep h6⟩

theorem Ren.unblk (R : Ren ρ β1 H1 β H) {heap : Array Obj} {i : Nat} (hi : i < H1.length) {x : Blk} (hl : x.low H1.length = true) (k : BlkOk P h β H heap (ρ i) (x.ren ρ)) : BlkOk P h β1 H1 heap i x := by
  have hb := R.b i hi
  cases x with
  | dead => trivial
  | free => trivial
  | cells cs =>
    rw [Blk.ren, renL_eq] at k
    obtain ⟨b, c, t, h1, h2, h3, h4, h5⟩ := k
    exact ⟨b, c, t, hb.symm.trans h1, h2, by rw [h3, List.length_map], fun x hx => by rw [← AV.ren_one ρ]; exact h4 _ (List.mem_map.2 ⟨x, hx, rfl⟩), R.uncells hl h5⟩
  | grow t nl els =>
    rw [Blk.ren, renL_eq] at k
    rcases k with ⟨h1, h2, h3⟩ | ⟨h1, h2, a, h3⟩ | ⟨h1, b, cap, c, h2, h3, h4, h5, h6, h7, h8, h9, h10, h11⟩
    · exact .inl ⟨h1, List.map_eq_nil_iff.1 h2, hb.symm.trans h3⟩
    · exact .inr (.inl ⟨h1, List.map_eq_nil_iff.1 h2, a, hb.symm.trans h3⟩)
    · rw [List.length_map] at h2 h5
      rw [flat_ren] at h10 h11
      refine .inr (.inr ⟨h1, b, cap, c, hb.symm.trans h2, h3, h4, h5, h6, h7, h8, fun e he => ?_, fun x hx => ?_, R.uncells ?_ h11⟩)
      · have := h9 _ (List.mem_map.2 ⟨e, he, rfl⟩); rwa [AV.ren_cells, List.length_map] at this
      · rw [← AV.ren_one ρ]; exact h10 _ (List.mem_map.2 ⟨x, hx, rfl⟩)
      · exact lowL_iff.2 (low_flat.1 hl)
  | map es =>
    obtain ⟨r, ents, clock, h1, h2, h3, h4, us, h5⟩ := k
    refine ⟨r, ents, clock, hb.symm.trans h1, h2, ?_, by rw [h4, List.length_map], us, fun j q x e => ?_⟩
    · rw [List.map_map] at h3; exact h3
    · obtain ⟨h6, h7⟩ := h5 j q (x.ren ρ) (by rw [List.getElem?_map, e]; rfl)
      refine ⟨R.unrep h6 rfl ?_, h7⟩
      exact lowL_iff.1 hl x (List.mem_map.2 ⟨(q, x), List.mem_of_getElem? e, rfl⟩)
  | pm es =>
    obtain ⟨r, ents, clock, h1, h2, h3, h4, us, h5⟩ := k
    refine ⟨r, ents, clock, hb.symm.trans h1, h2, ?_, by rw [h4, List.length_map], us, fun j q x e => ?_⟩
    · rw [List.map_map] at h3; exact h3
    · obtain ⟨h6, h7⟩ := h5 j q (x.ren ρ) (by rw [List.getElem?_map, e]; rfl)
      refine ⟨R.unrep h6 rfl ?_, h7⟩
      exact lowL_iff.1 hl x (List.mem_map.2 ⟨(q, x), List.mem_of_getElem? e, rfl⟩)
  | raw o => obtain ⟨b, h1, h2⟩ := k; exact ⟨b, hb.symm.trans h1, h2⟩
  | lp st pend f tm ps x y n =>
    obtain ⟨b, dfr, tmps, h1, h2, h3, h4⟩ := k
    refine ⟨b, dfr, tmps, hb.symm.trans h1, h2, h3, fun t r e => ?_⟩
    obtain ⟨v, h5, h6⟩ := h4 t (r.ren ρ) (List.mem_map.2 ⟨(t, r), e, rfl⟩)
    exact ⟨v, h5, R.unrep h6 rfl (lowL_iff.1 hl r (List.mem_map.2 ⟨(t, r), e, rfl⟩))⟩

theorem Ren.blkOf (R : Ren ρ β1 H1 β H) {i : Nat} (hi : i < H1.length) : GA.blkOf β H (ρ i) = GA.blkOf β1 H1 i := by
  have h1 := R.m i _ (List.getElem?_eq_getElem hi)
  unfold GA.blkOf
  rw [h1, List.getElem?_eq_getElem hi, R.b i hi]
  generalize H1[i] = x
  cases x <;> rfl
theorem Ren.to {x x' : Blk} {β' β1' : Nat → Value} {i : Nat} (h1 : β (ρ i) = β1 i) (h2 : β' (ρ i) = β1' i) (k : x.to β1 β1' i x') : (x.ren ρ).to β β' (ρ i) (x'.ren ρ) := by
  cases x with
  | dead => simp only [Blk.to] at k; subst k; rfl
  | free => trivial
  | cells cs =>
    rcases k with rfl | ⟨cs', rfl, hb⟩
    · exact .inl rfl
    · exact .inr ⟨_, rfl, by rw [h1, h2]; exact hb⟩
  | grow t nl els =>
    rcases k with rfl | ⟨nl', els', rfl, hl, hb⟩
    · exact .inl rfl
    · exact .inr ⟨_, _, rfl, by simp only [renL_eq, List.length_map]; exact hl, fun e => by rw [h1, h2]; simp only [renL_eq, List.length_map] at e; exact hb e⟩
  | map es =>
    rcases k with rfl | ⟨cs', rfl, hb⟩
    · exact .inl rfl
    · exact .inr ⟨_, rfl, by rw [h1, h2]; exact hb⟩
  | pm es =>
    rcases k with rfl | ⟨cs', rfl, hb⟩
    · exact .inl rfl
    · exact .inr ⟨_, rfl, by rw [h1, h2]; exact hb⟩
  | raw o =>
    rcases k with rfl | ⟨cs', rfl, hb⟩
    · exact .inl rfl
    · exact .inr ⟨_, rfl, by rw [h1, h2]; exact hb⟩
  | lp st pend f tm ps x y n =>
    rcases k with rfl | ⟨st', pend', rfl, hb⟩
    · exact .inl rfl
    · exact .inr ⟨_, _, rfl, by rw [h1, h2]; exact hb⟩

theorem Ren.sr (R : Ren ρ β1 H1 β H) (s : SR P E h β H w) (inj : ∀ i j, i < H1.length → j < H1.length → ρ i = ρ j → i = j) (lo : ∀ x ∈ H1, x.low H1.length = true) : SR P E h β1 H1 w := by
  have hlt : ∀ {i x}, GA.blkOf β1 H1 i = some x → i < H1.length := fun e => (blkOf_some e).1
  refine ⟨s.env, s.imm, fun i x e => ?_, fun i j x e1 e2 => ?_, fun i x e => ?_, s.frm, fun i x e => ?_⟩
  · have hi := (List.getElem?_eq_some_iff.1 e).1
    exact R.unblk hi (lo x (List.mem_of_getElem? e)) (s.blk _ _ (R.m i x e))
  · exact inj i j (hlt e1) (hlt e2) (s.own _ _ x (by rw [R.blkOf (hlt e1)]; exact e1) (by rw [R.blkOf (hlt e2)]; exact e2))
  · exact s.fresh (ρ i) x (by rw [R.blkOf (hlt e)]; exact e)
  · exact s.fro (ρ i) x (by rw [R.blkOf (hlt e)]; exact e)

noncomputable def othE (E : Env) (β : Nat → Value) (H : List Blk) (w : World) (im : Nat → Prop) : Env := by
  classical exact ⟨E.b, fun b => if ∃ j, ¬ im j ∧ GA.blkOf β H j = some b then w.heap[b]? else E.fr b, E.en⟩
theorem othE_hit {im : Nat → Prop} {b j : Nat} (hj : ¬ im j) (hb : GA.blkOf β H j = some b) : (othE E β H w im).fr b = w.heap[b]? := by
  simp only [othE]; rw [if_pos ⟨j, hj, hb⟩]
theorem othE_miss {im : Nat → Prop} {b : Nat} (hn : ∀ j, ¬ im j → GA.blkOf β H j ≠ some b) : (othE E β H w im).fr b = E.fr b := by
  simp only [othE]; rw [if_neg (fun ⟨j, h1, h2⟩ => hn j h1 h2)]

theorem Ren.srE (R : Ren ρ β1 H1 β H) (s : SR P E h β H w) (inj : ∀ i j, i < H1.length → j < H1.length → ρ i = ρ j → i = j) (lo : ∀ x ∈ H1, x.low H1.length = true) :
    SR P (othE E β H w fun j => ∃ i, i < H1.length ∧ ρ i = j) h β1 H1 w := by
  have s1 := R.sr s inj lo
  refine ⟨s1.env, s1.imm, s1.blk, s1.own, s1.fresh, fun b o e => ?_, fun i x e => ?_⟩
  · by_cases hh : ∃ j, ¬ (∃ i, i < H1.length ∧ ρ i = j) ∧ GA.blkOf β H j = some b
    · obtain ⟨j, h1, h2⟩ := hh
      rw [othE_hit h1 h2] at e
      exact ⟨e, s.fresh _ _ h2⟩
    · rw [othE_miss (fun j h1 h2 => hh ⟨j, h1, h2⟩)] at e; exact s.frm b o e
  · have hi := (blkOf_some e).1
    have hb := R.blkOf hi
    rw [othE_miss]
    · exact s.fro (ρ i) x (by rw [hb]; exact e)
    · intro j h1 h2
      exact h1 ⟨i, hi, s.own _ _ x (by rw [hb]; exact e) h2⟩

theorem ACall.frame {f : FuncId} {rs1 : List AV} {k1 k : AV → List Blk → Prop} (x : ACall P f rs1 H1 k1)
    (inj : ∀ i j, i < H1.length → j < H1.length → ρ i = ρ j → i = j) (hm : ∀ (i : Nat) x1, H1[i]? = some x1 → H[ρ i]? = some (x1.ren ρ))
    (lo : ∀ x ∈ H1, x.low H1.length = true) (lor : lowL H1.length rs1 = true)
    (hk : ∀ r1 H1', k1 r1 H1' → H1'.length = H1.length ∧ ∃ H', H'.length = H.length ∧ (∀ (i : Nat) x1, H1'[i]? = some x1 → H'[ρ i]? = some (x1.ren ρ)) ∧ (∀ j, (∀ i, i < H1.length → ρ i ≠ j) → H'[j]? = H[j]?) ∧ k (r1.ren ρ) H') :
    ACall P f (rs1.map (AV.ren ρ)) H k := by
  refine ⟨x.1, fun E h β w vs s hr => ?_⟩
  have R : Ren ρ (fun i => β (ρ i)) H1 β H := ⟨hm, fun _ _ => rfl⟩
  have s1 := R.srE s inj lo
  have hr1 : RepL P h (fun i => β (ρ i)) H1 rs1 vs := ⟨by rw [hr.1, List.length_map], fun j r e => by
    obtain ⟨v, h1, h2⟩ := hr.2 j _ (map_get e)
    exact ⟨v, h1, R.unrep h2 rfl (lowL_get lor e)⟩⟩
  refine (x.2 _ h _ w vs s1 hr1).mono ?_
  rintro e w' ⟨r1, H1', h', β1', v, rfl, q, X, s', hv⟩
  obtain ⟨hlen, H', hlen', hm', ho, hk'⟩ := hk r1 H1' q
  classical
  let β' : Nat → Value := fun j => if hj : ∃ i, i < H1.length ∧ ρ i = j then β1' (Classical.choose hj) else β j
  have hβ1 : ∀ i, i < H1.length → β' (ρ i) = β1' i := by
    intro i hi
    have hj : ∃ i', i' < H1.length ∧ ρ i' = ρ i := ⟨i, hi, rfl⟩
    simp only [β', dif_pos hj]
    rw [inj _ _ (Classical.choose_spec hj).1 hi (Classical.choose_spec hj).2]
  have hβ2 : ∀ j, (∀ i, i < H1.length → ρ i ≠ j) → β' j = β j := by
    intro j hj
    have hn : ¬ ∃ i, i < H1.length ∧ ρ i = j := fun ⟨i, h1, h2⟩ => hj i h1 h2
    simp only [β', dif_neg hn]
  have R' : Ren ρ β1' H1' β' H' := ⟨hm', fun i hi => hβ1 i (by omega)⟩
  have im : ∀ j, (∃ i, i < H1.length ∧ ρ i = j) ∨ ∀ i, i < H1.length → ρ i ≠ j := by
    intro j
    by_cases hj : ∃ i, i < H1.length ∧ ρ i = j
    · exact .inl hj
    · exact .inr fun i hi e => hj ⟨i, hi, e⟩
  have X' : Ext h β H h' β' H' := by
    refine ⟨X.imm, by omega, fun j y y' e e' => ?_⟩
    rcases im j with ⟨i, hi, rfl⟩ | hj
    · have h1 : H1[i]? = some H1[i] := List.getElem?_eq_getElem hi
      have h2 : H1'[i]? = some (H1'[i]'(by omega)) := List.getElem?_eq_getElem (by omega)
      rw [hm i _ h1] at e; cases e
      rw [hm' i _ h2] at e'; cases e'
      exact Ren.to (β1 := fun i => β (ρ i)) rfl (hβ1 i hi) (X.to i _ _ h1 h2)
    · rw [ho j hj, e] at e'; cases e'
      have := Blk.to_refl β j y
      cases y with
      | dead => rfl
      | free => trivial
      | cells cs => exact .inr ⟨_, rfl, hβ2 j hj⟩
      | grow t nl els => exact .inr ⟨_, _, rfl, Nat.le_refl _, fun _ => hβ2 j hj⟩
      | map es => exact .inr ⟨_, rfl, hβ2 j hj⟩
      | pm es => exact .inr ⟨_, rfl, hβ2 j hj⟩
      | raw o => exact .inr ⟨_, rfl, hβ2 j hj⟩
      | lp st pend f tm ps x y n => exact .inr ⟨_, _, rfl, hβ2 j hj⟩
  have hb1 : ∀ i, i < H1.length → GA.blkOf β' H' (ρ i) = GA.blkOf β1' H1' i := fun i hi => R'.blkOf (by omega)
  have hb2 : ∀ j, (∀ i, i < H1.length → ρ i ≠ j) → GA.blkOf β' H' j = GA.blkOf β H j := fun j hj => blkOf_congr (hβ2 j hj) (ho j hj)
  have hsome : ∀ j b, GA.blkOf β H j = some b → ∃ o, w.heap[b]? = some o := fun j b e => ⟨_, Array.getElem?_eq_getElem (s.lt e)⟩
  have hfr : ∀ j b o, (∀ i, i < H1.length → ρ i ≠ j) → GA.blkOf β H j = some b → w.heap[b]? = some o → w'.heap[b]? = some o ∧ h' b = none := by
    intro j b o hj e eo
    refine s'.frm b o ?_
    rw [othE_hit (j := j) (fun ⟨i, h1, h2⟩ => hj i h1 h2) e]; exact eo
  have hE : ∀ b o, E.fr b = some o → (othE E β H w fun j => ∃ i, i < H1.length ∧ ρ i = j).fr b = some o := by
    intro b o e
    rw [othE_miss]
    · exact e
    · intro j _ h2; rw [s.fro j b h2] at e; cases e
  refine ⟨r1.ren ρ, H', h', β', v, rfl, hk', X', ?_, R'.rep hv⟩
  refine ⟨s'.env, s'.imm, fun j y e => ?_, fun i j b e1 e2 => ?_, fun j b e => ?_, fun b o e => s'.frm b o (hE b o e), fun j b e => ?_⟩
  · rcases im j with ⟨i, hi, rfl⟩ | hj
    · have h2 : H1'[i]? = some (H1'[i]'(by omega)) := List.getElem?_eq_getElem (by omega)
      rw [hm' i _ h2] at e; cases e
      exact R'.blk (by omega) (s'.blk i _ h2)
    · rw [ho j hj] at e
      refine (s.blk j y e).keep X' (hβ2 j hj) fun hd hd' b hb => ?_
      have hbo : GA.blkOf β H j = some b := by unfold GA.blkOf; rw [e]; cases y <;> first | exact absurd rfl hd | exact absurd rfl hd' | exact hb
      obtain ⟨o, ho'⟩ := hsome j b hbo
      rw [ho', (hfr j b o hj hbo ho').1]
  · rcases im i with ⟨i0, hi, rfl⟩ | hi <;> rcases im j with ⟨j0, hj, rfl⟩ | hj
    · rw [hb1 i0 hi] at e1; rw [hb1 j0 hj] at e2
      rw [s'.own _ _ b e1 e2]
    · rw [hb1 i0 hi] at e1; rw [hb2 j hj] at e2
      obtain ⟨o, ho'⟩ := hsome j b e2
      have h3 := s'.fro _ _ e1
      rw [othE_hit (j := j) (fun ⟨i, h1, h2⟩ => hj i h1 h2) e2, ho'] at h3; cases h3
    · rw [hb2 i hi] at e1; rw [hb1 j0 hj] at e2
      obtain ⟨o, ho'⟩ := hsome i b e1
      have h3 := s'.fro _ _ e2
      rw [othE_hit (j := i) (fun ⟨i', h1, h2⟩ => hi i' h1 h2) e1, ho'] at h3; cases h3
    · rw [hb2 i hi] at e1; rw [hb2 j hj] at e2
      exact s.own _ _ b e1 e2
  · rcases im j with ⟨i, hi, rfl⟩ | hj
    · rw [hb1 i hi] at e; exact s'.fresh _ _ e
    · rw [hb2 j hj] at e
      obtain ⟨o, ho'⟩ := hsome j b e
      exact (hfr j b o hj e ho').2
  · rcases im j with ⟨i, hi, rfl⟩ | hj
    · rw [hb1 i hi] at e
      have h3 := s'.fro _ _ e
      cases hx : E.fr b with
      | none => rfl
      | some o => rw [hE b o hx] at h3; cases h3
    · rw [hb2 j hj] at e; exact s.fro _ _ e
end
end GA
end

section
namespace GA
open Go Go.RowKit
set_option linter.unusedVariables false

section
variable {P : Program} {T : Tab} {N : Nat} {ρ : Option Nat} {own : List Nat} {D : List Nat} {σ : St} {H : List Blk} {Q : Post} {E : Env} {h : Nat → Option Obj} {β : Nat → Value} {w : World}

structure RenS (f : Nat → Nat) (base : Nat) (H1 : List Blk) (σ1 : St) (H : List Blk) (σ : St) : Prop where
  inj : ∀ i j, i < H1.length → j < H1.length → f i = f j → i = j
  fix : ∀ i, i < base → f i = i
  len : base ≤ H1.length
  hm : ∀ (i : Nat) x1, H1[i]? = some x1 → H[f i]? = some (x1.ren f)
  lowb : ∀ (i : Nat) x1, i < base → H1[i]? = some x1 → x1.ren f = x1
  low : ∀ x ∈ H1, x.low H1.length = true
  st : ∀ t r, σ1 t = some r → σ t = some (r.ren f) ∧ r.low H1.length = true

def rnF (l : List Nat) (i : Nat) : Nat := match lget l i with | some j => j | none => i
def XBlkR (f : Nat → Nat) (base : Nat) (x : Blk) (o : Option Blk) : Prop := (o = some x ∧ x.low base = true) ∨ o = some (x.ren f)
def XValR (f : Nat → Nat) (base : Nat) (x : AV) (o : Option AV) : Prop := (o = some x ∧ x.low base = true) ∨ o = some (x.ren f)
def BlksR (f : Nat → Nat) (base : Nat) (H : List Blk) : Nat → List Blk → Prop
  | _, [] => True
  | i, x :: l => XBlkR f base x (lget H (f i)) ∧ BlksR f base H (i + 1) l
def SubR (f : Nat → Nat) (base : Nat) (n : Nat) (σ : St) : List (Nat × AV) → Prop
  | [] => True
  | (t, r) :: l => (XValR f base r (σ t) ∧ r.low n = true) ∧ SubR f base n σ l
structure XAgainR {G : Type} (I : G → Prop) (L : G → List (Nat × AV)) (hp : G → List Blk) (μ : G → Nat) (base : Nat) (g : G) (D' : List Nat) (σ' : St) (H' : List Blk) : Prop where
  d : D' = []
  o : ∃ g' l, I g' ∧ μ g' < μ g ∧ (l.length = (hp g').length ∧ l.Nodup ∧ (∀ i, i < base → lget l i = some i) ∧ base ≤ l.length) ∧ (∀ x ∈ hp g', x.low (hp g').length = true) ∧ (∀ (i : Nat) x, i < base → lget (hp g') i = some x → x.low base = true) ∧
    BlksR (rnF l) base H' 0 (hp g') ∧ SubR (rnF l) base (hp g').length σ' (L g')

theorem mapS_low {f : Nat → Nat} {n : Nat} {α : Type} (h : ∀ i, i < n → f i = i) {es : List (α × AV)} (hl : lowL n (es.map (·.2)) = true) : (es.map fun p => (p.1, p.2.ren f)) = es := by
  have : ∀ p ∈ es, (fun p : α × AV => (p.1, p.2.ren f)) p = id p := fun p hp => by
    have := lowL_iff.1 hl p.2 (List.mem_map.2 ⟨p, hp, rfl⟩)
    simp only [id, AV.ren_low h this]
  rw [List.map_congr_left this, List.map_id]
theorem Blk.ren_low {f : Nat → Nat} {n : Nat} (h : ∀ i, i < n → f i = i) {x : Blk} (hl : x.low n = true) : x.ren f = x := by
  cases x with
  | cells cs => simp only [Blk.ren]; rw [renL_low h hl]
  | grow t nl els => simp only [Blk.ren]; rw [renL_low h hl]
  | map es => simp only [Blk.ren]; rw [mapS_low h hl]
  | pm es => simp only [Blk.ren]; rw [mapS_low h hl]
  | lp st pend f tm ps x y n => simp only [Blk.ren]; rw [mapS_low h hl]
  | _ => rfl
theorem BlksR.get {f : Nat → Nat} {base : Nat} {H : List Blk} : ∀ {l : List Blk} {i : Nat}, BlksR f base H i l → ∀ (j : Nat) x, l[j]? = some x → XBlkR f base x (lget H (f (i + j)))
  | [], _, _, j, x, e => by simp at e
  | y :: l, i, h, 0, x, e => by simp at e; subst e; exact h.1
  | y :: l, i, h, j + 1, x, e => by
    have := BlksR.get h.2 j x (by simpa using e)
    rwa [Nat.add_right_comm] at this
theorem SubR.get {f : Nat → Nat} {base n : Nat} {σ : St} : ∀ {l : List (Nat × AV)}, SubR f base n σ l → ∀ t r, stX l t = some r → XValR f base r (σ t) ∧ r.low n = true
  | [], _, t, r, e => by cases e
  | (u, x) :: l, h, t, r, e => by
    simp only [stX, updX_eq, upd] at e
    split at e
    · rename_i hh; cases e; subst hh; exact h.1
    · exact SubR.get h.2 t r e
theorem XAgainR.go {G : Type} {I : G → Prop} {L : G → List (Nat × AV)} {hp : G → List Blk} {μ : G → Nat} {base : Nat} {g : G} (g' : G) (l : List Nat) (h1 : I g') (h2 : μ g' < μ g) (h3 : l.length = (hp g').length ∧ l.Nodup ∧ (∀ i, i < base → lget l i = some i) ∧ base ≤ l.length)
    (h4 : ∀ x ∈ hp g', x.low (hp g').length = true) (h5 : ∀ (i : Nat) x, i < base → lget (hp g') i = some x → x.low base = true) (h6 : BlksR (rnF l) base H 0 (hp g')) (h7 : SubR (rnF l) base (hp g').length σ (L g')) : XAgainR I L hp μ base g [] σ H :=
  ⟨rfl, g', l, h1, h2, h3, h4, h5, h6, h7⟩

theorem opLoad_ex {t : TypeId} {p : AV} {k : AV → Prop} (x : opLoad P t H p k) : ∃ r, k r ∧ ∀ k' : AV → Prop, k' r → opLoad P t H p k' := by
  unfold opLoad at x
  obtain ⟨ti, h1, x⟩ := bnd_elim x
  obtain ⟨cs, h2, x⟩ := bnd_elim x
  split at x
  · rename_i e
    exact ⟨_, x.2, fun k' hk => by unfold opLoad; rw [h1, bnd_some, h2, bnd_some, if_pos e]; exact ⟨x.1, hk⟩⟩
  · rename_i e
    obtain ⟨c, h3, x⟩ := bnd_elim x
    exact ⟨c, x, fun k' hk => by unfold opLoad; rw [h1, bnd_some, h2, bnd_some, if_neg e, h3, bnd_some]; exact hk⟩
theorem resA_ex : ∀ {l : List ResultVar} {k : List AV → Prop}, resA P σ H l k → ∃ rs, k rs ∧ ∀ k' : List AV → Prop, k' rs → resA P σ H l k'
  | [], k, x => ⟨[], x, fun _ h => h⟩
  | .tmp t :: l, k, x => by
    obtain ⟨r, h1, x⟩ := bnd_elim x
    obtain ⟨rs, h2, h3⟩ := resA_ex x
    exact ⟨r :: rs, h2, fun k' h => by simp only [resA]; rw [h1, bnd_some]; exact h3 (fun rs => k' (r :: rs)) h⟩
  | .cell a t :: l, k, x => by
    obtain ⟨p, h1, x⟩ := bnd_elim x
    obtain ⟨r, x, h4⟩ := opLoad_ex x
    obtain ⟨rs, h2, h3⟩ := resA_ex x
    exact ⟨r :: rs, h2, fun k' h => by simp only [resA]; rw [h1, bnd_some]; exact h4 _ (h3 (fun rs => k' (r :: rs)) h)⟩
structure XCut (n : Nat) (D : List Nat) (H : List Blk) (r : AV) (k : AV → List Blk → Prop) : Prop where
  o : ∃ H1 l, H = H1 ++ l ∧ H1.length = n ∧ (∀ x ∈ H1, x.low n = true) ∧ D.Nodup ∧ (∀ i ∈ D, n ≤ i ∧ H[i]? = some (.raw (.deferred (some [])))) ∧ r.low n = true ∧ k r H1
def XFk (T : Tab) (res : List ResultVar) (n : Nat) (k : AV → List Blk → Prop) : Post := fun e D σ H =>
  match e with
  | .normal | .ret => xRes T σ H res fun rs => XCut n D H (pack rs) k
  | _ => False
theorem ACall.bodyK {f : FuncId} {fn : Func} {c : Code} {rs : List AV} {res : List ResultVar} {k : AV → List Blk → Prop} (ok : TabOk P T) (own : List Nat) (hf : P.funcs[f]? = some fn) (hb : fn.body = some c) (hn : (fn.name == "runtime.NumGoroutine") = false)
    (hN : fn.ntmps = N) (hr : fn.results = res.toArray) (hl : rs.length ≤ N) (x : XRun P T N none own c (XFk T res H.length k) [] (argX rs) H) : ACall P f rs H k := by
  subst hN
  refine ACall.of_body hf hb hn hl ?_
  rw [hr, ← argX_eq]
  refine (XRun.sound ok x).mono fun e D σ H' q => ?_
  have go : xRes T σ H' res (fun rs => XCut H.length D H' (pack rs) k) → ∃ H1 l, H' = H1 ++ l ∧ H.length ≤ H1.length ∧ (∀ x ∈ H1, x ∈ H ∨ x.low H1.length = true) ∧ D.Nodup ∧
    (∀ i ∈ D, H1.length ≤ i ∧ H'[i]? = some (.raw (.deferred (some [])))) ∧ resA P σ H' res fun rs => (pack rs).low H1.length = true ∧ k (pack rs) H1 := by
    intro x
    obtain ⟨rs, ⟨H1, l, h1, h2, h3, h4, h5, h6, h7⟩, hx⟩ := resA_ex (xRes_sound ok x)
    exact ⟨H1, l, h1, by omega, fun x hx => .inr (by rw [h2]; exact h3 x hx), h4, by rw [h2]; exact h5, hx _ ⟨by rw [h2]; exact h6, h7⟩⟩
  cases e <;> first | exact ⟨.inl rfl, go q⟩ | exact ⟨.inr rfl, go q⟩ | exact q.elim
theorem XCut.mk' {n : Nat} {H : List Blk} {r : AV} {k : AV → List Blk → Prop} (H1 l : List Blk) (h1 : H1 ++ l = H) (h2 : H1.length = n) (h3 : ∀ x ∈ H1, x.low n = true) (h4 : r.low n = true) (h5 : k r H1) : XCut n [] H r k :=
  ⟨H1, l, h1.symm, h2, h3, by simp, by simp, h4, h5⟩
end
end GA
end

section
namespace GA
open Go Go.RowKit
set_option linter.unusedVariables false

def look (n : Int) : List (Int × Nat) → Option Nat
  | [] => none
  | (k, u) :: l => if k = n then some u else look n l
end GA
end

section
namespace GA
open Go Go.RowKit
set_option linter.unusedVariables false

section
variable {P : Program} {T : Tab} {N : Nat} {ρ : Option Nat} {own : List Nat} {D : List Nat} {σ : St} {H : List Blk} {Q : Post} {E : Env} {h : Nat → Option Obj} {β : Nat → Value} {w : World} {a : Act}

theorem DfL.mem {en : Nat → Option Obj} {D : List Nat} {ds : List Deferred} (d : DfL P h β H en D ds) {b : Nat} (hb : ({ target := .collected b, args := #[] } : Deferred) ∈ ds) : (∃ j ∈ D, Rep P h β H (.yld j) (.func (.yield b) #[] #[])) ∨ h b = some (.deferred (some [])) := by
  induction d with
  | nil => simp at hb
  | @own i b' D ds r t ih =>
    rcases List.mem_cons.1 hb with e | e
    · cases e; exact .inl ⟨i, List.mem_cons_self, r⟩
    · rcases ih e with ⟨j, h1, h2⟩ | h1
      · exact .inl ⟨j, List.mem_cons_of_mem _ h1, h2⟩
      · exact .inr h1
  | @lost b' D ds h1 he nd t ih =>
    rcases List.mem_cons.1 hb with e | e
    · cases e; exact .inr h1
    · exact ih e
theorem DfL.lose {en : Nat → Option Obj} {h' : Nat → Option Obj} {H' : List Blk} {i b : Nat} {D0 : List Nat} {ds : List Deferred} (s : SR P E h β H w) (X : Ext h β H h' β H') (hbo : blkOf β H i = some b) (hb' : h' b = some (.deferred (some []))) (he : en b = none) (hm : h b = none) (hi : H[i]? = some (.raw (.deferred (some []))))
    (d : DfL P h β H en D0 ds) : ∀ {D : List Nat}, D0 = i :: D → i ∉ D → (∀ j ∈ D, H[j]? = some (.raw (.deferred (some [])))) → DfL P h' β H' en D ds := by
  induction d with
  | nil => intro D e; cases e
  | @own i' b' D' ds r t ih =>
    intro D e hni hD
    cases e
    have hbb : b' = b := by
      cases r with
      | yld hlv hb =>
        have hbi := hb _ hi rfl
        have : blkOf β H i = some b' := by simp only [blkOf, hi, hbi]; rfl
        rw [hbo] at this; cases this; rfl
    subst hbb
    refine .lost hb' he (fun b2 hb2 => ?_) (t.ext X)
    rintro rfl
    rcases t.mem hb2 with ⟨j, h1, h2⟩ | h1
    · cases h2 with
      | yld hlv hb =>
        have hj := hD j h1
        have hbj := hb _ hj rfl
        have : blkOf β H j = some b2 := by simp only [blkOf, hj, hbj]; rfl
        exact hni (s.own _ _ _ hbo this ▸ h1)
    · rw [hm] at h1; cases h1
  | @lost b' D' ds h1 he' nd t ih =>
    intro D e hni hD
    exact .lost (X.imm _ _ h1) he' nd (ih e hni hD)
theorem Stands.lose : ∀ {D : List Nat} {h : Nat → Option Obj} {H : List Blk}, Stands P E N h β D σ H a w → D.Nodup → (∀ i ∈ D, H[i]? = some (.raw (.deferred (some [])))) →
    ∃ h' H', Stands P E N h' β [] σ H' a w ∧ Ext h β H h' β H' ∧ H'.length = H.length ∧ ∀ j, j ∉ D → H'[j]? = H[j]?
  | [], h, H, s, _, _ => ⟨h, H, s, Ext.refl _ _ _, rfl, fun _ _ => rfl⟩
  | i :: D, h, H, s, hnd, hD => by
    have hi := hD i List.mem_cons_self
    obtain ⟨b, hb1, hb2⟩ := s.sr.blk i _ hi
    have hbo : blkOf β H i = some b := by simp only [blkOf, hi, hb1]; rfl
    have hm := s.sr.fresh _ _ hbo
    have he : E.en b = none := by
      cases hx : E.en b with
      | none => rfl
      | some o => rw [s.df.en b o hx] at hm; cases hm
    obtain ⟨h1, s1, X1, hf⟩ := s.sr.freeze hi
    have hni := (List.nodup_cons.1 hnd).1
    have hDs : ∀ j ∈ D, H[j]? = some (.raw (.deferred (some []))) := fun j hj => hD j (List.mem_cons_of_mem _ hj)
    have d1 := DfL.lose s.sr X1 hbo (hf b _ hbo hb2) he hm hi s.df.l rfl hni hDs
    have s2 : Stands P E N h1 β D σ (H.set i .dead) a w := ⟨s1, s.fits.ext X1, s.size, ⟨(s.df.ext X1).en, d1⟩⟩
    obtain ⟨h', H', s3, X3, hl, ho⟩ := Stands.lose s2 (List.nodup_cons.1 hnd).2 (fun j hj => by rw [List.getElem?_set_ne (show i ≠ j from fun e => hni (by rw [e]; exact hj))]; exact hDs j hj)
    refine ⟨h', H', s3, X1.trans X3, by rw [hl]; simp, fun j hj => ?_⟩
    rw [ho j (fun h => hj (List.mem_cons_of_mem _ h)), List.getElem?_set_ne (show i ≠ j from fun e => hj (by rw [← e]; exact List.mem_cons_self))]

theorem Walk.norm {id : Nat} {ops : Array Oper} (ok : TabOk P T) (own : List Nat) (L : List (Nat × AV)) (hs : SubX L σ) (x : XReg P T N own ops.toList ops.toList (stX L) H (Q .normal D)) : Walk P N ρ (.region id ops false) Q D σ H :=
  ⟨AWp.weaken (stX_sub hs) (AWp.regionX ok x)⟩
structure MarksOk (D : List Nat) (H : List Blk) (f : Nat → Nat) (n : Nat) : Prop where
  nd : D.Nodup
  raw : ∀ i ∈ D, H[i]? = some (.raw (.deferred (some [])))
  out : ∀ i, i < n → f i ∉ D

theorem AWp.loopM {c : Code} {G : Type} (st : G → St) (hp : G → List Blk) (μ : G → Nat) (g0 : G) (hσ : ∀ t r, st g0 t = some r → σ t = some r) (hH : hp g0 = H) (hD : D = [])
    (round : ∀ g, AWp P N ρ c (thenQ (fun D' σ' H' => ∃ g' f, μ g' < μ g ∧ MarksOk D' H' f (hp g').length ∧ RenS f H.length (hp g') (st g') H' σ') Q) D (st g) (hp g)) : AWp P N ρ (.loop c) Q D σ H := by
  intro E h β a w s
  subst hH; subst hD
  let I : G → Act → World → Prop := fun g a w => ∃ h' β', Ext h β (hp g0) h' β' (hp g) ∧ Stands P E N h' β' [] (st g) (hp g) a w
  have least : ∀ a w, (∃ g, I g a w) → ∃ n, (∃ g, I g a w ∧ μ g = n) ∧ ∀ m, m < n → ¬ ∃ g, I g a w ∧ μ g = m :=
    fun a w ⟨g, hg⟩ => exists_least ⟨μ g, g, hg, rfl⟩
  classical
  let M : Act → World → Nat := fun a w => if e : ∃ g, I g a w then Classical.choose (least a w e) else 0
  have hM : ∀ a w (e : ∃ g, I g a w), (∃ g, I g a w ∧ μ g = M a w) ∧ ∀ g, I g a w → M a w ≤ μ g := by
    intro a w e
    have hc := Classical.choose_spec (least a w e)
    have hm : M a w = Classical.choose (least a w e) := by simp only [M, dif_pos e]
    rw [hm]
    refine ⟨hc.1, fun g hg => ?_⟩
    rcases Nat.lt_or_ge (μ g) (Classical.choose (least a w e)) with hlt | hge
    · exact absurd ⟨g, hg, rfl⟩ (hc.2 _ hlt)
    · exact hge
  refine wpIn_loop (fun a w => ∃ g, I g a w) M ⟨g0, h, β, Ext.refl _ _ _, s.sr, fun t r e => s.fits t r (hσ t r e), s.size, s.df⟩ ?_
  intro a' w' hI
  obtain ⟨⟨g, hg, hmu⟩, _⟩ := hM a' w' hI
  obtain ⟨h', β', X, s'⟩ := hg
  refine wpIn_mono (round g E h' β' a' w' s') ?_
  rintro e a'' w'' ⟨D'', σ'', H0', h0', β'', q, X0', s0''⟩
  cases e with
  | normal =>
    obtain ⟨g', f, hlt, m, r0⟩ := q
    obtain ⟨h'', H'', s'', X1, hl, ho⟩ := s0''.lose m.nd m.raw
    have X' := X0'.trans X1
    have hm : ∀ (i : Nat) x1, (hp g')[i]? = some x1 → H''[f i]? = some (x1.ren f) := fun i x1 e => by
      rw [ho _ (m.out i (List.getElem?_eq_some_iff.1 e).1)]; exact r0.hm i x1 e
    have R : Ren f (fun i => β'' (f i)) (hp g') β'' H'' := ⟨hm, fun _ _ => rfl⟩
    have hI' : I g' a'' w'' := by
      refine ⟨h'', fun i => β'' (f i), ⟨(X.trans X').imm, r0.len, fun i x x' e e' => ?_⟩, R.sr s''.sr r0.inj r0.low, fun t r e => ?_, s''.size, s''.df.any⟩
      · have hi := (List.getElem?_eq_some_iff.1 e).1
        have h1 := hm i x' e'
        rw [r0.fix i hi, r0.lowb i x' hi e'] at h1
        have h2 := (X.trans X').to i x x' e h1
        cases x with
        | dead => exact h2
        | free => trivial
        | _ => simpa only [Blk.to, r0.fix i hi] using h2
      · obtain ⟨h1, h2⟩ := r0.st t r e
        obtain ⟨v, h3, h4⟩ := s''.fits t _ h1
        exact ⟨v, h3, R.unrep h4 rfl h2⟩
    refine ⟨⟨g', hI'⟩, ?_⟩
    have := (hM a'' w'' ⟨g', hI'⟩).2 g' hI'
    omega
  | _ => exact ⟨D'', σ'', H0', h0', β'', q, X.trans X0', s0''⟩

structure XAgainM {G : Type} (I : G → Prop) (L : G → List (Nat × AV)) (hp : G → List Blk) (μ : G → Nat) (base : Nat) (g : G) (D' : List Nat) (σ' : St) (H' : List Blk) : Prop where
  o : ∃ g' f, I g' ∧ μ g' < μ g ∧ MarksOk D' H' f (hp g').length ∧ RenS f base (hp g') (stX (L g')) H' σ'
theorem Walk.loopM {c : Code} {G : Type} (ok : TabOk P T) (own : List Nat) (I : G → Prop) (L : G → List (Nat × AV)) (hp : G → List Blk) (μ : G → Nat) (g0 : G) (base : Nat) (h0 : I g0) (hH : hp g0 = H) (hb : base = H.length) (hs : SubX (L g0) σ)
    (round : ∀ g, I g → XRun P T N ρ own c (thenQ (XAgainM I L hp μ base g) Q) [] (stX (L g)) (hp g)) : Walk P N ρ (.loop c) Q [] σ H := by
  constructor
  refine AWp.loopM (G := {g : G // I g}) (fun g => stX (L g.1)) (fun g => hp g.1) (fun g => μ g.1) ⟨g0, h0⟩ (stX_sub hs) hH rfl fun g => ?_
  refine (XRun.sound ok (round g.1 g.2)).mono fun e D' σ' H' q => ?_
  cases e with
  | normal => obtain ⟨g', f, h2, h3, h4, h5⟩ := q; exact ⟨⟨g', h2⟩, f, h3, h4, hb ▸ h5⟩
  | _ => exact q
theorem stX_mem : ∀ (l : List (Nat × AV)) t r, stX l t = some r → (t, r) ∈ l := by
  intro l; induction l with
  | nil => intro t r h; cases h
  | cons p l ih =>
    obtain ⟨u, x⟩ := p
    intro t r h; simp only [stX, updX_eq, upd] at h
    split at h
    · rename_i e; cases h; subst e; exact List.mem_cons_self
    · exact List.mem_cons_of_mem _ (ih t r h)
theorem AV.ren_id (a : AV) : a.ren id = a := by
  refine AV.rec (motive_1 := fun a => a.ren id = a) (motive_2 := fun l => renL id l = l) ?_ ?_ ?_ ?_ ?_ ?_ ?_ ?_ ?_ ?_ ?_ ?_ ?_ ?_ ?_ ?_ ?_ ?_ ?_ ?_ ?_ a
  all_goals first | (intros; rfl) | (intro cs ih; simp only [AV.ren, ih]) | (intro f cs ih; simp only [AV.ren, ih]) | (intro x l ih1 ih2; simp only [renL, ih1, ih2])
theorem Blk.ren_id (x : Blk) : x.ren id = x := by
  have hL : ∀ l : List AV, renL id l = l := fun l => by have := AV.ren_id (.agg l); simpa [AV.ren] using this
  cases x with
  | cells cs => simp only [Blk.ren, hL]
  | grow t nl els => simp only [Blk.ren, hL]
  | map es =>
    simp only [Blk.ren]
    have : ∀ p ∈ es, (fun p : Int × AV => (p.1, p.2.ren id)) p = id p := fun p _ => by simp only [AV.ren_id]; rfl
    rw [List.map_congr_left this, List.map_id]
  | pm es =>
    simp only [Blk.ren]
    have : ∀ p ∈ es, (fun p : (Int × Int) × AV => (p.1, p.2.ren id)) p = id p := fun p _ => by simp only [AV.ren_id]; rfl
    rw [List.map_congr_left this, List.map_id]
  | lp st pend f tm ps x y n =>
    simp only [Blk.ren]
    have : ∀ p ∈ tm, (fun p : Nat × AV => (p.1, p.2.ren id)) p = id p := fun p _ => by simp only [AV.ren_id]; rfl
    rw [List.map_congr_left this, List.map_id]
  | _ => rfl
theorem XAgainM.go {G : Type} {I : G → Prop} {L : G → List (Nat × AV)} {hp : G → List Blk} {μ : G → Nat} {base : Nat} {g : G} {D : List Nat} (g' : G) (l : List Blk) (h1 : I g') (h2 : μ g' < μ g) (h3 : hp g' ++ l = H) (h4 : SubX (L g') σ) (hb : base ≤ (hp g').length)
    (h5 : ∀ x ∈ hp g', x.low (hp g').length = true) (h6 : ∀ p ∈ L g', p.2.low (hp g').length = true) (hnd : D.Nodup) (hD : ∀ i ∈ D, (hp g').length ≤ i ∧ lget H i = some (.raw (.deferred (some [])))) : XAgainM I L hp μ base g D σ H :=
  ⟨g', id, h1, h2, ⟨hnd, fun i hi => by have := (hD i hi).2; rwa [lget_eq] at this, fun i hi h => by have := (hD _ h).1; simp only [id] at this; omega⟩,
    ⟨fun _ _ _ _ e => e, fun _ _ => rfl, hb, fun i x1 e => by
      rw [← h3, Blk.ren_id]; simp only [id]
      rw [List.getElem?_append_left (List.getElem?_eq_some_iff.1 e).1]; exact e, fun _ x1 _ _ => Blk.ren_id x1, h5, fun t r e => by
      refine ⟨by rw [AV.ren_id]; exact stX_sub h4 t r e, h6 (t, r) (stX_mem _ _ _ e)⟩⟩⟩
end
end GA
end
