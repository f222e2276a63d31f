/- The run of code as it is computed; calls, loops and ends. -/
import Derived.Test.YtlbdomhfcghjdaaAbs15
namespace GA
open Go Go.RowKit

/-! ### the frame -/
def updX (σ : St) (d : Nat) (r : AV) : St := fun t => match Nat.beq t d with | true => some r | false => σ t
def putX (N : Nat) (σ : St) (d : Option Nat) (r : AV) : St := match d with | some d => (match Nat.blt d N with | true => updX σ d r | false => σ) | none => σ
def stX : List (Nat × AV) → St
  | [] => fun _ => none
  | (t, r) :: l => updX (stX l) t r
theorem updX_eq (σ : St) (d : Nat) (r : AV) : updX σ d r = upd σ d r := by
  funext t; unfold updX upd
  by_cases h : t = d
  · subst h; simp
  · rw [if_neg h]; cases e : Nat.beq t d with
    | true => exact absurd (Nat.eq_of_beq_eq_true e) h
    | false => rfl
theorem putX_eq (N : Nat) (σ : St) (d : Option Nat) (r : AV) : putX N σ d r = putO N σ d r := by
  cases d with
  | none => rfl
  | some d =>
    simp only [putX, putO]
    cases e : Nat.blt d N with
    | true => rw [if_pos (by simpa [Nat.blt_eq] using e)]; exact updX_eq _ _ _
    | false => rw [if_neg (by intro h; rw [← Nat.blt_eq] at h; rw [h] at e; cases e)]
theorem upd_self {σ : St} {d : Nat} {r : AV} (h : σ d = some r) : updX σ d r = σ := by
  rw [updX_eq]; funext t; unfold upd; split
  · rename_i e; rw [e, h]
  · rfl

/-! ### regions and code -/
def xGate (all : List Oper) (σ : St) (g : Option (Nat × Bool)) (A B : St → Prop) : Prop :=
  match g with
  | none => A σ
  | some (j, want) => bnd (lget all j) fun o => bnd o.dst fun d => bnd (σ d) fun r =>
    match r with
    | .bool b => match want with
      | true => XBr b (A (updX σ d (.bool true))) (B (updX σ d (.bool false)))
      | false => XBr b (B (updX σ d (.bool true))) (A (updX σ d (.bool false)))
    | .tup [] => B σ
    | _ => False

def XReg (P : Program) (T : Tab) (N : Nat) (own : List Nat) (all : List Oper) : List Oper → St → List Blk → (St → List Blk → Prop) → Prop
  | [], σ, H, K => K σ H
  | o :: rest, σ, H, K => xGate all σ o.guard (fun σ => XOp P T own o.dst σ H (fun r H' => XReg P T N own all rest (putX N σ o.dst r) H' K) o.op) (fun σ => XReg P T N own all rest (putX N σ o.dst (.tup [])) H K)

def blockX (id : Nat) (Q : Post) : Post
  | .exit id', D, σ, H => match Nat.beq id' id with | true => Q .normal D σ H | false => Q (.exit id') D σ H
  | e, D, σ, H => Q e D σ H

/-- At least so many operations look at a truth first. -/
def manyG : Nat → List Oper → Bool
  | 0, _ => true
  | _ + 1, [] => false
  | n + 1, o :: l => match o.guard with | none => manyG (n + 1) l | some _ => manyG n l
def XRun (P : Program) (T : Tab) (N : Nat) (ρ : Option Nat) (own : List Nat) : Code → Post → List Nat → St → List Blk → Prop
  | .skip, Q, D, σ, H => Q .normal D σ H
  | .exit id, Q, D, σ, H => Q (.exit id) D σ H
  | .ret, Q, D, σ, H => Q .ret D σ H
  | .seq a b, Q, D, σ, H => XRun P T N ρ own a (thenQ (XRun P T N ρ own b Q) Q) D σ H
  | .cond c x y, Q, D, σ, H => bnd (ev σ c) fun r => match r with | .bool b => XBr b (XRun P T N ρ own x Q D σ H) (XRun P T N ρ own y Q D σ H) | _ => False
  | .block id b, Q, D, σ, H => XRun P T N ρ own b (blockX id Q) D σ H
  | .region id ops false, Q, D, σ, H => match manyG 12 ops.toList with | true => Walk P N ρ (.region id ops false) Q D σ H | false => XReg P T N own ops.toList ops.toList σ H (Q .normal D)
  | c, Q, D, σ, H => Walk P N ρ c Q D σ H

section
variable {P : Program} {T : Tab} {N : Nat} {ρ : Option Nat} {own : List Nat}

theorem xGate_gate {all : List Oper} {σ : St} {g : Option (Nat × Bool)} {A B : St → Prop} (h : xGate all σ g A B) : gate all σ g (A σ) (B σ) := by
  unfold xGate at h
  split at h
  · exact h
  · rename_i j want
    obtain ⟨o', h1, h2⟩ := bnd_elim h
    obtain ⟨d, h3, h4⟩ := bnd_elim h2
    obtain ⟨r, h5, h6⟩ := bnd_elim h4
    rw [lget_eq] at h1
    simp only [gate, h1, Option.bind_some, h3, bnd_some, h5]
    split at h6
    · rename_i b
      split at h6
      · refine ⟨fun e => ?_, fun e => ?_⟩
        · have e' : b = true := by simpa using e
          subst e'; have := h6.t rfl; rw [upd_self h5] at this; exact this
        · have e' : b = false := by simpa using e
          subst e'; have := h6.f rfl; rw [upd_self h5] at this; exact this
      · refine ⟨fun e => ?_, fun e => ?_⟩
        · have e' : b = false := by simpa using e
          subst e'; have := h6.f rfl; rw [upd_self h5] at this; exact this
        · have e' : b = true := by simpa using e
          subst e'; have := h6.t rfl; rw [upd_self h5] at this; exact this
    · exact h6
    · exact h6.elim

theorem XReg.sound {E : Env} (ok : TabOk P T) {all : List Oper} {K : St → List Blk → Prop} {Q : Exit → Act → World → Prop} {a0 : Act} {h0 : Nat → Option Obj} {β0 : Nat → Value} {H0 : List Blk}
    (hQ : ∀ σ' H' h' β' a' w', K σ' H' → Ext h0 β0 H0 h' β' H' → SR P E h' β' H' w' → Fits P h' β' H' σ' a' → Keeps a0 a' → Q .normal a' w') :
    ∀ (l : List Oper) (i : Nat) (σ : St) (H : List Blk) (h : Nat → Option Obj) (β : Nat → Value) (a : Act) (w : World), (∀ j, l[j]? = all[i + j]?) → XReg P T N own all l σ H K → Ext h0 β0 H0 h β H → SR P E h β H w → Fits P h β H σ a → Keeps a0 a → a.tmps.size = N →
      wpOpsIn (FW ρ) 0 P all.toArray Q ((List.range l.length).map (i + ·)) a w
  | [], i, σ, H, h, β, a, w, _, hk, X, s, F, kp, hN => hQ σ H h β a w hk X s F kp
  | o :: rest, i, σ, H, h, β, a, w, hl, hk, X, s, F, kp, hN => by
    have ho : all.toArray[i]? = some o := by have := hl 0; simpa using this.symm
    have hrange : (List.range (o :: rest).length).map (i + ·) = i :: (List.range rest.length).map (i + 1 + ·) := by
      simp only [List.length_cons, List.range_succ_eq_map, List.map_cons, List.map_map, Nat.add_zero]
      congr 1
      apply List.map_congr_left; intro j _; simp; omega
    rw [hrange]
    simp only [wpOpsIn, ho]
    have ih := fun σ' H' h' β' a' w' => XReg.sound ok hQ rest (i + 1) σ' H' h' β' a' w' (fun j => by have := hl (j + 1); simpa [Nat.add_assoc, Nat.add_comm 1 j] using this)
    simp only [XReg] at hk
    rcases gate_wanted F (xGate_gate hk) with ⟨hw, hA⟩ | ⟨hw, hB⟩
    · rw [if_pos hw]
      refine AOp.sound (hA.sound ok) s F ?_
      intro r H' h' β' w' v hk' X' s' hr
      rw [putX_eq] at hk'
      exact ih _ H' h' β' _ w' hk' (X.trans X') s' ((F.ext X').put hN hr) ⟨(size_put _ _ _).trans kp.size, (defers_put _ _ _).trans kp.defers⟩ ((size_put _ _ _).trans hN)
    · rw [if_neg (by rw [hw]; simp)]
      rw [putX_eq] at hB
      exact ⟨fun _ _ => trivial, ih _ H h β _ w hB X s (F.put hN rep_undef) ⟨(size_put _ _ _).trans kp.size, (defers_put _ _ _).trans kp.defers⟩ ((size_put _ _ _).trans hN)⟩

theorem AWp.regionX {id : Nat} {ops : Array Oper} {Q : Post} {D : List Nat} {σ : St} {H : List Blk} (ok : TabOk P T) (x : XReg P T N own ops.toList ops.toList σ H (Q .normal D)) : AWp P N ρ (.region id ops false) Q D σ H := by
  intro E h β a w s
  refine wpIn_region ?_
  have := XReg.sound (ρ := ρ) (Q := Conc P E N h β H Q) (a0 := a) (h0 := h) (β0 := β) (H0 := H) ok (fun σ' H' h' β' a' w' k X s' F kp => ⟨D, σ', H', h', β', k, X, s', F, kp.size.trans s.size, by rw [kp.defers]; exact s.df.ext X⟩)
    ops.toList 0 σ H h β a w (by simp) x (Ext.refl _ _ _) s.sr s.fits ⟨rfl, rfl⟩ s.size
  simpa using this

theorem blockX_eq (id : Nat) (Q : Post) : blockX id Q = blockQ id Q := by
  funext e D σ H
  cases e with
  | exit id' =>
    simp only [blockX, blockQ]
    by_cases h : id' = id
    · subst h; simp
    · rw [if_neg h]; cases e : Nat.beq id' id with
      | true => exact absurd (Nat.eq_of_beq_eq_true e) h
      | false => rfl
  | _ => rfl

theorem XRun.sound (ok : TabOk P T) : ∀ {c : Code} {Q : Post} {D : List Nat} {σ : St} {H : List Blk}, XRun P T N ρ own c Q D σ H → AWp P N ρ c Q D σ H
  | .skip, _, _, _, _, x => .skip x
  | .exit _, _, _, _, _, x => .exit x
  | .ret, _, _, _, _, x => .ret x
  | .seq a b, Q, _, _, _, x => .seq (AWp.mono (Q := thenQ (XRun P T N ρ own b Q) Q) (XRun.sound ok (c := a) x) fun e D σ H q => by
      cases e with
      | normal => exact XRun.sound ok (c := b) (Q := Q) q
      | _ => exact q)
  | .cond c _ _, _, _, _, _, x => by
      obtain ⟨r, h1, h2⟩ := bnd_elim x
      split at h2
      · exact .cond h1 (fun h => XRun.sound ok (h2.t h)) (fun h => XRun.sound ok (h2.f h))
      · exact h2.elim
  | .block id b, Q, D, σ, H, x => .block (by rw [← blockX_eq]; exact XRun.sound ok x)
  | .region id ops false, Q, D, σ, H, x => by
      unfold XRun at x
      split at x
      · exact x.o
      · exact .regionX ok x
  | .region _ _ true, _, _, _, _, x => x.o
  | .loop _, _, _, _, _, x => x.o
  | .rangeFunc .., _, _, _, _, x => x.o
  | .scope _, _, _, _, _, x => x.o
  | .label _, _, _, _, _, x => x.o
  | .goto _, _, _, _, _, x => x.o
  | .refuse _, _, _, _, _, x => x.o
end
end GA
