/- Part 2 of a proof: Abs11, Abs12, Abs13, Abs14, Abs15, Abs16, Abs17, Abs18, Tab, Abs19. -/
import Derived.Test.YtlbdomhfcghjdaaP1
import Derived.RangeFuncRecord
import Derived.Test.YtlbdomhfcghjdaaProg
import Derived.KernelRfl
section
namespace GA
open Go Go.RowKit

def gate (all : List Oper) (σ : St) (g : Option (Nat × Bool)) (A B : Prop) : Prop :=
  match g with
  | none => A
  | some (j, want) => bnd ((all[j]?).bind (·.dst)) fun d => bnd (σ d) fun r =>
    match r with
    | .bool b => Br (b == want) A B
    | .tup [] => B
    | _ => False

def AReg (P : Program) (N : Nat) (own : List Nat) (all : List Oper) : List Oper → St → List Blk → (St → List Blk → Prop) → Prop
  | [], σ, H, K => K σ H
  | o :: rest, σ, H, K => gate all σ o.guard (AOp P own o.dst σ H (fun r H' => AReg P N own all rest (putO N σ o.dst r) H' K) o.op) (AReg P N own all rest (putO N σ o.dst (.tup [])) H K)

section
variable {P : Program} {E : Env} {h : Nat → Option Obj} {β : Nat → Value} {H : List Blk} {w : World} {σ : St} {a : Act} {ρ : Option Nat}

theorem wpIn_unit {o : Oper} {m : Sem Unit} (he : execOp a.eval o = (do m; pure Next.skip)) (hd : ∀ c, o.op ≠ .defer c) {k : AV → List Blk → Prop} {next : Act → World → Prop} {Q : Exit → Act → World → Prop}
    (hn : NextOk P E h β H a o k next) (y : YieldsU P E h β H m w k) : o.wpIn (FW ρ) 0 P a w next Q := by
  obtain ⟨w', H', h', β', h1, h2, h3, h4⟩ := y
  refine wpIn_of_run hd ?_
  rw [he, Sem.run_bind, h1]
  exact hn (.tup []) H' h' β' w' undef h2 h3 h4 (.tup (fun _ => undef) rfl (by simp) (by simp))

theorem map_toList_eq {α γ : Type} (f : α → γ) (x : Array α) : x.map f = (x.toList.map f).toArray := by apply Array.ext'; simp

theorem evO_val (F : Fits P h β H σ a) {x : Option Operand} {r : Option AV} (e : evO σ x = some r) : (r = none ∧ x.map a.eval = none) ∨ ∃ q u, r = some q ∧ x.map a.eval = some u ∧ Rep P h β H q u := by
  rcases RepO.ev F e with ⟨rfl, rfl⟩ | ⟨o, v, rfl, rfl, hr⟩
  · exact .inl ⟨rfl, rfl⟩
  · exact .inr ⟨v, _, rfl, rfl, hr⟩

theorem AOp.sound {own : List Nat} {o : Oper} {k : AV → List Blk → Prop} (hk : AOp P own o.dst σ H k o.op) (s : SR P E h β H w) (F : Fits P h β H σ a) {next : Act → World → Prop} {Q : Exit → Act → World → Prop}
    (hn : NextOk P E h β H a o k next) : o.wpIn (FW ρ) 0 P a w next Q := by
  generalize ho : o.op = op at hk
  have hd : (∀ c, op ≠ .defer c) → ∀ c, o.op ≠ .defer c := fun hh c => by rw [ho]; exact hh c
  have hex : ∀ s, execOp a.eval { o with op := op } = s → execOp a.eval o = s := fun s e => by rw [← e]; cases o; cases ho; rfl
  cases op with
  | move x =>
    obtain ⟨r, h1, hk⟩ := bnd_elim hk
    exact wpIn_pure (hex _ rfl) (hd (by simp)) hn s (F.ev h1) hk
  | assign x =>
    obtain ⟨r, h1, hk⟩ := bnd_elim hk
    exact wpIn_pure (hex _ rfl) (hd (by simp)) hn s (F.ev h1) hk
  | pick c x y =>
    obtain ⟨r, h1, hk⟩ := bnd_elim hk
    split at hk
    · rename_i q
      have hc := rep_bool (F.ev h1)
      cases q with
      | true =>
        rw [Br_true] at hk
        obtain ⟨r, h2, hk⟩ := bnd_elim hk
        exact wpIn_pure (v := a.eval x) (hex _ (by show (do pure (Next.value (if ← asBool (a.eval c) then a.eval x else a.eval y)) : Sem Next) = _; rw [hc]; rfl)) (hd (by simp)) hn s (F.ev h2) hk
      | false =>
        rw [Br_false] at hk
        obtain ⟨r, h2, hk⟩ := bnd_elim hk
        exact wpIn_pure (v := a.eval y) (hex _ (by show (do pure (Next.value (if ← asBool (a.eval c) then a.eval x else a.eval y)) : Sem Next) = _; rw [hc]; rfl)) (hd (by simp)) hn s (F.ev h2) hk
    · exact hk.elim
  | alloc t =>
    obtain ⟨z, h1, hk⟩ := bnd_elim hk
    exact wpIn_value (hex _ rfl) (hd (by simp)) hn (alloc_sound s h1 hk)
  | box t x =>
    obtain ⟨r, h1, hk⟩ := bnd_elim hk
    split at hk
    · exact wpIn_value (hex _ rfl) (hd (by simp)) hn (boxO_sound s (F.ev h1) hk)
    · exact wpIn_value (hex _ rfl) (hd (by simp)) hn (boxI_sound s (F.ev h1) hk)
  | build t ps =>
    obtain ⟨rs, h1, hk⟩ := bnd_elim hk
    obtain ⟨e1, e2⟩ := evP_ok F h1
    refine wpIn_value' (hex _ rfl) (hd (by simp)) hn ?_
    rw [map_toList_eq]
    exact opBuild_sound s e1 e2 hk
  | buildSlice t n ps =>
    obtain ⟨rs, h1, hk⟩ := bnd_elim hk
    refine wpIn_value (hex _ rfl) (hd (by simp)) hn ?_
    rw [map_toList_eq]
    exact opBuildSlice_sound s F h1 hk
  | load t x =>
    obtain ⟨r, h1, hk⟩ := bnd_elim hk
    exact wpIn_value' (hex _ rfl) (hd (by simp)) hn (opLoad_sound s (F.ev h1) hk)
  | store t x v =>
    obtain ⟨r, h1, hk⟩ := bnd_elim hk
    obtain ⟨u, h2, hk⟩ := bnd_elim hk
    exact wpIn_unit (hex _ rfl) (hd (by simp)) hn (opStore_sound s (F.ev h1) (F.ev h2) hk)
  | nilCheck x =>
    obtain ⟨r, h1, hk⟩ := bnd_elim hk
    have hr := F.ev h1
    have key : k r H → (∃ ad, a.eval x = .pointer (some ad)) ∨ (∃ f vs, a.eval x = .func (.func f) #[] vs) → o.wpIn (FW ρ) 0 P a w next Q := by
      intro hk hv
      refine wpIn_pure (v := a.eval x) (hex _ ?_) (hd (by simp)) hn s hr hk
      unfold execOp
      rcases hv with ⟨ad, e⟩ | ⟨f, vs, e⟩ <;> simp only [e]
    unfold opNilCheck at hk
    split at hk
    · generalize a.eval x = v at hr key
      cases hr; exact key hk (.inl ⟨_, rfl⟩)
    · generalize a.eval x = v at hr key
      cases hr; exact key hk (.inl ⟨_, rfl⟩)
    · generalize a.eval x = v at hr key
      cases hr; exact key hk (.inl ⟨_, rfl⟩)
    · generalize a.eval x = v at hr key
      cases hr; exact key hk (.inr ⟨_, _, rfl⟩)
    · exact hk.elim
  | binOp op t x y yt =>
    obtain ⟨u, h1, hk⟩ := bnd_elim hk
    obtain ⟨v, h2, hk⟩ := bnd_elim hk
    refine wpIn_value' (hex _ rfl) (hd (by simp)) hn ?_
    obtain ⟨v, w', r, H', h', β', e1, ⟨rfl, e2⟩, e3⟩ := opBinE_sound s (F.ev h1) (F.ev h2) (k := (k · H)) hk x y
    exact ⟨v, w', r, _, h', β', e1, ⟨rfl, e2⟩, e3⟩
  | unOp op t x =>
    obtain ⟨r, h1, hk⟩ := bnd_elim hk
    exact wpIn_value' (hex _ rfl) (hd (by simp)) hn (opUn_sound s (F.ev h1) hk)
  | convert t d x =>
    obtain ⟨r, h1, hk⟩ := bnd_elim hk
    exact wpIn_value' (hex _ rfl) (hd (by simp)) hn (opConv_sound s (F.ev h1) hk)
  | makeFunc fn first caps =>
    cases fn with
    | func f =>
      obtain ⟨h0, hk⟩ := hk
      obtain ⟨cs, h1, hk⟩ := bnd_elim hk
      have hcs := F.evL h1
      have h0' : first = #[] := Array.eq_empty_of_size_eq_zero h0
      subst h0'
      refine wpIn_pure (v := .func (.func f) #[] (caps.map a.eval)) (hex _ (by show (do pure (Next.value (← Instr.makeFunc (.func f) ((#[] : Array Operand).map a.eval) (caps.map a.eval))) : Sem Next) = _; rw [Array.map_empty]; rfl)) (hd (by simp)) hn s ?_ hk
      exact .fn (fun j => (caps.map a.eval).getD j undef) (by simpa using hcs.1) (fun j x e => by
        obtain ⟨v, g1, _⟩ := hcs.2 j x e
        rw [map_toList_eq]; simp only [List.getElem?_toArray]; rw [g1]; simp [g1]) (fun j x e => by
        obtain ⟨v, g1, g2⟩ := hcs.2 j x e
        have : (caps.map a.eval).getD j undef = v := by rw [map_toList_eq]; simp [g1]
        rw [this]; exact g2)
    | _ => exact hk.elim
  | makeSlice t l c =>
    obtain ⟨l', h1, hk⟩ := bnd_elim hk
    obtain ⟨c', h2, hk⟩ := bnd_elim hk
    exact wpIn_value (hex _ rfl) (hd (by simp)) hn (opMakeSlice_sound s (F.ev h1) (F.ev h2) hk)
  | slice t x lo hi mx =>
    obtain ⟨r, h1, hk⟩ := bnd_elim hk
    obtain ⟨lo', h2, hk⟩ := bnd_elim hk
    obtain ⟨hi', h3, hk⟩ := bnd_elim hk
    obtain ⟨mx', h4, hk⟩ := bnd_elim hk
    exact wpIn_value' (hex _ rfl) (hd (by simp)) hn (opSlice_sound s (F.ev h1) (evO_val F h2) (evO_val F h3) (evO_val F h4) hk)
  | fieldAddr t x f =>
    obtain ⟨r, h1, hk⟩ := bnd_elim hk
    exact wpIn_value' (hex _ rfl) (hd (by simp)) hn (opFieldAddr_sound s (F.ev h1) hk)
  | field t x f =>
    obtain ⟨r, h1, hk⟩ := bnd_elim hk
    exact wpIn_value' (hex _ rfl) (hd (by simp)) hn (opField_sound s (F.ev h1) hk)
  | indexAddr t x i =>
    obtain ⟨r, h1, hk⟩ := bnd_elim hk
    obtain ⟨i', h2, hk⟩ := bnd_elim hk
    exact wpIn_value' (hex _ rfl) (hd (by simp)) hn (opIndexAddr_sound s (F.ev h1) (F.ev h2) hk)
  | index t x i =>
    obtain ⟨r, h1, hk⟩ := bnd_elim hk
    obtain ⟨i', h2, hk⟩ := bnd_elim hk
    exact wpIn_value' (hex _ rfl) (hd (by simp)) hn (opIndex_sound s (F.ev h1) (F.ev h2) hk)
  | extract x i =>
    obtain ⟨r, h1, hk⟩ := bnd_elim hk
    exact wpIn_value' (hex _ rfl) (hd (by simp)) hn (opExt_sound s (F.ev h1) hk)
  | call c => exact opCall_sound ho hk s F hn
  | makeMap t r =>
    cases r with
    | none => exact wpIn_value (hex _ rfl) (hd (by simp)) hn (opMakeMap_sound s hk)
    | some r => exact hk.elim
  | lookup t x i ok =>
    obtain ⟨r, h1, hk⟩ := bnd_elim hk
    obtain ⟨i', h2, hk⟩ := bnd_elim hk
    exact wpIn_value' (hex _ rfl) (hd (by simp)) hn (opLookup_sound s (F.ev h1) (F.ev h2) hk)
  | mapUpdate t m i v =>
    obtain ⟨r, h1, hk⟩ := bnd_elim hk
    obtain ⟨i', h2, hk⟩ := bnd_elim hk
    obtain ⟨v', h3, hk⟩ := bnd_elim hk
    exact wpIn_unit (hex _ rfl) (hd (by simp)) hn (opMapUpdate_run s (F.ev h1) (F.ev h2) (F.ev h3) hk)
  | insert t m i v =>
    obtain ⟨r, h1, hk⟩ := bnd_elim hk
    obtain ⟨i', h2, hk⟩ := bnd_elim hk
    obtain ⟨v', h3, hk⟩ := bnd_elim hk
    exact wpIn_unit (hex _ rfl) (hd (by simp)) hn (opMapUpdate_run s (F.ev h1) (F.ev h2) (F.ev h3) hk)
  | _ => exact hk.elim

theorem gate_wanted {all : List Oper} {o : Oper} {A B : Prop} (F : Fits P h β H σ a) (hg : gate all σ o.guard A B) :
    (Region.wanted o (yielded all.toArray a.tmps) = true ∧ A) ∨ (Region.wanted o (yielded all.toArray a.tmps) = false ∧ B) := by
  unfold gate at hg
  unfold Region.wanted
  cases hgd : o.guard with
  | none => rw [hgd] at hg; exact .inl ⟨rfl, hg⟩
  | some p =>
    obtain ⟨j, want⟩ := p
    rw [hgd] at hg
    obtain ⟨d, h1, hg1⟩ := bnd_elim hg
    obtain ⟨r, h2, hg2⟩ := bnd_elim hg1
    obtain ⟨v, h3, h4⟩ := F d r h2
    have hy : ∀ b, v = .bool b → yielded all.toArray a.tmps j = some b := by
      rintro b rfl
      unfold yielded
      simp only [List.getElem?_toArray, h1, Option.bind_some, h3]
    have hy' : v = .tuple #[] → yielded all.toArray a.tmps j = none := by
      rintro rfl
      unfold yielded
      simp only [List.getElem?_toArray, h1, Option.bind_some, h3]
    dsimp only
    split at hg2
    · rename_i b
      have := hy b (rep_bool h4)
      rw [this]
      by_cases hb : b = want
      · subst hb; simp [Br] at hg2 ⊢; exact hg2
      · have hb2 : (b == want) = false := by cases b <;> cases want <;> simp at hb ⊢
        rw [hb2, Br_false] at hg2
        right
        refine ⟨?_, hg2⟩
        cases b <;> cases want <;> simp at hb ⊢
    · cases h4 with
      | @tup _ vs us hs hc hr =>
        have : vs = #[] := Array.eq_empty_of_size_eq_zero hs
        subst this
        rw [hy' rfl]
        exact .inr ⟨rfl, hg2⟩
    · exact hg2.elim

theorem rep_undef : Rep P h β H (.tup []) undef := .tup (fun _ => undef) rfl (by simp) (by simp)

structure Keeps (a a' : Act) : Prop where
  size : a'.tmps.size = a.tmps.size
  defers : a'.defers = a.defers

theorem AReg.sound {N : Nat} {own : List Nat} {all : List Oper} {K : St → List Blk → Prop} {Q : Exit → Act → World → Prop} {a0 : Act} {h0 : Nat → Option Obj} {β0 : Nat → Value} {H0 : List Blk}
    (hQ : ∀ σ' H' h' β' a' w', K σ' H' → Ext h0 β0 H0 h' β' H' → SR P E h' β' H' w' → Fits P h' β' H' σ' a' → Keeps a0 a' → Q .normal a' w') :
    ∀ (l : List Oper) (i : Nat) (σ : St) (H : List Blk) (h : Nat → Option Obj) (β : Nat → Value) (a : Act) (w : World), (∀ j, l[j]? = all[i + j]?) → AReg P N own all l σ H K → Ext h0 β0 H0 h β H → SR P E h β H w → Fits P h β H σ a → Keeps a0 a → a.tmps.size = N →
      wpOpsIn (FW ρ) 0 P all.toArray Q ((List.range l.length).map (i + ·)) a w
  | [], i, σ, H, h, β, a, w, _, hk, X, s, F, kp, hN => hQ σ H h β a w hk X s F kp
  | o :: rest, i, σ, H, h, β, a, w, hl, hk, X, s, F, kp, hN => by
    have ho : all.toArray[i]? = some o := by have := hl 0; simpa using this.symm
    have hrange : (List.range (o :: rest).length).map (i + ·) = i :: (List.range rest.length).map (i + 1 + ·) := by
      simp only [List.length_cons, List.range_succ_eq_map, List.map_cons, List.map_map, Nat.add_zero]
      congr 1
      apply List.map_congr_left; intro j _; simp; omega
    rw [hrange]
    simp only [wpOpsIn, ho]
    have ih := fun σ' H' h' β' a' w' => AReg.sound (N := N) (own := own) hQ rest (i + 1) σ' H' h' β' a' w' (fun j => by have := hl (j + 1); simpa [Nat.add_assoc, Nat.add_comm 1 j] using this)
    simp only [AReg] at hk
    rcases gate_wanted F hk with ⟨hw, hA⟩ | ⟨hw, hB⟩
    · rw [if_pos hw]
      refine AOp.sound hA s F ?_
      intro r H' h' β' w' v hk' X' s' hr
      exact ih _ H' h' β' _ w' hk' (X.trans X') s' ((F.ext X').put hN hr) ⟨(size_put _ _ _).trans kp.size, (defers_put _ _ _).trans kp.defers⟩ ((size_put _ _ _).trans hN)
    · rw [if_neg (by rw [hw]; simp)]
      exact ⟨fun _ _ => trivial, ih _ H h β _ w hB X s (F.put hN rep_undef) ⟨(size_put _ _ _).trans kp.size, (defers_put _ _ _).trans kp.defers⟩ ((size_put _ _ _).trans hN)⟩
end
end GA
end

section
namespace GA
open Go Go.RowKit

abbrev Post := Exit → List Nat → St → List Blk → Prop

inductive DfL (P : Program) (h : Nat → Option Obj) (β : Nat → Value) (H : List Blk) (en : Nat → Option Obj) : List Nat → List Deferred → Prop
  | nil : DfL P h β H en [] []
  | own {i b D ds} (r : Rep P h β H (.yld i) (.func (.yield b) #[] #[])) (t : DfL P h β H en D ds) : DfL P h β H en (i :: D) ({ target := .collected b, args := #[] } :: ds)
  | lost {b D ds} (hb : h b = some (.deferred (some []))) (he : en b = none) (nd : ∀ b', ({ target := .collected b', args := #[] } : Deferred) ∈ ds → b' ≠ b) (t : DfL P h β H en D ds) : DfL P h β H en D ({ target := .collected b, args := #[] } :: ds)
structure DfOk (P : Program) (E : Env) (h : Nat → Option Obj) (β : Nat → Value) (H : List Blk) (D : List Nat) (ds : List Deferred) : Prop where
  en : ∀ b o, E.en b = some o → h b = some o
  l : DfL P h β H E.en D ds

structure Stands (P : Program) (E : Env) (N : Nat) (h : Nat → Option Obj) (β : Nat → Value) (D : List Nat) (σ : St) (H : List Blk) (a : Act) (w : World) : Prop where
  sr : SR P E h β H w
  fits : Fits P h β H σ a
  size : a.tmps.size = N
  df : DfOk P E h β H D a.defers

def Conc (P : Program) (E : Env) (N : Nat) (h : Nat → Option Obj) (β : Nat → Value) (H : List Blk) (Q : Post) (e : Exit) (a : Act) (w : World) : Prop :=
  ∃ D' σ' H' h' β', Q e D' σ' H' ∧ Ext h β H h' β' H' ∧ Stands P E N h' β' D' σ' H' a w

def AWp (P : Program) (N : Nat) (ρ : Option Nat) (c : Code) (Q : Post) (D : List Nat) (σ : St) (H : List Blk) : Prop :=
  ∀ E h β a w, Stands P E N h β D σ H a w → c.wpIn (FW ρ) 0 P (Conc P E N h β H Q) a w

def thenQ (K : List Nat → St → List Blk → Prop) (Q : Post) : Post
  | .normal, D, σ, H => K D σ H
  | e, D, σ, H => Q e D σ H
def blockQ (id : Nat) (Q : Post) : Post
  | .exit id', D, σ, H => if id' = id then Q .normal D σ H else Q (.exit id') D σ H
  | e, D, σ, H => Q e D σ H

section
variable {P : Program} {N : Nat} {ρ : Option Nat} {D : List Nat} {σ : St} {H : List Blk} {Q : Post}

theorem DfL.ext {h h' : Nat → Option Obj} {β β' : Nat → Value} {H H' : List Blk} {en : Nat → Option Obj} (X : Ext h β H h' β' H') {D : List Nat} {ds : List Deferred} (d : DfL P h β H en D ds) : DfL P h' β' H' en D ds := by
  induction d with
  | nil => exact .nil
  | own r _ ih => exact .own (X.rep r) ih
  | lost hb he nd _ ih => exact .lost (X.imm _ _ hb) he nd ih
theorem DfOk.ext {E : Env} {h h' : Nat → Option Obj} {β β' : Nat → Value} {H H' : List Blk} {ds : List Deferred} (d : DfOk P E h β H D ds) (X : Ext h β H h' β' H') : DfOk P E h' β' H' D ds :=
  ⟨fun b o e => X.imm b o (d.en b o e), d.l.ext X⟩
theorem DfL.any {h : Nat → Option Obj} {β β' : Nat → Value} {H H' : List Blk} {en : Nat → Option Obj} {D : List Nat} {ds : List Deferred} (d : DfL P h β H en D ds) (hD : D = []) : DfL P h β' H' en D ds := by
  induction d with
  | nil => exact .nil
  | own r _ ih => cases hD
  | lost hb he nd _ ih => exact .lost hb he nd (ih hD)
theorem DfOk.any {E : Env} {h : Nat → Option Obj} {β β' : Nat → Value} {H H' : List Blk} {ds : List Deferred} (d : DfOk P E h β H [] ds) : DfOk P E h β' H' [] ds := ⟨d.en, d.l.any rfl⟩

theorem Conc.mono {E : Env} {h : Nat → Option Obj} {β : Nat → Value} {Q' : Post} (hq : ∀ e D σ H, Q e D σ H → Q' e D σ H) {e : Exit} {a : Act} {w : World} (x : Conc P E N h β H Q e a w) : Conc P E N h β H Q' e a w :=
  let ⟨D', σ', H', h', β', q, r⟩ := x; ⟨D', σ', H', h', β', hq _ _ _ _ q, r⟩
theorem Conc.ext {E : Env} {h h' : Nat → Option Obj} {β β' : Nat → Value} {H' : List Blk} (X : Ext h β H h' β' H') {e : Exit} {a : Act} {w : World} (x : Conc P E N h' β' H' Q e a w) : Conc P E N h β H Q e a w :=
  let ⟨D', σ', H'', h'', β'', q, X', r⟩ := x; ⟨D', σ', H'', h'', β'', q, X.trans X', r⟩

theorem AWp.mono {c : Code} {Q' : Post} (x : AWp P N ρ c Q D σ H) (hq : ∀ e D σ H, Q e D σ H → Q' e D σ H) : AWp P N ρ c Q' D σ H :=
  fun E h β a w s => wpIn_mono (x E h β a w s) fun _ _ _ => Conc.mono hq

theorem AWp.weaken {c : Code} {σ' : St} (hs : ∀ t r, σ' t = some r → σ t = some r) (x : AWp P N ρ c Q D σ' H) : AWp P N ρ c Q D σ H :=
  fun E h β a w s => x E h β a w ⟨s.sr, fun t r e => s.fits t r (hs t r e), s.size, s.df⟩

theorem AWp.seq {c d : Code} (x : AWp P N ρ c (thenQ (AWp P N ρ d Q) Q) D σ H) : AWp P N ρ (.seq c d) Q D σ H := by
  intro E h β a w s
  refine wpIn_seq (wpIn_mono (x E h β a w s) ?_)
  rintro e a' w' ⟨D', σ', H', h', β', q, X, s'⟩
  cases e with
  | normal => exact wpIn_mono (q E h' β' a' w' s') fun _ _ _ => Conc.ext X
  | _ => exact ⟨D', σ', H', h', β', q, X, s'⟩

theorem AWp.skip (x : Q .normal D σ H) : AWp P N ρ .skip Q D σ H :=
  fun _ h β _ _ s => wpIn_skip ⟨D, σ, H, h, β, x, Ext.refl _ _ _, s⟩
theorem AWp.exit {id : Nat} (x : Q (.exit id) D σ H) : AWp P N ρ (.exit id) Q D σ H :=
  fun _ h β _ _ s => wpIn_exit ⟨D, σ, H, h, β, x, Ext.refl _ _ _, s⟩
theorem AWp.ret (x : Q .ret D σ H) : AWp P N ρ .ret Q D σ H :=
  fun _ h β _ _ s => wpIn_ret ⟨D, σ, H, h, β, x, Ext.refl _ _ _, s⟩

theorem AWp.cond {c : Operand} {x y : Code} {b : Bool} (hc : ev σ c = some (.bool b)) (h1 : b = true → AWp P N ρ x Q D σ H) (h2 : b = false → AWp P N ρ y Q D σ H) : AWp P N ρ (.cond c x y) Q D σ H := by
  intro E h β a w s
  have hv := rep_bool (s.fits.ev hc)
  cases b with
  | true => exact wpIn_cond_true hv (h1 rfl E h β a w s)
  | false => exact wpIn_cond_false hv (h2 rfl E h β a w s)

theorem AWp.block {id : Nat} {c : Code} (x : AWp P N ρ c (blockQ id Q) D σ H) : AWp P N ρ (.block id c) Q D σ H := by
  intro E h β a w s
  refine wpIn_block (wpIn_mono (x E h β a w s) ?_)
  rintro e a' w' ⟨D', σ', H', h', β', q, X, s'⟩
  cases e with
  | exit id' =>
    simp only [Exit.inBlock]
    by_cases hid : id' = id
    · rw [if_pos hid]; simp only [blockQ, hid, if_true] at q; exact ⟨D', σ', H', h', β', q, X, s'⟩
    · rw [if_neg hid]; simp only [blockQ, hid, if_false] at q; exact ⟨D', σ', H', h', β', q, X, s'⟩
  | _ => exact ⟨D', σ', H', h', β', q, X, s'⟩

theorem AWp.region {id : Nat} {ops : Array Oper} (own : List Nat) (x : AReg P N own ops.toList ops.toList σ H (fun σ' H' => Q .normal D σ' H')) : AWp P N ρ (.region id ops false) Q D σ H := by
  intro E h β a w s
  refine wpIn_region ?_
  have := AReg.sound (ρ := ρ) (Q := Conc P E N h β H Q) (a0 := a) (h0 := h) (β0 := β) (H0 := H) (fun σ' H' h' β' a' w' k X s' F kp => ⟨D, σ', H', h', β', k, X, s', F, kp.size.trans s.size, by rw [kp.defers]; exact s.df.ext X⟩)
    ops.toList 0 σ H h β a w (by simp) x (Ext.refl _ _ _) s.sr s.fits ⟨rfl, rfl⟩ s.size
  simpa using this

theorem exists_least {p : Nat → Prop} (h : ∃ n, p n) : ∃ n, p n ∧ ∀ m, m < n → ¬ p m := by
  obtain ⟨n, hn⟩ := h
  induction n using Nat.strongRecOn with
  | _ n ih =>
    by_cases hm : ∃ m, m < n ∧ p m
    · obtain ⟨m, h1, h2⟩ := hm; exact ih m h1 h2
    · exact ⟨n, hn, fun m h1 h2 => hm ⟨m, h1, h2⟩⟩

theorem AWp.loop {c : Code} {G : Type} (st : G → St) (hp : G → List Blk) (μ : G → Nat) (g0 : G) (hσ : ∀ t r, st g0 t = some r → σ t = some r) (hH : hp g0 = H)
    (round : ∀ g, AWp P N ρ c (thenQ (fun D' σ' H' => D' = D ∧ ∃ g', μ g' < μ g ∧ hp g' = H' ∧ ∀ t r, st g' t = some r → σ' t = some r) Q) D (st g) (hp g)) : AWp P N ρ (.loop c) Q D σ H := by
  intro E h β a w s
  subst hH
  let I : G → Act → World → Prop := fun g a w => ∃ h' β', Ext h β (hp g0) h' β' (hp g) ∧ Stands P E N h' β' D (st g) (hp g) a w
  have least : ∀ a w, (∃ g, I g a w) → ∃ n, (∃ g, I g a w ∧ μ g = n) ∧ ∀ m, m < n → ¬ ∃ g, I g a w ∧ μ g = m :=
    fun a w ⟨g, hg⟩ => exists_least ⟨μ g, g, hg, rfl⟩
  classical
  let M : Act → World → Nat := fun a w => if e : ∃ g, I g a w then Classical.choose (least a w e) else 0
  have hM : ∀ a w (e : ∃ g, I g a w), (∃ g, I g a w ∧ μ g = M a w) ∧ ∀ g, I g a w → M a w ≤ μ g := by
    intro a w e
    have hc := Classical.choose_spec (least a w e)
    have hm : M a w = Classical.choose (least a w e) := by simp only [M, dif_pos e]
    rw [hm]
    refine ⟨hc.1, fun g hg => ?_⟩
    rcases Nat.lt_or_ge (μ g) (Classical.choose (least a w e)) with hlt | hge
    · exact absurd ⟨g, hg, rfl⟩ (hc.2 _ hlt)
    · exact hge
  refine wpIn_loop (fun a w => ∃ g, I g a w) M ⟨g0, h, β, Ext.refl _ _ _, s.sr, fun t r e => s.fits t r (hσ t r e), s.size, s.df⟩ ?_
  intro a' w' hI
  obtain ⟨⟨g, hg, hmu⟩, _⟩ := hM a' w' hI
  obtain ⟨h', β', X, s'⟩ := hg
  refine wpIn_mono (round g E h' β' a' w' s') ?_
  rintro e a'' w'' ⟨D'', σ'', H'', h'', β'', q, X', s''⟩
  cases e with
  | normal =>
    obtain ⟨rfl, g', hlt, rfl, hsub⟩ := q
    have hI' : I g' a'' w'' := ⟨h'', β'', X.trans X', s''.sr, fun t r e => s''.fits t r (hsub t r e), s''.size, s''.df⟩
    refine ⟨⟨g', hI'⟩, ?_⟩
    have := (hM a'' w'' ⟨g', hI'⟩).2 g' hI'
    omega
  | _ => exact ⟨D'', σ'', H'', h'', β'', q, X.trans X', s''⟩
end

mutual
def AV.low (n : Nat) : AV → Bool
  | .ptr i _ | .gr i _ | .gp i _ _ _ | .mp i | .yld i => decide (i < n)
  | .pim cs | .sl _ cs | .fn _ cs | .agg cs | .tup cs => lowL n cs
  | _ => true
def lowL (n : Nat) : List AV → Bool
  | [] => true
  | x :: l => x.low n && lowL n l
end

def Blk.low (n : Nat) : Blk → Bool
  | .cells cs | .grow _ _ cs => lowL n cs
  | .map es => lowL n (es.map (·.2))
  | .lp _ _ _ tm _ _ _ _ => lowL n (tm.map (·.2))
  | _ => true

def resA (P : Program) (σ : St) (H : List Blk) : List ResultVar → (List AV → Prop) → Prop
  | [], k => k []
  | .tmp t :: l, k => bnd (σ t) fun r => resA P σ H l fun rs => k (r :: rs)
  | .cell a t :: l, k => bnd (σ a) fun p => opLoad P t H p fun r => resA P σ H l fun rs => k (r :: rs)

def pack : List AV → AV
  | [r] => r
  | rs => .tup rs

def FnPost (P : Program) (res : List ResultVar) (H0 : List Blk) (k : AV → List Blk → Prop) : Post := fun e D σ H =>
  (e = .normal ∨ e = .ret) ∧ ∃ H1 l, H = H1 ++ l ∧ H0.length ≤ H1.length ∧ (∀ x ∈ H1, x ∈ H0 ∨ x.low H1.length = true) ∧ D.Nodup ∧
    (∀ i ∈ D, H1.length ≤ i ∧ H[i]? = some (.raw (.deferred (some [])))) ∧ resA P σ H res fun rs => (pack rs).low H1.length = true ∧ k (pack rs) H1

section
variable {P : Program} {N : Nat} {E : Env} {h : Nat → Option Obj} {β : Nat → Value} {H : List Blk} {w : World} {σ : St} {a : Act}

theorem lowL_iff {n : Nat} : ∀ {l : List AV}, lowL n l = true ↔ ∀ x ∈ l, x.low n = true
  | [] => by simp [lowL]
  | x :: l => by simp [lowL, lowL_iff (l := l)]

theorem AV.low_mono {n m : Nat} (hl : n ≤ m) : ∀ {a : AV}, a.low n = true → a.low m = true := by
  intro a
  induction a using AV.rec (motive_2 := fun l => lowL n l = true → lowL m l = true) with
  | ptr | gr | gp | mp | yld => simp only [AV.low, decide_eq_true_eq]; omega
  | pim _ ih | sl _ _ ih | fn _ _ ih | agg _ ih | tup _ ih => simpa only [AV.low] using ih
  | nil => rfl
  | cons x l h1 h2 => rename_i e; simp only [lowL, Bool.and_eq_true] at e ⊢; exact ⟨h1 e.1, h2 e.2⟩
  | _ => exact fun _ => rfl
theorem lowL_mono {n m : Nat} (hl : n ≤ m) {l : List AV} (e : lowL n l = true) : lowL m l = true := by
  rw [lowL_iff] at e ⊢; exact fun x hx => AV.low_mono hl (e x hx)
theorem low_mono {n m : Nat} (hl : n ≤ m) {x : Blk} (e : x.low n = true) : x.low m = true := by
  cases x <;> first | rfl | exact lowL_mono hl e

theorem low_cells {n : Nat} {e : AV} : e.low n = true ↔ ∀ x ∈ e.cells, x.low n = true := by
  cases e <;> simp [AV.cells]
  simp [AV.low, lowL_iff]
theorem low_flat {n : Nat} {l : List AV} : lowL n l = true ↔ ∀ x ∈ flat l, x.low n = true := by
  rw [lowL_iff]
  constructor
  · intro hb x hx
    obtain ⟨e, he, hx⟩ := List.mem_flatMap.1 hx
    exact low_cells.1 (hb e he) x hx
  · intro hb e he
    exact low_cells.2 fun x hx => hb x (List.mem_flatMap.2 ⟨e, he, hx⟩)

theorem mem_get {α : Type} {l : List α} {x : α} (hx : x ∈ l) : ∃ j : Nat, l[j]? = some x := List.mem_iff_getElem?.1 hx

theorem Rep.low {r : AV} {v : Value} (hr : Rep P h β H r v) : r.low H.length = true := by
  induction hr with
  | ptr hi => have := hi.lt; simp [AV.low, this]
  | gr _ hi => have := hi.lt; simp [AV.low, this]
  | gp hi => have := hi.lt; simp [AV.low, this]
  | mp hi => have := hi.lt; simp [AV.low, this]
  | yld hi => have := hi.lt; simp [AV.low, this]
  | pim us _ _ _ _ ih => simp only [AV.low]; rw [lowL_iff]; intro x hx; obtain ⟨j, e⟩ := mem_get hx; exact ih j x e
  | sl us _ _ _ _ _ _ _ _ _ ih => simp only [AV.low]; rw [low_flat]; intro x hx; obtain ⟨j, e⟩ := mem_get hx; exact ih j x e
  | fn us _ _ _ ih => simp only [AV.low]; rw [lowL_iff]; intro x hx; obtain ⟨j, e⟩ := mem_get hx; exact ih j x e
  | agg us _ _ _ _ ih => simp only [AV.low]; rw [lowL_iff]; intro x hx; obtain ⟨j, e⟩ := mem_get hx; exact ih j x e
  | tup us _ _ _ ih => simp only [AV.low]; rw [lowL_iff]; intro x hx; obtain ⟨j, e⟩ := mem_get hx; exact ih j x e
  | _ => rfl

theorem Rep.cut {l : List Blk} {r : AV} {v : Value} (hr : Rep P h β (H ++ l) r v) (hb : r.low H.length = true) : Rep P h β H r v := by
  have hg : ∀ {i : Nat}, i < H.length → (H ++ l)[i]? = H[i]? := fun hi => List.getElem?_append_left hi
  induction hr with
  | bool b => exact .bool b
  | int k n => exact .int k n
  | nilp => exact .nilp
  | ptr hi h1 => simp only [AV.low, decide_eq_true_eq] at hb; exact .ptr (hi.app hb) (by rw [hg hb] at h1; exact h1)
  | pim us h1 h2 h3 _ ih =>
    simp only [AV.low] at hb; rw [lowL_iff] at hb
    exact .pim us h1 h2 h3 fun j x e => ih j x e (hb x (List.mem_of_getElem? e))
  | slnil => exact .slnil
  | slemp => exact .slemp
  | sl us h1 h2 h3 h4 h5 h6 h7 h8 _ ih =>
    simp only [AV.low] at hb; rw [low_flat] at hb
    exact .sl us h1 h2 h3 h4 h5 h6 h7 h8 fun j x e => ih j x e (hb x (List.mem_of_getElem? e))
  | se => exact .se
  | gr ho hi h1 => simp only [AV.low, decide_eq_true_eq] at hb; exact .gr ho (hi.app hb) (by rw [hg hb] at h1; exact h1)
  | gp hi h1 => simp only [AV.low, decide_eq_true_eq] at hb; exact .gp (hi.app hb) (by rw [hg hb] at h1; exact h1)
  | nilm => exact .nilm
  | mp hi h1 => simp only [AV.low, decide_eq_true_eq] at hb; exact .mp (hi.app hb) (by rw [hg hb] at h1; exact h1)
  | nilf => exact .nilf
  | yld hi h1 => simp only [AV.low, decide_eq_true_eq] at hb; exact .yld (hi.app hb) (by rw [hg hb] at h1; exact h1)
  | fn us h1 h2 _ ih =>
    simp only [AV.low] at hb; rw [lowL_iff] at hb
    exact .fn us h1 h2 fun j x e => ih j x e (hb x (List.mem_of_getElem? e))
  | agg us h1 h2 h3 _ ih =>
    simp only [AV.low] at hb; rw [lowL_iff] at hb
    exact .agg us h1 h2 h3 fun j x e => ih j x e (hb x (List.mem_of_getElem? e))
  | tup us h1 h2 _ ih =>
    simp only [AV.low] at hb; rw [lowL_iff] at hb
    exact .tup us h1 h2 fun j x e => ih j x e (hb x (List.mem_of_getElem? e))

theorem SR.low (s : SR P E h β H w) {i : Nat} {x : Blk} (hx : H[i]? = some x) : x.low H.length = true := by
  have k := s.blk i x hx
  cases x with
  | dead => rfl
  | free => rfl
  | raw o => rfl
  | lp st pend f tm ps x y n =>
    obtain ⟨b, dfr, tmps, h1, h2, h3, h4⟩ := k
    simp only [Blk.low]; rw [lowL_iff]; intro x hx
    obtain ⟨⟨q, y⟩, hy, rfl⟩ := List.mem_map.1 hx
    obtain ⟨v, _, h5⟩ := h4 q y hy; exact h5.low
  | cells cs =>
    obtain ⟨b, c, t, h1, h2, h3, h4, us, h5, h6⟩ := k
    simp only [Blk.low]; rw [lowL_iff]; intro x hx; obtain ⟨j, e⟩ := mem_get hx; exact (h6 j x e).low
  | grow t nl els =>
    rcases k with ⟨_, rfl, _⟩ | ⟨_, rfl, _⟩ | ⟨_, b, cap, c, _, _, _, _, _, _, _, _, _, us, _, h6⟩
    · rfl
    · rfl
    · simp only [Blk.low]; rw [low_flat]; intro x hx; obtain ⟨j, e⟩ := mem_get hx; exact (h6 j x e).low
  | map es =>
    obtain ⟨r, ents, clock, _, _, _, _, us, h5⟩ := k
    simp only [Blk.low]; rw [lowL_iff]; intro x hx
    obtain ⟨⟨q, y⟩, hy, rfl⟩ := List.mem_map.1 hx
    obtain ⟨j, e⟩ := mem_get hy; exact (h5 j q y e).1.low

theorem SR.cut {l : List Blk} (s : SR P E h β (H ++ l) w) (hb : ∀ x ∈ H, x.low H.length = true) : SR P E h β H w := by
  have hg : ∀ {i : Nat}, i < H.length → (H ++ l)[i]? = H[i]? := fun hi => List.getElem?_append_left hi
  have hbo : ∀ {i b}, blkOf β H i = some b → blkOf β (H ++ l) i = some b := fun {i b} e => by rw [← e]; exact blkOf_congr rfl (hg (blkOf_some e).1)
  refine ⟨s.env, s.imm, fun i x e => ?_, fun i j b h1 h2 => s.own i j b (hbo h1) (hbo h2), fun i b h1 => s.fresh i b (hbo h1), s.frm, fun i b h1 => s.fro i b (hbo h1)⟩
  have hi := (List.getElem?_eq_some_iff.1 e).1
  have k := s.blk i x (by rw [hg hi]; exact e)
  have hbx := hb x (List.mem_of_getElem? e)
  cases x with
  | dead => trivial
  | free => trivial
  | raw o => exact k
  | lp st pend f tm ps x y n =>
    obtain ⟨b, dfr, tmps, h1, h2, h3, h4⟩ := k
    simp only [Blk.low] at hbx; rw [lowL_iff] at hbx
    exact ⟨b, dfr, tmps, h1, h2, h3, fun t r e => let ⟨v, a, c⟩ := h4 t r e; ⟨v, a, c.cut (hbx r (List.mem_map.2 ⟨_, e, rfl⟩))⟩⟩
  | cells cs =>
    obtain ⟨b, c, t, h1, h2, h3, h4, us, h5, h6⟩ := k
    simp only [Blk.low] at hbx; rw [lowL_iff] at hbx
    exact ⟨b, c, t, h1, h2, h3, h4, us, h5, fun j x e => (h6 j x e).cut (hbx x (List.mem_of_getElem? e))⟩
  | grow t nl els =>
    rcases k with k | k | ⟨h0, b, cap, c, h1, h2, h3, h4, h5, h6, h7, h8, h9, us, h10, h11⟩
    · exact .inl k
    · exact .inr (.inl k)
    · simp only [Blk.low] at hbx; rw [low_flat] at hbx
      exact .inr (.inr ⟨h0, b, cap, c, h1, h2, h3, h4, h5, h6, h7, h8, h9, us, h10, fun j x e => (h11 j x e).cut (hbx x (List.mem_of_getElem? e))⟩)
  | map es =>
    obtain ⟨r, ents, clock, h1, h2, h3, h4, us, h5⟩ := k
    simp only [Blk.low] at hbx; rw [lowL_iff] at hbx
    exact ⟨r, ents, clock, h1, h2, h3, h4, us, fun j q x e => ⟨(h5 j q x e).1.cut (hbx x (List.mem_map.2 ⟨_, List.mem_of_getElem? e, rfl⟩)), (h5 j q x e).2⟩⟩

theorem Ext.cut {h0 : Nat → Option Obj} {β0 : Nat → Value} {H0 l : List Blk} (X : Ext h0 β0 H0 h β (H ++ l)) (hl : H0.length ≤ H.length) : Ext h0 β0 H0 h β H :=
  ⟨X.imm, hl, fun i x x' e e' => X.to i x x' e (by rw [List.getElem?_append_left (List.getElem?_eq_some_iff.1 e').1]; exact e')⟩

def resF (a : Act) : ResultVar → Sem Value
  | .tmp t => pure (a.tmps.getD t undef)
  | .cell p t => do loadVar t (← asAddr (a.tmps.getD p undef))

theorem resA_run (s : SR P E h β H w) (F : Fits P h β H σ a) : ∀ {l : List ResultVar} {k : List AV → Prop}, resA P σ H l k →
    ∃ vs rs, (l.mapM (resF a)).run P w = .ok vs w ∧ RepL P h β H rs vs ∧ k rs
  | [], k, hk => ⟨[], [], rfl, .nil, hk⟩
  | .tmp t :: l, k, hk => by
    obtain ⟨r, h1, hk⟩ := bnd_elim hk
    obtain ⟨v, h2, h3⟩ := F t r h1
    obtain ⟨vs, rs, e1, e2, e3⟩ := resA_run s F hk
    refine ⟨v :: vs, r :: rs, ?_, .cons h3 e2, e3⟩
    have hx : (resF a (.tmp t)).run P w = .ok v w := by simp [resF, h2]
    rw [List.mapM_cons, Sem.run_bind, hx, Result.andThen_ok, Sem.run_bind, e1]; rfl
  | .cell p t :: l, k, hk => by
    obtain ⟨r, h1, hk⟩ := bnd_elim hk
    obtain ⟨v, h2, h3⟩ := F p r h1
    obtain ⟨ad, u, r', rfl, h4, h5, h6⟩ := opLoad_pure s h3 hk
    obtain ⟨vs, rs, e1, e2, e3⟩ := resA_run s F h6
    refine ⟨u :: vs, r' :: rs, ?_, .cons h5 e2, e3⟩
    have hx : (resF a (.cell p t)).run P w = .ok u w := by simp [resF, h2, asAddr, h4]
    rw [List.mapM_cons, Sem.run_bind, hx, Result.andThen_ok, Sem.run_bind, e1]; rfl

theorem pack_rep {rs : List AV} {vs : List Value} (hr : RepL P h β H rs vs) : Rep P h β H (pack rs) (if h : vs.toArray.size = 1 then vs.toArray[0] else .tuple vs.toArray) := by
  obtain ⟨h1, h2⟩ := hr
  have tup : vs.length ≠ 1 → Rep P h β H (.tup rs) (.tuple vs.toArray) := fun _ =>
    .tup (fun j => vs.getD j undef) (by simpa using h1) (fun j x e => by obtain ⟨v, g1, _⟩ := h2 j x e; simp [g1]) (fun j x e => by obtain ⟨v, g1, g2⟩ := h2 j x e; simp [g1, g2])
  match rs, vs, h1, h2, tup with
  | [r], [v], _, h2, _ => obtain ⟨u, g1, g2⟩ := h2 0 r rfl; simp at g1; subst g1; simpa [pack] using g2
  | [], [], _, _, tup => simpa [pack] using tup (by simp)
  | r :: r' :: rs, v :: v' :: vs, _, _, tup => simpa [pack] using tup (by simp)

theorem results_run (s : SR P E h β H w) (F : Fits P h β H σ a) {fn : Func} {k : List AV → Prop} (hk : resA P σ H fn.results.toList k) :
    ∃ v rs, (results fn a.tmps).run P w = .ok v w ∧ Rep P h β H (pack rs) v ∧ k rs := by
  obtain ⟨vs, rs, e1, e2, e3⟩ := resA_run s F hk
  refine ⟨_, rs, ?_, pack_rep e2, e3⟩
  show (do let vs ← fn.results.mapM (resF a); pure (if h : vs.size = 1 then vs[0] else .tuple vs) : Sem Value).run P w = _
  rw [Sem.run_bind, Array.mapM_eq_mapM_toList, Sem.run_map, e1]
  rfl
end
end GA
end

section
namespace GA
open Go Go.RowKit

section
variable {P : Program} {N : Nat} {E : Env} {h : Nat → Option Obj} {β : Nat → Value} {H : List Blk} {w : World} {σ : St} {a : Act}

theorem atP_raw {i : Nat} {o o' : Obj} (hi : H[i]? = some (.raw o)) {p : AV} {cs : List AV} (e : atP H p = some cs) : atP (H.set i (.raw o')) p = some cs := by
  have hlt := (List.getElem?_eq_some_iff.1 hi).1
  have hg : ∀ (j : Nat) (x : Blk), H[j]? = some x → (∀ o, x ≠ Blk.raw o) → (H.set i (.raw o'))[j]? = some x := by
    intro j x hj hx
    by_cases hij : i = j
    · subst hij; rw [hi] at hj; cases hj; exact absurd rfl (hx _)
    · rw [List.getElem?_set_ne hij]; exact hj
  cases p with
  | pim cs => exact e
  | ptr j o =>
    simp only [atP] at e ⊢
    split at e <;> cases e
    rename_i h1
    rw [hg j _ h1 (by simp)]
  | gp j n e' o =>
    simp only [atP] at e ⊢
    split at e
    · rename_i h1; rw [hg j _ h1 (by simp)]; exact e
    · cases e
  | _ => cases e

theorem resA_raw {i : Nat} {o o' : Obj} (hi : H[i]? = some (.raw o)) : ∀ {l : List ResultVar} {k : List AV → Prop}, resA P σ H l k → resA P σ (H.set i (.raw o')) l k
  | [], _, hk => hk
  | .tmp t :: l, k, hk => by
    obtain ⟨r, h1, hk⟩ := bnd_elim hk
    simp only [resA, h1, bnd_some]; exact resA_raw hi hk
  | .cell p t :: l, k, hk => by
    obtain ⟨r, h1, hk⟩ := bnd_elim hk
    obtain ⟨ti, h2, hk⟩ := bnd_elim hk
    obtain ⟨cs, h3, hk⟩ := bnd_elim hk
    simp only [resA, h1, bnd_some, opLoad, h2, atP_raw hi h3]
    split at hk
    · rename_i h4; rw [if_pos h4]; exact ⟨hk.1, resA_raw hi hk.2⟩
    · rename_i h4; rw [if_neg h4]
      obtain ⟨y, h5, hk⟩ := bnd_elim hk
      rw [h5, bnd_some]; exact resA_raw hi hk

def hid (h : Nat → Option Obj) (b : Nat) : Nat → Option Obj := fun x => if x = b then none else h x
theorem hid_ne {b x : Nat} (hx : x ≠ b) : hid h b x = h x := by simp [hid, hx]
theorem Rep.hid {b : Nat} {x : Option (List Deferred)} (hb : h b = some (.deferred x)) {r : AV} {v : Value} (y : Rep P h β H r v) : Rep P (GA.hid h b) β H r v := by
  have hc : ∀ {q : Nat} {c t fz}, h q = some (.cells c t fz) → GA.hid h b q = some (.cells c t fz) := by
    intro q c t fz e
    rw [hid_ne]; exact e
    rintro rfl; rw [hb] at e; cases e
  induction y with
  | bool b => exact .bool b
  | int k n => exact .int k n
  | nilp => exact .nilp
  | ptr hi h1 => exact .ptr hi h1
  | pim us h1 h2 h3 _ ih => exact .pim us h1 (hc h2) h3 ih
  | slnil => exact .slnil
  | slemp => exact .slemp
  | sl us h1 h2 h3 h4 h5 h6 h7 h8 _ ih => exact .sl us h1 h2 (hc h3) h4 h5 h6 h7 h8 ih
  | se => exact .se
  | gr h1 hi h2 => exact .gr h1 hi h2
  | gp hi h2 => exact .gp hi h2
  | nilm => exact .nilm
  | mp hi h1 => exact .mp hi h1
  | nilf => exact .nilf
  | yld hi h1 => exact .yld hi h1
  | fn us h1 h2 _ ih => exact .fn us h1 h2 ih
  | agg us h1 h2 h3 _ ih => exact .agg us h1 h2 h3 ih
  | tup us h1 h2 _ ih => exact .tup us h1 h2 ih
theorem CellsOk.map {h' : Nat → Option Obj} (f : ∀ r v, Rep P h β H r v → Rep P h' β H r v) {cs : List AV} {c : Array Value} (k : CellsOk P h β H cs c) : CellsOk P h' β H cs c :=
  let ⟨us, a, b⟩ := k; ⟨us, a, fun j x e => f _ _ (b j x e)⟩
theorem BlkOk.map {h' : Nat → Option Obj} (f : ∀ r v, Rep P h β H r v → Rep P h' β H r v) {heap heap' : Array Obj} {i : Nat} {x : Blk} (hh : x ≠ .dead → x ≠ .free → ∀ b, anchor (β i) = some b → heap'[b]? = heap[b]?)
    (k : BlkOk P h β H heap i x) : BlkOk P h' β H heap' i x := by
  cases x with
  | dead => trivial
  | free => trivial
  | lp st pend f' tm ps x y n =>
    obtain ⟨b, dfr, tmps, h1, h2, h3, h4⟩ := k
    exact ⟨b, dfr, tmps, h1, by rw [hh (by simp) (by simp) b (by rw [h1]; rfl)]; exact h2, h3, fun t r e => let ⟨v, a, c⟩ := h4 t r e; ⟨v, a, f _ _ c⟩⟩
  | cells cs =>
    obtain ⟨b, c, t, h1, h2, h3, h4, h5⟩ := k
    exact ⟨b, c, t, h1, by rw [hh (by simp) (by simp) b (by rw [h1]; rfl)]; exact h2, h3, h4, h5.map f⟩
  | grow t nl els =>
    rcases k with ⟨h1, h2, h3⟩ | ⟨h1, h2, a, h3⟩ | ⟨h1, b, cap, c, h2, h3, h4, h5, h6, h7, h8, h9, h10, h11⟩
    · exact .inl ⟨h1, h2, h3⟩
    · exact .inr (.inl ⟨h1, h2, a, h3⟩)
    · exact .inr (.inr ⟨h1, b, cap, c, h2, h3, by rw [hh (by simp) (by simp) b (by rw [h2]; simp [anchor]; omega)]; exact h4, h5, h6, h7, h8, h9, h10, h11.map f⟩)
  | map es =>
    obtain ⟨r, ents, clock, h1, h2, h3, h4, us, h5⟩ := k
    exact ⟨r, ents, clock, h1, by rw [hh (by simp) (by simp) r (by rw [h1]; rfl)]; exact h2, h3, h4, us, fun j q x e => let ⟨a, b⟩ := h5 j q x e; ⟨f _ _ a, b⟩⟩
  | raw o =>
    obtain ⟨b, h1, h2⟩ := k
    exact ⟨b, h1, by rw [hh (by simp) (by simp) b (by rw [h1]; rfl)]; exact h2⟩
theorem SR.hid {b : Nat} {x : Option (List Deferred)} (hb : h b = some (.deferred x)) (o : Obj) (s : SR P E h β H w) : SR P E (GA.hid h b) β H (w.putObj b o) := by
  have hne : ∀ {q}, h q = none → q ≠ b := fun e => by rintro rfl; rw [hb] at e; cases e
  refine ⟨s.env, fun q p e => ?_, fun i y e => ?_, s.own, fun i q e => ?_, fun q p e => ?_, s.fro⟩
  · unfold GA.hid at e; split at e
    · cases e
    · rename_i hq; rw [World.putObj_heap_other hq]; exact s.imm q p e
  · refine (s.blk i y e).map (fun r v => Rep.hid hb) fun hd hd' q hq => World.putObj_heap_other ?_
    refine hne (s.fresh i q ?_)
    unfold blkOf; rw [e]; cases y <;> first | exact absurd rfl hd | exact absurd rfl hd' | exact hq
  · rw [hid_ne (hne (s.fresh i q e))]; exact s.fresh i q e
  · obtain ⟨h1, h2⟩ := s.frm q p e
    exact ⟨by rw [World.putObj_heap_other (hne h2)]; exact h1, by rw [hid_ne (hne h2)]; exact h2⟩
theorem DfL.hid {b : Nat} {x : Option (List Deferred)} {en : Nat → Option Obj} (hb : h b = some (.deferred x)) {D : List Nat} {ds : List Deferred} (d : DfL P h β H en D ds) (nd : ∀ b', ({ target := .collected b', args := #[] } : Deferred) ∈ ds → b' ≠ b) : DfL P (GA.hid h b) β H en D ds := by
  induction d with
  | nil => exact .nil
  | own r _ ih => exact .own (Rep.hid hb r) (ih fun b' hb' => nd b' (List.mem_cons_of_mem _ hb'))
  | lost h1 he nd' _ ih => exact .lost (by rw [hid_ne (nd _ List.mem_cons_self)]; exact h1) he nd' (ih fun b' hb' => nd b' (List.mem_cons_of_mem _ hb'))
theorem DfOk.hid {b : Nat} {x : Option (List Deferred)} (hb : h b = some (.deferred x)) (he : E.en b = none) {D : List Nat} {ds : List Deferred} (d : DfOk P E h β H D ds) (nd : ∀ b', ({ target := .collected b', args := #[] } : Deferred) ∈ ds → b' ≠ b) : DfOk P E (GA.hid h b) β H D ds :=
  ⟨fun q o e => by rw [hid_ne (by rintro rfl; rw [he] at e; cases e)]; exact d.en q o e, d.l.hid hb nd⟩
theorem Ext.hid {b : Nat} {h0 : Nat → Option Obj} {β0 : Nat → Value} {H0 : List Blk} (X : Ext h0 β0 H0 h β H) (he : h0 b = none) : Ext h0 β0 H0 (GA.hid h b) β H :=
  ⟨fun q o e => by rw [hid_ne (by rintro rfl; rw [he] at e; cases e)]; exact X.imm q o e, X.len, X.to⟩
theorem Fits.hid {b : Nat} {x : Option (List Deferred)} (hb : h b = some (.deferred x)) (F : Fits P h β H σ a) : Fits P (GA.hid h b) β H σ a := fun t r e => let ⟨v, a, c⟩ := F t r e; ⟨v, a, Rep.hid hb c⟩

theorem leaves {fn : Func} {h0 : Nat → Option Obj} {β0 : Nat → Value} {H0 H1 : List Blk} {k : AV → List Blk → Prop} (hen : ∀ b, E.en b = none → h0 b = none) (hlen : H0.length ≤ H1.length) (hlow : ∀ x ∈ H1, x.low H1.length = true) :
    ∀ (ds : List Deferred) (D : List Nat) (h : Nat → Option Obj) (β : Nat → Value) (l : List Blk) (w : World), Ext h0 β0 H0 h β (H1 ++ l) → SR P E h β (H1 ++ l) w → Fits P h β (H1 ++ l) σ a → DfOk P E h β (H1 ++ l) D ds → D.Nodup →
      (∀ i ∈ D, H1.length ≤ i ∧ (H1 ++ l)[i]? = some (.raw (.deferred (some [])))) → resA P σ (H1 ++ l) fn.results.toList (fun rs => (pack rs).low H1.length = true ∧ k (pack rs) H1) →
      LeavesInM (FW none) 0 P fn a.tmps (Ends P E h0 β0 H0 k) ds .returning w
  | [], D, h, β, l, w, X, s, F, df, _, _, hr => by
    obtain ⟨v, rs, e1, e2, e3, e4⟩ := results_run s F hr
    exact ⟨v, e1, pack rs, H1, h, β, v, rfl, e4, X.cut hlen, s.cut hlow, e2.cut e3⟩
  | d :: ds, D, h, β, l, w, X, s, F, ⟨hen2, df⟩, hnd, hD, hr => by
    cases df with
    | @lost b _ _ hb he nd t =>
      have h4 := s.imm _ _ hb
      have htake := run_takeDeferred (P := P) h4
      refine ⟨by simp, .inl ⟨b, _, rfl, htake, ?_⟩⟩
      exact leaves hen hlen hlow ds D _ β l _ (X.hid (hen _ he)) (s.hid hb _) (F.hid hb) (DfOk.hid hb he ⟨hen2, t⟩ nd) hnd hD hr
    | @own i b D _ h2 t =>
      obtain ⟨hi1, hi2⟩ := hD i (by simp)
      cases h2 with
      | yld hlt hb =>
        have hb' := hb _ hi2 rfl
        obtain ⟨b', h3, h4⟩ := s.blk i _ hi2
        rw [hb'] at h3; cases h3
        have htake := run_takeDeferred (P := P) h4
        refine ⟨by simp, .inl ⟨b, _, rfl, htake, ?_⟩⟩
        have hset : (H1 ++ l).set i (.raw (.deferred none)) = H1 ++ l.set (i - H1.length) (.raw (.deferred none)) := by rw [List.set_append_right _ _ hi1]
        have hbo : blkOf β (H1 ++ l) i = some b := by simp only [blkOf, hi2, hb']; rfl
        obtain ⟨s', X'⟩ := s.modify (β' := β) (w' := w.putObj b (.deferred none)) (x' := .raw (.deferred none)) hi2 (fun _ _ => rfl) (.inr ⟨_, rfl, rfl⟩) s.env
          (fun q _ hn => World.putObj_heap_other (fun e => hn (by rw [hbo, e]))) (fun b0 e => .inl (by rw [hbo]; rw [hb'] at e; exact e))
          (fun _ => ⟨b, hb', World.putObj_heap_same (Array.getElem?_eq_some_iff.1 h4).1⟩)
        rw [hset] at s' X'
        refine leaves hen hlen hlow ds D h β _ _ (X.trans X') s' (F.ext X') (DfOk.ext ⟨hen2, t⟩ X') (List.nodup_cons.1 hnd).2 (fun i' hi' => ⟨(hD i' (by simp [hi'])).1, ?_⟩) ?_
        · have hne : i ≠ i' := fun e => (List.nodup_cons.1 hnd).1 (e ▸ hi')
          rw [← hset, List.getElem?_set_ne hne]
          exact (hD i' (by simp [hi'])).2
        · rw [← hset]; exact resA_raw hi2 hr
theorem Ends.unen {h0 : Nat → Option Obj} {β0 : Nat → Value} {H0 : List Blk} {k : AV → List Blk → Prop} {x : Nat → Option Obj} {e : Ending} {w : World} (y : Ends P ⟨E.b, E.fr, x⟩ h0 β0 H0 k e w) : Ends P E h0 β0 H0 k e w :=
  let ⟨r, H', h', β', v, a, b, c, d, f⟩ := y; ⟨r, H', h', β', v, a, b, c, d.unen, f⟩

def argsSt (rs : List AV) : St := fun t => rs[t]?

theorem ACall.of_body {f : FuncId} {fn : Func} {c : Code} {rs : List AV} {k : AV → List Blk → Prop} (hf : P.funcs[f]? = some fn) (hb : fn.body = some c) (hn : (fn.name == "runtime.NumGoroutine") = false) (hl : rs.length ≤ fn.ntmps)
    (x : AWp P fn.ntmps none c (FnPost P fn.results.toList H k) [] (argsSt rs) H) : ACall P f rs H k := by
  refine ⟨⟨fn, hf, hn, by rw [hb]; rfl⟩, fun E h β w vs s hr => ?_⟩
  refine (show CallsIn (FW none) 0 P f vs.toArray w (Ends P ⟨E.b, E.fr, h⟩ h β H k) from ?_).mono fun _ _ => Ends.unen
  refine callsIn_of_wp_marks hf hb trivial ?_ rfl
  have hsz : (vs.toArray ++ Array.replicate (fn.ntmps - vs.toArray.size) undef).size = fn.ntmps := by simp [hr.1]; omega
  refine wpIn_mono (x ⟨E.b, E.fr, h⟩ h β _ w ⟨s.en h, fun t r e => ?_, hsz, ⟨fun _ _ e => e, .nil⟩⟩) ?_
  · obtain ⟨v, h1, h2⟩ := hr.2 t r e
    refine ⟨v, ?_, h2⟩
    rw [Array.getElem?_append_left (by simpa using (List.getElem?_eq_some_iff.1 h1).1)]; simpa using h1
  · rintro e a' w' ⟨D', σ', H', h', β', ⟨he, H1, l, rfl, hlen, hcl, hnd, hD, hres⟩, X, s'⟩
    have hlow : ∀ x ∈ H1, x.low H1.length = true := by
      intro x hx
      rcases hcl x hx with h1 | h1
      · obtain ⟨j, hj⟩ := mem_get h1
        have := s.low hj
        exact low_mono hlen this
      · exact h1
    have := leaves (fn := fn) (k := k) (fun _ e => e) hlen hlow a'.defers D' h' β' l w' X s'.sr s'.fits s'.df hnd hD hres
    rcases he with rfl | rfl <;> exact this
end
end GA
end

section
namespace GA
open Go Go.RowKit

inductive TK where
  | int (q : IntKind)
  | bool
  | sl (e w by' : Nat) (z : AV)
  | ar (n : Nat) (ag : Bool) (w : Nat)
  | st (fs : List (Nat × Bool × Nat))
  | mp (z : AV)
  | oth
structure TE where
  ag : Bool
  n : Nat
  z : Option AV
  k : TK
  q : Option Nat := none
abbrev Tab := List (Option TE)

def lget {α : Type} : List α → Nat → Option α
  | [], _ => none
  | x :: _, 0 => some x
  | _ :: l, n + 1 => lget l n
def tget (T : Tab) (t : Nat) : Option TE := match lget T t with | some (some e) => some e | _ => none

def TeOk (P : Program) (t : Nat) (e : TE) : Prop :=
  tyK P t = some (e.ag, e.n) ∧ sz P t = e.n ∧ (∀ z, e.z = some z → zeroA P t = some z) ∧
    (match e.k with
    | .int q => P.underlying t = some (.int q)
    | .bool => isBoolT P t
    | .sl el w b z => slE P t = some (el, w, b) ∧ slK P t = some w ∧ isSlT P t ∧ zeroA P el = some z
    | .ar n ag w => arK P t = some (n, ag, w) ∧ allK P t = true ∧ ∀ i, placeK P t i = some (i * w, w)
    | .st fs => (∀ i x, lget fs i = some x → fldK P t i = some x ∧ placeK P t i = some (x.1, x.2.2)) ∧ allK P t = true
    | .mp z => mapT P t = some z
    | .oth => True) ∧ ∀ n, e.q = some n → intsT P t = some n
def TabOkFrom (P : Program) : Nat → Tab → Prop
  | _, [] => True
  | i, none :: l => TabOkFrom P (i + 1) l
  | i, some e :: l => TeOk P i e ∧ TabOkFrom P (i + 1) l
def TabOk (P : Program) (T : Tab) : Prop := TabOkFrom P 0 T

theorem TabOkFrom.get {P : Program} : ∀ {T : Tab} {i t : Nat} {e : TE}, TabOkFrom P i T → tget T t = some e → TeOk P (i + t) e
  | [], _, _, _, _, h => by simp [tget, lget] at h
  | x :: l, i, 0, e, ok, h => by
    cases x with
    | none => simp [tget, lget] at h
    | some x => simp [tget, lget] at h; subst h; exact ok.1
  | x :: l, i, t + 1, e, ok, h => by
    have h' : tget l t = some e := by simpa [tget, lget] using h
    have := TabOkFrom.get (i := i + 1) (by cases x with | none => exact ok | some x => exact ok.2) h'
    rwa [show i + 1 + t = i + (t + 1) by omega] at this
theorem TabOk.get {P : Program} {T : Tab} (ok : TabOk P T) {t : Nat} {e : TE} (h : tget T t = some e) : TeOk P t e := by
  have := TabOkFrom.get ok h; rwa [Nat.zero_add] at this

theorem lget_eq {α : Type} : ∀ (l : List α) (n : Nat), lget l n = l[n]?
  | [], _ => rfl
  | _ :: _, 0 => rfl
  | _ :: l, n + 1 => by simp only [lget, List.getElem?_cons_succ]; exact lget_eq l n

structure XBr (c : Bool) (A B : Prop) : Prop where
  t : c = true → A
  f : c = false → B
structure XHold (p A : Prop) : Prop where
  l : p
  r : A
structure XInt (q : IntKind) (x : Int) (k : AV → Prop) : Prop where
  o : k (.int q (q.wrap x))
structure XIx (els : List AV) (n : Int) (w : Nat) (k : AV → Prop) : Prop where
  lo : 0 ≤ n
  hi : n < els.length
  wd : (nth els n).cells.length = w
  o : k (.pim (nth els n).cells)
def xAddP (p : AV) (off : Nat) (k : AV → Prop) : Prop :=
  match p with
  | .pim cs => k (.pim (cs.drop off))
  | .ptr i o => k (.ptr i (o + off))
  | .gp i n e o => k (.gp i n e (o + off))
  | _ => False
structure XArr (p : AV) (n : Int) (m w : Nat) (k : AV → Prop) : Prop where
  lo : 0 ≤ n
  hi : n < m
  o : xAddP p (n.toNat * w) k
structure XGet (els : List AV) (n e : Nat) (k : List AV → Prop) : Prop where
  len : n = els.length
  lt : e < n
  o : k (els.getD e default).cells
structure XPut (els : List AV) (n e : Nat) (v : AV) (k : List AV → Prop) : Prop where
  len : n = els.length
  lt : e < n
  o : k (els.set e v)
structure XPutPart (els : List AV) (n e o : Nat) (w : Nat) (cs : List AV) (k : List AV → Prop) : Prop where
  len : n = els.length
  lt : e < n
  le : o + cs.length ≤ w
  one : (els.getD e default).one = false
  o : k (els.set e (.agg (splice (els.getD e default).cells o cs)))
structure XEqA (cs ds : List AV) (n : Nat) (k : Bool → Prop) : Prop where
  o : ∃ qs bs : List Int, cs = qs.map (.int .i64) ∧ ds = bs.map (.int .i64) ∧ qs.length = bs.length ∧ n = qs.length ∧ k (qs == bs)
structure XGetM (n : Int) (es : List (Int × AV)) (k : Option AV → Prop) : Prop where
  o : k (mget n es)
structure XCall (P : Program) (f : FuncId) (rs : List AV) (H : List Blk) (k : AV → List Blk → Prop) : Prop where
  o : ACall P f rs H k
structure XYield (P : Program) (i : Nat) (rs : List AV) (H : List Blk) (k : AV → List Blk → Prop) : Prop where
  o : AYield P i rs H k
structure Walk (P : Program) (N : Nat) (ρ : Option Nat) (c : Code) (Q : Post) (D : List Nat) (σ : St) (H : List Blk) : Prop where
  o : AWp P N ρ c Q D σ H

def xtk : Nat → List AV → (List AV → Prop) → Prop
  | 0, _, k => k []
  | n + 1, c :: cs, k => xtk n cs fun l => k (c :: l)
  | _ + 1, [], _ => False
def xdrop : Nat → List AV → (List AV → Prop) → Prop
  | 0, cs, k => k cs
  | n + 1, _ :: cs, k => xdrop n cs k
  | _ + 1, [], _ => False
def xn : Nat → List AV → Prop → Prop
  | 0, [], A => A
  | n + 1, _ :: cs, A => xn n cs A
  | _, _, _ => False
def xspl : List AV → Nat → List AV → (List AV → Prop) → Prop
  | c, 0, [], k => k c
  | _ :: c, 0, v :: vs, k => xspl c 0 vs fun l => k (v :: l)
  | x :: c, o + 1, vs, k => xspl c o vs fun l => k (x :: l)
  | _, _, _, _ => False
def xone (v : AV) (k : List AV → Prop) : Prop :=
  match v with
  | .tup _ => False
  | .agg cs => k cs
  | v => k [v]
def hset : List Blk → Nat → Blk → (List Blk → Prop) → Prop
  | _ :: H, 0, b, k => k (b :: H)
  | x :: H, n + 1, b, k => hset H n b fun l => k (x :: l)
  | [], _, _, _ => False
def hpush : List Blk → Nat → Blk → (Nat → List Blk → Prop) → Prop
  | [], j, b, k => k j [b]
  | x :: H, j, b, k => hpush H (j + 1) b fun i l => k i (x :: l)

theorem xtk_spec : ∀ {n : Nat} {cs : List AV} {k : List AV → Prop}, xtk n cs k → n ≤ cs.length ∧ k (cs.take n)
  | 0, _, _, h => ⟨Nat.zero_le _, h⟩
  | n + 1, c :: cs, k, h => by obtain ⟨h1, h2⟩ := xtk_spec (n := n) (cs := cs) (k := fun l => k (c :: l)) h; exact ⟨by simpa using h1, by simpa using h2⟩
  | n + 1, [], _, h => h.elim
theorem xdrop_spec : ∀ {n : Nat} {cs : List AV} {k : List AV → Prop}, xdrop n cs k → n ≤ cs.length ∧ k (cs.drop n)
  | 0, _, _, h => ⟨Nat.zero_le _, h⟩
  | n + 1, c :: cs, k, h => by obtain ⟨h1, h2⟩ := xdrop_spec (n := n) (cs := cs) (k := k) h; exact ⟨by simpa using h1, by simpa using h2⟩
  | n + 1, [], _, h => h.elim
theorem xn_spec : ∀ {n : Nat} {cs : List AV} {A : Prop}, xn n cs A → cs.length = n ∧ A
  | 0, [], _, h => ⟨rfl, h⟩
  | n + 1, c :: cs, A, h => by obtain ⟨h1, h2⟩ := xn_spec (n := n) (cs := cs) (A := A) h; exact ⟨by simp [h1], h2⟩
  | 0, _ :: _, _, h => h.elim
  | n + 1, [], _, h => h.elim
theorem splice_nil (c : List AV) : splice c 0 [] = c := by simp [splice]
theorem splice_zero (x : AV) (c : List AV) (v : AV) (vs : List AV) : splice (x :: c) 0 (v :: vs) = v :: splice c 0 vs := by simp [splice]
theorem splice_succ (x : AV) (c : List AV) (o : Nat) (vs : List AV) : splice (x :: c) (o + 1) vs = x :: splice c o vs := by
  simp only [splice, List.take_succ_cons, List.cons_append]
  rw [show o + 1 + vs.length = (o + vs.length) + 1 by omega, List.drop_succ_cons]
theorem xspl_spec : ∀ {c : List AV} {o : Nat} {vs : List AV} {k : List AV → Prop}, xspl c o vs k → o + vs.length ≤ c.length ∧ k (splice c o vs)
  | c, 0, [], k, h => by
    have h' : k c := by cases c <;> exact h
    exact ⟨Nat.zero_le _, by rw [splice_nil]; exact h'⟩
  | x :: c, 0, v :: vs, k, h => by
    obtain ⟨h1, h2⟩ := xspl_spec (c := c) (o := 0) (vs := vs) (k := fun l => k (v :: l)) h
    exact ⟨by simp at h1 ⊢; omega, by rw [splice_zero]; exact h2⟩
  | x :: c, o + 1, vs, k, h => by
    have h' : xspl c o vs fun l => k (x :: l) := by cases vs <;> exact h
    obtain ⟨h1, h2⟩ := xspl_spec (c := c) (o := o) (vs := vs) (k := fun l => k (x :: l)) h'
    exact ⟨by simp; omega, by rw [splice_succ]; exact h2⟩
  | [], 0, _ :: _, _, h => h.elim
  | [], _ + 1, [], _, h => h.elim
  | [], _ + 1, _ :: _, _, h => h.elim
theorem xone_spec {v : AV} {k : List AV → Prop} (h : xone v k) : v.isTup = false ∧ k v.cells := by
  cases v <;> first | exact h.elim | exact ⟨rfl, h⟩
theorem hset_spec : ∀ {H : List Blk} {i : Nat} {b : Blk} {k : List Blk → Prop}, hset H i b k → i < H.length ∧ k (H.set i b)
  | _ :: H, 0, b, k, h => ⟨by simp, h⟩
  | x :: H, n + 1, b, k, h => by obtain ⟨h1, h2⟩ := hset_spec (H := H) (i := n) (b := b) (k := fun l => k (x :: l)) h; exact ⟨by simpa using h1, by simpa using h2⟩
  | [], 0, _, _, h => h.elim
  | [], _ + 1, _, _, h => h.elim
theorem hpush_spec : ∀ {H : List Blk} {j : Nat} {b : Blk} {k : Nat → List Blk → Prop}, hpush H j b k → k (j + H.length) (H ++ [b])
  | [], j, b, k, h => h
  | x :: H, j, b, k, h => by
    have := hpush_spec (H := H) (j := j + 1) (b := b) (k := fun i l => k i (x :: l)) h
    simpa [Nat.add_assoc, Nat.add_comm 1] using this

def ikN : IntKind → Nat
  | .i8 => 0 | .i16 => 1 | .i32 => 2 | .i64 => 3 | .u8 => 4 | .u16 => 5 | .u32 => 6 | .u64 => 7
theorem ikN_inj {q q' : IntKind} (h : ikN q = ikN q') : q = q' := by cases q <;> cases q' <;> first | rfl | cases h
def isK (q q' : IntKind) (A : Prop) : Prop := match Nat.beq (ikN q) (ikN q') with | true => A | false => False
theorem isK_spec {q q' : IntKind} {A : Prop} (h : isK q q' A) : q = q' ∧ A := by
  unfold isK at h; split at h
  · rename_i e; exact ⟨ikN_inj (Nat.eq_of_beq_eq_true e), h⟩
  · exact h.elim

def xBin (T : Tab) (t : TypeId) (op : BinOp) (x y : AV) (k : AV → Prop) : Prop :=
  match op, x, y with
  | .add, .int q a, .int q' b => isK q q' (XInt q (a + b) k)
  | .sub, .int q a, .int q' b => isK q q' (XInt q (a - b) k)
  | .mul, .int q a, .int q' b => isK q q' (XInt q (a * b) k)
  | .quo, .int q a, .int q' b => isK q q' (XHold (b ≠ 0) (XInt q (a.tdiv b) k))
  | .rem, .int q a, .int q' b => isK q q' (XHold (b ≠ 0) (k (.int q (a.tmod b))))
  | .and, .int q a, .int q' b => isK q q' (k (.int q (iand q a b)))
  | .or, .int q a, .int q' b => isK q q' (k (.int q (ior q a b)))
  | .xor, .int q a, .int q' b => isK q q' (k (.int q (ixor q a b)))
  | .andNot, .int q a, .int q' b => isK q q' (k (.int q (iandn q a b)))
  | .shl, .int q a, .int _ b => XHold (0 ≤ b) (XInt q (a * 2 ^ (min b.toNat q.bits)) k)
  | .shr, .int q a, .int _ b => XHold (0 ≤ b) (k (.int q (a.fdiv (2 ^ (min b.toNat q.bits)))))
  | .eql, .int q a, .int q' b => isK q q' (k (.bool (a == b)))
  | .neq, .int q a, .int q' b => isK q q' (k (.bool (a != b)))
  | .lss, .int q a, .int q' b => isK q q' (k (.bool (decide (a < b))))
  | .leq, .int q a, .int q' b => isK q q' (k (.bool (decide (a ≤ b))))
  | .gtr, .int q a, .int q' b => isK q q' (k (.bool (decide (b < a))))
  | .geq, .int q a, .int q' b => isK q q' (k (.bool (decide (b ≤ a))))
  | .eql, .bool a, .bool b => bnd (tget T t) fun e => match e.k with | .bool => k (.bool (a == b)) | _ => False
  | .neq, .bool a, .bool b => bnd (tget T t) fun e => match e.k with | .bool => k (.bool (a != b)) | _ => False
  | .eql, .sl nl _, .sl true [] => bnd (tget T t) fun e => match e.k with | .sl _ _ _ _ => k (.bool nl) | _ => False
  | .neq, .sl nl _, .sl true [] => bnd (tget T t) fun e => match e.k with | .sl _ _ _ _ => k (.bool (!nl)) | _ => False
  | .eql, .agg cs, .agg ds => bnd (tget T t) fun e => bnd e.q fun n => XEqA cs ds n fun b => k (.bool b)
  | .neq, .agg cs, .agg ds => bnd (tget T t) fun e => bnd e.q fun n => XEqA cs ds n fun b => k (.bool !b)
  | _, _, _ => False

def xTake (e : TE) (cs : List AV) (k : AV → Prop) : Prop :=
  match e.ag with
  | true => xtk e.n cs fun l => k (.agg l)
  | false => match cs with | c :: _ => k c | [] => False
def xLoad (T : Tab) (t : TypeId) (H : List Blk) (p : AV) (k : AV → Prop) : Prop :=
  bnd (tget T t) fun e => match p with
  | .pim cs => xTake e cs k
  | .ptr i o => match lget H i with | some (.cells cs) => xdrop o cs fun cs => xTake e cs k | _ => False
  | .gp i n el o => match lget H i with | some (.grow _ _ els) => XGet els n el fun cs => xdrop o cs fun cs => xTake e cs k | _ => False
  | _ => False

def xStore (T : Tab) (t : TypeId) (H : List Blk) (p v : AV) (k : AV → List Blk → Prop) : Prop :=
  bnd (tget T t) fun e => xone v fun cs => xn e.n cs (match p with
  | .ptr i o => match lget H i with | some (.cells c) => xspl c o cs fun c' => hset H i (.cells c') fun H' => k (.tup []) H' | _ => False
  | .gp i n el o => match lget H i with
    | some (.grow te nl els) => bnd (tget T te) fun e' =>
        match o, Nat.beq e.n e'.n with
        | 0, true => XPut els n el v fun els' => hset H i (.grow te nl els') fun H' => k (.tup []) H'
        | o, _ => XPutPart els n el o e'.n cs fun els' => hset H i (.grow te nl els') fun H' => k (.tup []) H'
    | _ => False
  | _ => False)

def hasFree : List Blk → Bool
  | [] => false
  | .free :: _ => true
  | _ :: H => hasFree H
structure XFree (H : List Blk) (b : Blk) (k : Nat → List Blk → Prop) : Prop where
  o : ∃ i, lget H i = some .free ∧ hset H i b fun H' => k i H'
def xNew (H : List Blk) (b : Blk) (k : Nat → List Blk → Prop) : Prop := match hasFree H with | true => XFree H b k | false => hpush H 0 b k
def xBoxO (v : AV) (H : List Blk) (k : AV → List Blk → Prop) : Prop := xone v fun cs => xNew H (.cells cs) fun i H' => k (.ptr i 0) H'
structure XDrop (n : Nat) (cs : List AV) (k : List AV → Prop) : Prop where
  le : n ≤ cs.length
  o : k (cs.drop n)
def xFldP (p : AV) (off : Nat) (k : AV → Prop) : Prop :=
  match p with
  | .pim cs => match Nat.ble 64 off with | true => XDrop off cs fun cs => k (.pim cs) | false => xdrop off cs fun cs => k (.pim cs)
  | .ptr i o => k (.ptr i (o + off))
  | .gp i n e o => k (.gp i n e (o + off))
  | _ => False
def xPart (cs : List AV) (ag : Bool) (off n : Nat) (k : AV → Prop) : Prop :=
  match ag with
  | true => xdrop off cs fun cs => xtk n cs fun l => k (.agg l)
  | false => xdrop off cs fun cs => match cs with | c :: _ => k c | [] => False
def fields : TK → List (Nat × Bool × Nat)
  | .st fs => fs
  | _ => []
def xFieldAddr (T : Tab) (s : TypeId) (p : AV) (f : Nat) (k : AV → Prop) : Prop :=
  bnd (tget T s) fun e => bnd (lget (fields e.k) f) fun x => match x.2.2 with | 0 => False | _ + 1 => xFldP p x.1 k
def xField (T : Tab) (s : TypeId) (x : AV) (f : Nat) (k : AV → Prop) : Prop :=
  match x with
  | .agg cs => bnd (tget T s) fun e => bnd (lget (fields e.k) f) fun y => xPart cs y.2.1 y.1 y.2.2 k
  | _ => False
def xIndex (T : Tab) (t : TypeId) (x i : AV) (k : AV → Prop) : Prop :=
  match x, i with
  | .agg cs, .int _ n => bnd (tget T t) fun e => match e.k with
    | .ar m ag w => XHold (0 ≤ n ∧ n < m) (xPart cs ag (n.toNat * w) w k)
    | _ => False
  | _, _ => False
def xIndexAddr (T : Tab) (t : TypeId) (H : List Blk) (x i : AV) (k : AV → Prop) : Prop :=
  match i with
  | .int _ n => bnd (tget T t) fun e => match x, e.k with
    | .sl _ els, .sl _ w _ _ => XIx els n w k
    | .gr b m, .sl _ w _ _ => match lget H b with
      | some (.grow te _ els) => bnd (tget T te) fun e' => XHold (els.length = m ∧ w = e'.n ∧ 0 ≤ n ∧ n < m) (k (.gp b m n.toNat 0))
      | _ => False
    | .pim cs, .ar m _ w => XArr (.pim cs) n m w k
    | .ptr b o, .ar m _ w => XArr (.ptr b o) n m w k
    | .gp b m' e' o, .ar m _ w => XArr (.gp b m' e' o) n m w k
    | _, _ => False
  | _ => False

def isAgK : TK → Bool
  | .st _ | .ar _ _ _ => true
  | _ => false
def place (tk : TK) (i : Nat) : Option (Nat × Nat) :=
  match tk with
  | .st fs => match lget fs i with | some x => some (x.1, x.2.2) | none => none
  | .ar _ _ w => some (i * w, w)
  | _ => none
def xFill (tk : TK) : List AV → List (Nat × AV) → (List AV → Prop) → Prop
  | cells, [], k => k cells
  | cells, (i, v) :: rest, k => bnd (place tk i) fun x => xone v fun cs => xn x.2 cs (xspl cells x.1 cs fun c => xFill tk c rest k)
def xBuild (T : Tab) (t : TypeId) (ps : List (Nat × AV)) (k : AV → Prop) : Prop :=
  bnd (tget T t) fun e => match e.z, isAgK e.k with | some (.agg zc), true => xFill e.k zc ps fun cs => k (.agg cs) | _, _ => False

def xBuildSlice (T : Tab) (own : Bool) (t : TypeId) (len : Nat) (ps : List (Nat × AV)) (H : List Blk) (k : AV → List Blk → Prop) : Prop :=
  bnd (tget T t) fun e => match e.k with
  | .sl el w _ _ => bnd (dense 0 ps) fun els => XHold (els.length = len ∧ len * w ≤ 16777216 ∧ wide w els = true)
      (match own with
      | true => hpush H 0 (.grow el false els) fun i H' => k (.gr i len) H'
      | false => match len with | 0 => k .se H | _ + 1 => k (.sl false els) H)
  | _ => False
def Room (n : Int) (b : Nat) : Prop := n * b ≤ 140737488355328 ∧ n ≤ 4611686018427387904
def xMakeSlice (T : Tab) (t : TypeId) (l c : AV) (H : List Blk) (k : AV → List Blk → Prop) : Prop :=
  match l, c with
  | .int _ l, .int _ c => bnd (tget T t) fun e => match e.k with
    | .sl el _ b z => XHold (0 ≤ l ∧ l ≤ c ∧ Room c b) (hpush H 0 (.grow el false (List.replicate l.toNat z)) fun i H' => k (.gr i l.toNat) H')
    | _ => False
  | _, _ => False
def xEls (H : List Blk) (x : AV) (k : List AV → Prop) : Prop :=
  match x with
  | .sl _ els => k els
  | .se => k []
  | .gr i n => match lget H i with | some (.grow _ _ els) => XHold (els.length = n) (k els) | _ => False
  | _ => False
def xAppend (T : Tab) (t : TypeId) (s x : AV) (H : List Blk) (k : AV → List Blk → Prop) : Prop :=
  bnd (tget T t) fun e => match e.k with
  | .sl el w b _ => xEls H x fun new => XHold (wide w new = true)
    (match s with
    | .sl true _ => XHold (Room new.length b) (hpush H 0 (.grow el new.isEmpty new) fun i H' => k (.gr i new.length) H')
    | .se => XHold (Room new.length b) (hpush H 0 (.grow el false new) fun i H' => k (.gr i new.length) H')
    | .gr i n => match lget H i with
      | some (.grow te nl els) => XHold (te = el ∧ els.length = n ∧ Room (n + new.length : Nat) b) (hset H i (.grow te (nl && new.isEmpty) (els ++ new)) fun H' => k (.gr i (n + new.length)) H')
      | _ => False
    | _ => False)
  | _ => False
def xSlice (T : Tab) (t : TypeId) (x : AV) (lo hi mx : Option AV) (k : AV → Prop) : Prop :=
  match x with
  | .sl nl els => bnd (tget T t) fun e => match e.k with
    | .sl _ n _ _ => bnd (bdA 0 lo) fun l => bnd (bdA els.length hi) fun r =>
      match mx with
      | none => XHold (0 ≤ l ∧ l ≤ r ∧ r ≤ els.length ∧ (l = 0 ∨ wide n els = true)) (k (.sl nl ((els.drop l.toNat).take (r - l).toNat)))
      | some m => bnd (intA m) fun m => XHold (l = 0 ∧ r = 0 ∧ m = 0 ∧ hi.isSome = true) (k (if nl then .sl true [] else .se))
    | _ => False
  | .pim cs => bnd (tget T t) fun e => match e.k with
    | .ar m false 1 => bnd (bdA 0 lo) fun l => bnd (bdA m hi) fun r => match mx with
      | none => XHold (m ≤ cs.length ∧ 0 ≤ l ∧ l ≤ r ∧ r ≤ m) (k (.sl false ((cs.drop l.toNat).take (r - l).toNat)))
      | some _ => False
    | _ => False
  | _ => False
def xUn (op : UnOp) (x : AV) (k : AV → Prop) : Prop :=
  match op, x with
  | .not, .bool b => k (.bool !b)
  | .neg, .int q n => XInt q (0 - n) k
  | .xor, .int q n => k (.int q (ixor q (if q.signed then -1 else q.max) n))
  | _, _ => False
def xConv (T : Tab) (s d : TypeId) (x : AV) (k : AV → Prop) : Prop :=
  match x with
  | .int _ n => bnd (tget T s) fun _ => bnd (tget T d) fun e => match e.k with | .int q => XInt q n k | _ => False
  | _ => False
def xExt (x : AV) (i : Nat) (k : AV → Prop) : Prop := match x with | .tup vs => bnd (lget vs i) k | _ => False
def xLen (T : Tab) (t : TypeId) (H : List Blk) (x : AV) (k : AV → Prop) : Prop :=
  bnd (tget T t) fun e => match e.k, x with
  | .sl _ _ _ _, .sl _ els => k (.int .i64 els.length)
  | .sl _ _ _ _, .se => k (.int .i64 0)
  | .sl _ _ _ _, .gr i n => match lget H i with | some (.grow _ _ els) => XHold (els.length = n) (k (.int .i64 n)) | _ => False
  | _, _ => False
def xBuiltin (T : Tab) (b : Builtin) (ts : List TypeId) (rs : List AV) (H : List Blk) (k : AV → List Blk → Prop) : Prop :=
  match b, ts, rs with
  | .len, [t], [x] => xLen T t H x (k · H)
  | .append, [t, t'], [s, x] => match Nat.beq t t' with | true => xAppend T t s x H k | false => False
  | .min, _, [.int q a, .int _ b] => k (.int q (min a b)) H
  | .max, _, [.int q a, .int _ b] => k (.int q (max a b)) H
  | _, _, _ => False
def xCallV (P : Program) (fv : AV) (rs : List AV) (H : List Blk) (k : AV → List Blk → Prop) : Prop :=
  match fv with
  | .fn g caps => XCall P g (rs ++ caps) H k
  | .yld i => XYield P i rs H k
  | _ => False
def xLookup (T : Tab) (t : TypeId) (H : List Blk) (x i : AV) (ok : Bool) (k : AV → Prop) : Prop :=
  bnd (tget T t) fun e => match e.k, x, i with
  | .mp z, .mp b, .int .i64 n => match lget H b with | some (.map es) => XGetM n es fun o => k (mres ok z o) | _ => False
  | _, _, _ => False
def xMapUpdate (T : Tab) (t : TypeId) (H : List Blk) (x i v : AV) (k : AV → List Blk → Prop) : Prop :=
  bnd (tget T t) fun e => match e.k, x, i with
  | .mp _, .mp b, .int .i64 n => match lget H b with | some (.map es) => hset H b (.map (mput n v es)) fun H' => k (.tup []) H' | _ => False
  | _, _, _ => False
def XOp (P : Program) (T : Tab) (own : List Nat) (dst : Option Nat) (σ : St) (H : List Blk) (k : AV → List Blk → Prop) : Op → Prop
  | .move x | .assign x => bnd (ev σ x) fun r => k r H
  | .pick c a b => bnd (ev σ c) fun r => match r with | .bool q => XBr q (bnd (ev σ a) fun r => k r H) (bnd (ev σ b) fun r => k r H) | _ => False
  | .alloc t => bnd (tget T t) fun e => match e.z with | some z => xBoxO z H k | none => False
  | .box _ x => bnd (ev σ x) fun r => match ownD own dst with | true => xBoxO r H k | false => xone r fun cs => k (.pim cs) H
  | .build t ps => bnd (evP σ ps.toList) fun rs => xBuild T t rs (k · H)
  | .buildSlice t n ps => bnd (evP σ ps.toList) fun rs => xBuildSlice T (ownD own dst) t n rs H k
  | .load t x => bnd (ev σ x) fun p => xLoad T t H p (k · H)
  | .store t x v => bnd (ev σ x) fun p => bnd (ev σ v) fun r => xStore T t H p r k
  | .nilCheck x => bnd (ev σ x) fun r => match r with | .pim _ | .ptr _ _ | .gp _ _ _ _ | .fn _ _ => k r H | _ => False
  | .binOp op t x y _ => bnd (ev σ x) fun u => bnd (ev σ y) fun v => xBin T t op u v (k · H)
  | .unOp op _ x => bnd (ev σ x) fun r => xUn op r (k · H)
  | .convert s d x => bnd (ev σ x) fun r => xConv T s d r (k · H)
  | .makeFunc fn first caps => match fn with
    | .func f => match first.toList with | [] => bnd (evL σ caps.toList) fun cs => k (.fn f cs) H | _ => False
    | _ => False
  | .makeSlice t l c => bnd (ev σ l) fun l => bnd (ev σ c) fun c => xMakeSlice T t l c H k
  | .slice t x lo hi mx => bnd (ev σ x) fun r => bnd (evO σ lo) fun lo => bnd (evO σ hi) fun hi => bnd (evO σ mx) fun mx => xSlice T t r lo hi mx (k · H)
  | .fieldAddr t x f => bnd (ev σ x) fun r => xFieldAddr T t r f (k · H)
  | .field t x f => bnd (ev σ x) fun r => xField T t r f (k · H)
  | .indexAddr t x i => bnd (ev σ x) fun r => bnd (ev σ i) fun i => xIndexAddr T t H r i (k · H)
  | .index t x i => bnd (ev σ x) fun r => bnd (ev σ i) fun i => xIndex T t r i (k · H)
  | .extract x i => bnd (ev σ x) fun r => xExt r i (k · H)
  | .call c => match c.callee with
    | .value f => bnd (ev σ f) fun fv => bnd (evL σ c.args.toList) fun rs => xCallV P fv rs H k
    | .builtin b => bnd (evL σ c.args.toList) fun rs => xBuiltin T b c.argTypes.toList rs H k
    | _ => False
  | .makeMap _ r => match r with | none => hpush H 0 (.map []) fun i H' => k (.mp i) H' | some _ => False
  | .lookup t x i ok => bnd (ev σ x) fun r => bnd (ev σ i) fun i => xLookup T t H r i ok (k · H)
  | .mapUpdate t m i v | .insert t m i v => bnd (ev σ m) fun r => bnd (ev σ i) fun i => bnd (ev σ v) fun v => xMapUpdate T t H r i v k
  | _ => False
end GA
end

section
namespace GA
open Go Go.RowKit

section
variable {P : Program} {T : Tab} {N : Nat} {own : List Nat} {σ : St} {H : List Blk} {k : AV → Prop} {t : TypeId}

theorem bnd_mono {α : Type} {o : Option α} {k k' : α → Prop} (h : bnd o k) (hk : ∀ a, o = some a → k a → k' a) : bnd o k' := by
  cases o with | none => exact h.elim | some a => exact hk a rfl h

theorem xBin_sound (ok : TabOk P T) {op : BinOp} {x y : AV} (h : xBin T t op x y k) : opBinE P t op x y k := by
  unfold xBin at h
  split at h
  case h_18 | h_19 | h_20 | h_21 =>
    obtain ⟨e, h1, h2⟩ := bnd_elim h
    have := ok.get h1
    split at h2
    · rename_i hk; obtain ⟨_, _, _, h3, _⟩ := this; rw [hk] at h3
      first | exact ⟨h3, h2⟩ | exact ⟨h3.2.2.1, h2⟩
    · exact h2.elim
  case h_22 | h_23 =>
    obtain ⟨e, h1, h2⟩ := bnd_elim h
    obtain ⟨n, h3, h4⟩ := bnd_elim h2
    obtain ⟨qs, bs, g1, g2, g3, g4, g5⟩ := h4.o
    exact ⟨qs, bs, g1, g2, g3, by rw [← g4]; exact (ok.get h1).2.2.2.2 n h3, g5⟩
  case h_24 => exact h.elim
  case h_10 | h_11 => exact ⟨h.l, by first | exact h.r.o | exact h.r⟩
  all_goals
    obtain ⟨rfl, h2⟩ := isK_spec h
    first
      | exact ⟨rfl, h2.o⟩
      | exact ⟨rfl, h2.l, h2.r.o⟩
      | exact ⟨rfl, h2.l, h2.r⟩
      | exact ⟨rfl, h2⟩

theorem xTake_sound {e : TE} {cs : List AV} (h : xTake e cs k) : if e.ag = true then e.n ≤ cs.length ∧ k (.agg (cs.take e.n)) else bnd cs.head? k := by
  unfold xTake at h
  split at h
  · rename_i e1; rw [if_pos e1]; exact xtk_spec h
  · rename_i e1; rw [if_neg (by simp [e1])]
    split at h
    · exact h
    · exact h.elim

theorem xLoad_sound (ok : TabOk P T) {p : AV} (h : xLoad T t H p k) : opLoad P t H p k := by
  obtain ⟨e, h1, h2⟩ := bnd_elim h
  have ht := (ok.get h1).1
  unfold opLoad; rw [ht, bnd_some]
  split at h2
  · exact xTake_sound h2
  · split at h2
    · rename_i hl; rw [lget_eq] at hl
      simp only [atP, hl, bnd_some]; exact xTake_sound (xdrop_spec h2).2
    · exact h2.elim
  · split at h2
    · rename_i hl; rw [lget_eq] at hl
      obtain ⟨h3, h4, h5⟩ := h2
      simp only [atP, hl]
      rw [if_pos ⟨h3, h4⟩, bnd_some]; exact xTake_sound (xdrop_spec h5).2
    · exact h2.elim
  · exact h2.elim

theorem xStore_sound (ok : TabOk P T) {p v : AV} {k : AV → List Blk → Prop} (h : xStore T t H p v k) : opStore P t H p v k := by
  obtain ⟨e, h1, h2⟩ := bnd_elim h
  have ht := (ok.get h1).1
  obtain ⟨h3, h4⟩ := xone_spec h2
  obtain ⟨h5, h6⟩ := xn_spec h4
  unfold opStore; rw [ht, bnd_some]
  refine ⟨⟨h5, h3⟩, ?_⟩
  split at h6
  · split at h6
    · rename_i hl; rw [lget_eq] at hl
      obtain ⟨h7, h8⟩ := xspl_spec h6
      have h9 := (hset_spec h8).2
      simp only [setAt, hl]; rw [if_pos h7]; exact h9
    · exact h6.elim
  · split at h6
    · rename_i hl; rw [lget_eq] at hl
      obtain ⟨e', g1, g2⟩ := bnd_elim h6
      have hz := (ok.get g1).2.1
      simp only [setAt, hl]
      split at g2
      · rename_i hb
        rw [if_pos ⟨g2.len, g2.lt⟩, if_pos ⟨rfl, by rw [h5, hz]; exact Nat.eq_of_beq_eq_true hb⟩]
        exact (hset_spec g2.o).2
      · rename_i hno
        rw [if_pos ⟨g2.len, g2.lt⟩]
        split
        · rename_i hh; exfalso; refine hno hh.1 ?_
          rw [h5, hz] at hh; rw [hh.2]; exact Nat.beq_refl _
        · rw [if_pos ⟨by rw [hz]; exact g2.le, g2.one⟩]
          exact (hset_spec g2.o).2
    · exact h6.elim
  · exact h6.elim

theorem xBoxO_sound {v : AV} {k : AV → List Blk → Prop} (h : xBoxO v H k) : opBoxO v H k := by
  obtain ⟨h1, h2⟩ := xone_spec h
  unfold xNew at h2
  split at h2
  · obtain ⟨i, h3, h4⟩ := h2.o
    rw [lget_eq] at h3
    exact ⟨h1, .inr ⟨i, h3, (hset_spec h4).2⟩⟩
  · have := hpush_spec h2
    rw [Nat.zero_add] at this
    exact ⟨h1, .inl this⟩
theorem xAddP_sound {p : AV} {off : Nat} (h : xAddP p off k) : bnd (addP p off) k := by
  unfold xAddP at h; split at h
  · exact h
  · exact h
  · exact h
  · exact h.elim
theorem xFldP_sound {p : AV} {off : Nat} (h : xFldP p off k) : bnd (addP p off) k := by
  unfold xFldP at h; split at h
  · split at h
    · exact h.o
    · exact (xdrop_spec h).2
  · exact h
  · exact h
  · exact h.elim
theorem xPart_sound {cs : List AV} {ag : Bool} {off n : Nat} (h : xPart cs ag off n k) : partA cs ag off n k := by
  unfold xPart at h; unfold partA
  split at h
  · obtain ⟨h1, h2⟩ := xdrop_spec h
    obtain ⟨h3, h4⟩ := xtk_spec h2
    rw [if_pos rfl]; exact ⟨by simp at h3; omega, h4⟩
  · obtain ⟨h1, h2⟩ := xdrop_spec h
    rw [if_neg (by simp)]
    have : cs[off]? = (cs.drop off).head? := by simp
    rw [this]
    split at h2
    · rename_i e; rw [e]; exact h2
    · exact h2.elim
theorem fields_get {e : TE} {f : Nat} {x : Nat × Bool × Nat} (h : lget (fields e.k) f = some x) : ∃ fs, e.k = .st fs ∧ lget fs f = some x := by
  cases hk : e.k with
  | st fs => rw [hk] at h; exact ⟨fs, rfl, h⟩
  | _ => rw [hk] at h; simp [fields, lget] at h
theorem fld_of (ok : TabOk P T) {e : TE} {f : Nat} {x : Nat × Bool × Nat} (h1 : tget T t = some e) (h2 : lget (fields e.k) f = some x) : fldK P t f = some x := by
  obtain ⟨fs, h3, h4⟩ := fields_get h2
  obtain ⟨_, _, _, h5, _⟩ := ok.get h1
  rw [h3] at h5; exact (h5.1 f x h4).1
theorem xFieldAddr_sound (ok : TabOk P T) {p : AV} {f : Nat} (h : xFieldAddr T t p f k) : opFieldAddr P t p f k := by
  obtain ⟨e, h1, h2⟩ := bnd_elim h
  obtain ⟨x, h3, h4⟩ := bnd_elim h2
  unfold opFieldAddr; rw [fld_of ok h1 h3, bnd_some]
  split at h4
  · exact h4.elim
  · rename_i e; exact ⟨by omega, xFldP_sound h4⟩
theorem xField_sound (ok : TabOk P T) {x : AV} {f : Nat} (h : xField T t x f k) : opField P t x f k := by
  unfold xField at h; split at h
  · obtain ⟨e, h1, h2⟩ := bnd_elim h
    obtain ⟨x, h3, h4⟩ := bnd_elim h2
    unfold opField; simp only; rw [fld_of ok h1 h3, bnd_some]; exact xPart_sound h4
  · exact h.elim
theorem xIndex_sound (ok : TabOk P T) {x i : AV} (h : xIndex T t x i k) : opIndex P t x i k := by
  unfold xIndex at h; split at h
  · obtain ⟨e, h1, h2⟩ := bnd_elim h
    obtain ⟨_, _, _, h5, _⟩ := ok.get h1
    split at h2
    · rename_i hk; rw [hk] at h5
      unfold opIndex; simp only; rw [h5.1, bnd_some]
      exact ⟨h2.l.1, h2.l.2, xPart_sound h2.r⟩
    · exact h2.elim
  · exact h.elim
theorem xIndexAddr_sound (ok : TabOk P T) {x i : AV} (h : xIndexAddr T t H x i k) : opIndexAddr P t H x i k := by
  unfold xIndexAddr at h; split at h
  · obtain ⟨e, h1, h2⟩ := bnd_elim h
    obtain ⟨_, _, _, h5, _⟩ := ok.get h1
    unfold opIndexAddr
    split at h2
    · rename_i hk; rw [hk] at h5; simp only; rw [h5.2.1, bnd_some]; exact ⟨h2.lo, h2.hi, h2.wd, h2.o⟩
    · rename_i hk; rw [hk] at h5; simp only; rw [h5.2.1, bnd_some]
      split at h2
      · rename_i hl; rw [lget_eq] at hl
        obtain ⟨e', g1, g2⟩ := bnd_elim h2
        rw [hl]; exact ⟨g2.l.1, g2.l.2.1.trans (ok.get g1).2.1.symm, g2.l.2.2.1, g2.l.2.2.2, g2.r⟩
      · exact h2.elim
    · rename_i hk; rw [hk] at h5; simp only; rw [h5.1, bnd_some]; exact ⟨h2.lo, h2.hi, xAddP_sound h2.o⟩
    · rename_i hk; rw [hk] at h5; simp only; rw [h5.1, bnd_some]; exact ⟨h2.lo, h2.hi, xAddP_sound h2.o⟩
    · rename_i hk; rw [hk] at h5; simp only; rw [h5.1, bnd_some]; exact ⟨h2.lo, h2.hi, xAddP_sound h2.o⟩
    · exact h2.elim
  · exact h.elim

theorem place_of (ok : TabOk P T) {e : TE} {i : Nat} {x : Nat × Nat} (h1 : tget T t = some e) (h2 : place e.k i = some x) : placeK P t i = some x := by
  obtain ⟨_, _, _, h5, _⟩ := ok.get h1
  unfold place at h2
  split at h2
  · rename_i hk; rw [hk] at h5
    split at h2
    · rename_i hl; cases h2; exact (h5.1 _ _ hl).2
    · cases h2
  · rename_i hk; rw [hk] at h5; cases h2; exact h5.2.2 i
  · cases h2
theorem xFill_sound (ok : TabOk P T) {e : TE} (h1 : tget T t = some e) : ∀ {ps : List (Nat × AV)} {cells : List AV} {k : List AV → Prop}, xFill e.k cells ps k → bnd (fillA (placeK P t) cells ps) k
  | [], _, _, h => h
  | (i, v) :: rest, cells, k, h => by
    obtain ⟨x, h2, h3⟩ := bnd_elim h
    obtain ⟨h4, h5⟩ := xone_spec h3
    obtain ⟨h6, h7⟩ := xn_spec h5
    obtain ⟨h8, h9⟩ := xspl_spec h7
    simp only [fillA, place_of ok h1 h2]
    rw [if_pos ⟨h6, by rw [← h6]; exact h8, h4⟩]
    exact xFill_sound ok h1 h9
theorem xBuild_sound (ok : TabOk P T) {ps : List (Nat × AV)} (h : xBuild T t ps k) : opBuild P t ps k := by
  obtain ⟨e, h1, h2⟩ := bnd_elim h
  obtain ⟨_, _, hz, h5, _⟩ := ok.get h1
  split at h2
  · rename_i zc h3 h4
    refine ⟨?_, ?_⟩
    · cases hk : e.k <;> rw [hk] at h4 h5 <;> first | exact h5.2 | exact h5.2.1 | (simp [isAgK] at h4; done)
    · rw [hz _ h3, bnd_some]; exact xFill_sound ok h1 h2
  · exact h2.elim

variable {K : AV → List Blk → Prop}
theorem xBuildSlice_sound (ok : TabOk P T) {o : Bool} {len : Nat} {ps : List (Nat × AV)} (h : xBuildSlice T o t len ps H K) : opBuildSlice P o t len ps H K := by
  obtain ⟨e, h1, h2⟩ := bnd_elim h
  obtain ⟨_, _, _, h5, _⟩ := ok.get h1
  split at h2
  · rename_i hk; rw [hk] at h5
    obtain ⟨els, h3, h4⟩ := bnd_elim h2
    unfold opBuildSlice; rw [h5.1, bnd_some, h3, bnd_some]
    refine ⟨h4.l, ?_⟩
    have h6 := h4.r
    split at h6
    · rw [if_pos rfl]; have := hpush_spec h6; rw [Nat.zero_add] at this; exact this
    · rw [if_neg (by simp)]
      split at h6
      · exact h6
      · exact h6
  · exact h2.elim
theorem xMakeSlice_sound (ok : TabOk P T) {l c : AV} (h : xMakeSlice T t l c H K) : opMakeSlice P t l c H K := by
  unfold xMakeSlice at h; split at h
  · obtain ⟨e, h1, h2⟩ := bnd_elim h
    obtain ⟨_, _, _, h5, _⟩ := ok.get h1
    split at h2
    · rename_i hk; rw [hk] at h5
      unfold opMakeSlice; simp only; rw [h5.1, bnd_some, h5.2.2.2, bnd_some]
      have := hpush_spec h2.r; rw [Nat.zero_add] at this
      exact ⟨⟨h2.l.1, h2.l.2.1, h2.l.2.2.1, h2.l.2.2.2⟩, this⟩
    · exact h2.elim
  · exact h.elim
theorem xEls_sound {x : AV} {k : List AV → Prop} (h : xEls H x k) : bnd (elsOf H x) k := by
  unfold xEls at h; split at h
  · exact h
  · exact h
  · split at h
    · rename_i hl; rw [lget_eq] at hl
      simp only [elsOf, hl]; rw [if_pos h.l]; exact h.r
    · exact h.elim
  · exact h.elim
theorem xAppend_sound (ok : TabOk P T) {s x : AV} (h : xAppend T t s x H K) : opAppend P t s x H K := by
  obtain ⟨e, h1, h2⟩ := bnd_elim h
  obtain ⟨_, _, _, h5, _⟩ := ok.get h1
  split at h2
  · rename_i hk; rw [hk] at h5
    unfold opAppend; rw [h5.1, bnd_some]
    refine bnd_mono (xEls_sound h2) fun new _ h3 => ⟨h3.l, ?_⟩
    have h4 := h3.r
    split at h4
    · have := hpush_spec h4.r; rw [Nat.zero_add] at this; exact ⟨h4.l, this⟩
    · have := hpush_spec h4.r; rw [Nat.zero_add] at this; exact ⟨h4.l, this⟩
    · split at h4
      · rename_i hl; rw [lget_eq] at hl
        simp only [hl]; exact ⟨⟨h4.l.1, h4.l.2.1, h4.l.2.2.1, h4.l.2.2.2⟩, (hset_spec h4.r).2⟩
      · exact h4.elim
    · exact h4.elim
  · exact h2.elim
theorem xSlice_sound (ok : TabOk P T) {x : AV} {lo hi mx : Option AV} (h : xSlice T t x lo hi mx k) : opSlice P t x lo hi mx k := by
  unfold xSlice at h; split at h
  · obtain ⟨e, h1, h2⟩ := bnd_elim h
    obtain ⟨_, _, _, h5, _⟩ := ok.get h1
    split at h2
    · rename_i hk; rw [hk] at h5
      unfold opSlice; simp only; rw [h5.2.1, bnd_some]
      refine bnd_mono h2 fun l _ h3 => bnd_mono h3 fun r _ h4 => ?_
      split at h4
      · exact ⟨h4.l, h4.r⟩
      · exact bnd_mono h4 fun m _ h5 => ⟨h5.l, h5.r⟩
    · exact h2.elim
  · obtain ⟨e, h1, h2⟩ := bnd_elim h
    obtain ⟨_, _, _, h5, _⟩ := ok.get h1
    split at h2
    · rename_i hk; rw [hk] at h5
      unfold opSlice; simp only; rw [h5.1, bnd_some]
      obtain ⟨l, e1, h3⟩ := bnd_elim h2
      obtain ⟨r, e2, h4⟩ := bnd_elim h3
      split at h4
      · show (false = false ∧ 1 = 1 ∧ _ ≤ _ ∧ _)
        refine ⟨rfl, rfl, h4.l.1, ?_⟩
        rw [e1, bnd_some, e2, bnd_some]
        exact ⟨rfl, h4.l.2, h4.r⟩
      · exact h4.elim
    · exact h2.elim
  · exact h.elim
theorem xUn_sound {op : UnOp} {x : AV} (h : xUn op x k) : opUn op x k := by
  unfold xUn at h; split at h
  · exact h
  · exact h.o
  · exact h
  · exact h.elim
theorem xConv_sound (ok : TabOk P T) {s d : TypeId} {x : AV} (h : xConv T s d x k) : opConv P s d x k := by
  unfold xConv at h; split at h
  · obtain ⟨e, h1, h2⟩ := bnd_elim h
    obtain ⟨e', h3, h4⟩ := bnd_elim h2
    obtain ⟨i, u, _, h6, _⟩ := tyK_spec (ok.get h1).1
    obtain ⟨_, _, _, h5, _⟩ := ok.get h3
    split at h4
    · rename_i hk; rw [hk] at h5
      exact ⟨by rw [h6]; rfl, by rw [h5]; exact h4.o⟩
    · exact h4.elim
  · exact h.elim
theorem xExt_sound {x : AV} {i : Nat} (h : xExt x i k) : opExt x i k := by
  unfold xExt at h; split at h
  · rw [lget_eq] at h; exact h
  · exact h.elim
theorem xLen_sound (ok : TabOk P T) {x : AV} (h : xLen T t H x k) : opLen P t H x k := by
  obtain ⟨e, h1, h2⟩ := bnd_elim h
  obtain ⟨_, _, _, h5, _⟩ := ok.get h1
  split at h2
  · rename_i hk; rw [hk] at h5; exact ⟨h5.2.2.1, h2⟩
  · rename_i hk; rw [hk] at h5; exact ⟨h5.2.2.1, h2⟩
  · rename_i hk; rw [hk] at h5
    split at h2
    · rename_i hl; rw [lget_eq] at hl
      exact ⟨h5.2.2.1, by rw [hl]; exact h2.l, h2.r⟩
    · exact h2.elim
  · exact h2.elim
theorem xBuiltin_sound (ok : TabOk P T) {b : Builtin} {ts : List TypeId} {rs : List AV} (h : xBuiltin T b ts rs H K) : opBuiltin P b ts rs H K := by
  unfold xBuiltin at h; split at h
  · exact xLen_sound ok h
  · split at h
    · rename_i e; exact ⟨Nat.eq_of_beq_eq_true e, xAppend_sound ok h⟩
    · exact h.elim
  · rename_i q a q' b
    show K (.int q (if b < a then b else a)) H
    rwa [show (if b < a then b else a) = min a b by omega]
  · rename_i q a q' b
    show K (.int q (if b > a then b else a)) H
    rwa [show (if b > a then b else a) = max a b by omega]
  · exact h.elim
theorem xCallV_sound {fv : AV} {rs : List AV} : xCallV P fv rs H K → (match fv with | .fn g caps => ACall P g (rs ++ caps) H K | .yld i => AYield P i rs H K | _ => False) := by
  intro h; unfold xCallV at h; split at h
  · exact h.o
  · exact h.o
  · exact h.elim

theorem xLookup_sound (ok : TabOk P T) {x i : AV} {c : Bool} (h : xLookup T t H x i c k) : opLookup P t H x i c k := by
  obtain ⟨e, h1, h2⟩ := bnd_elim h
  obtain ⟨_, _, _, h5, _⟩ := ok.get h1
  split at h2
  · rename_i hk; rw [hk] at h5
    unfold opLookup; rw [h5, bnd_some]
    split at h2
    · rename_i hl; rw [lget_eq] at hl; simp only [hl]; exact h2.o
    · exact h2.elim
  · exact h2.elim
theorem xMapUpdate_sound (ok : TabOk P T) {x i v : AV} (h : xMapUpdate T t H x i v K) : opMapUpdate P t H x i v K := by
  obtain ⟨e, h1, h2⟩ := bnd_elim h
  obtain ⟨_, _, _, h5, _⟩ := ok.get h1
  split at h2
  · rename_i hk; rw [hk] at h5
    unfold opMapUpdate; rw [h5, bnd_some]
    split at h2
    · rename_i hl; rw [lget_eq] at hl; simp only [hl]; exact (hset_spec h2).2
    · exact h2.elim
  · exact h2.elim
theorem XOp.sound (ok : TabOk P T) {d : Option Nat} {op : Op} (h : XOp P T own d σ H K op) : AOp P own d σ H K op := by
  unfold XOp at h
  split at h
  case h_3 =>
    refine bnd_mono h fun r _ h1 => ?_
    split at h1
    · exact ⟨h1.t, h1.f⟩
    · exact h1.elim
  case h_4 =>
    obtain ⟨e, h1, h2⟩ := bnd_elim h
    split at h2
    · rename_i hz; show bnd (zeroA P _) _; rw [(ok.get h1).2.2.1 _ hz, bnd_some]; exact xBoxO_sound h2
    · exact h2.elim
  case h_5 =>
    refine bnd_mono h fun r _ h1 => ?_
    split at h1
    · rename_i e; rw [if_pos e]; exact xBoxO_sound h1
    · rename_i e; rw [if_neg (by rw [e]; simp)]; exact xone_spec h1
  case h_6 => exact bnd_mono h fun _ _ h1 => xBuild_sound ok h1
  case h_7 => exact bnd_mono h fun _ _ h1 => xBuildSlice_sound ok h1
  case h_8 => exact bnd_mono h fun _ _ h1 => xLoad_sound ok h1
  case h_9 => exact bnd_mono h fun _ _ h1 => bnd_mono h1 fun _ _ h2 => xStore_sound ok h2
  case h_10 => exact h
  case h_11 => exact bnd_mono h fun _ _ h1 => bnd_mono h1 fun _ _ h2 => xBin_sound ok h2
  case h_12 => exact bnd_mono h fun _ _ h1 => xUn_sound h1
  case h_13 => exact bnd_mono h fun _ _ h1 => xConv_sound ok h1
  case h_14 =>
    split at h
    · split at h
      · rename_i hf; exact ⟨by simpa using hf, h⟩
      · exact h.elim
    · exact h.elim
  case h_15 => exact bnd_mono h fun _ _ h1 => bnd_mono h1 fun _ _ h2 => xMakeSlice_sound ok h2
  case h_16 => exact bnd_mono h fun _ _ h1 => bnd_mono h1 fun _ _ h2 => bnd_mono h2 fun _ _ h3 => bnd_mono h3 fun _ _ h4 => xSlice_sound ok h4
  case h_17 => exact bnd_mono h fun _ _ h1 => xFieldAddr_sound ok h1
  case h_18 => exact bnd_mono h fun _ _ h1 => xField_sound ok h1
  case h_19 => exact bnd_mono h fun _ _ h1 => bnd_mono h1 fun _ _ h2 => xIndexAddr_sound ok h2
  case h_20 => exact bnd_mono h fun _ _ h1 => bnd_mono h1 fun _ _ h2 => xIndex_sound ok h2
  case h_21 => exact bnd_mono h fun _ _ h1 => xExt_sound h1
  case h_22 =>
    split at h
    · rename_i hc
      show opCall P σ H _ K
      unfold opCall; rw [hc]
      exact bnd_mono h fun fv _ h1 => bnd_mono h1 fun rs _ h2 => xCallV_sound h2
    · rename_i hc
      show opCall P σ H _ K
      unfold opCall; rw [hc]
      exact bnd_mono h fun rs _ h1 => xBuiltin_sound ok h1
    · exact h.elim
  case h_23 =>
    split at h
    · have := hpush_spec h; rw [Nat.zero_add] at this; exact this
    · exact h.elim
  case h_24 => exact bnd_mono h fun _ _ h1 => bnd_mono h1 fun _ _ h2 => xLookup_sound ok h2
  case h_25 => exact bnd_mono h fun _ _ h1 => bnd_mono h1 fun _ _ h2 => bnd_mono h2 fun _ _ h3 => xMapUpdate_sound ok h3
  case h_26 => exact bnd_mono h fun _ _ h1 => bnd_mono h1 fun _ _ h2 => bnd_mono h2 fun _ _ h3 => xMapUpdate_sound ok h3
  case h_27 => exact h.elim
  all_goals exact h
end
end GA
end

section
namespace GA
open Go Go.RowKit

def updX (σ : St) (d : Nat) (r : AV) : St := fun t => match Nat.beq t d with | true => some r | false => σ t
def putX (N : Nat) (σ : St) (d : Option Nat) (r : AV) : St := match d with | some d => (match Nat.blt d N with | true => updX σ d r | false => σ) | none => σ
def stX : List (Nat × AV) → St
  | [] => fun _ => none
  | (t, r) :: l => updX (stX l) t r
theorem updX_eq (σ : St) (d : Nat) (r : AV) : updX σ d r = upd σ d r := by
  funext t; unfold updX upd
  by_cases h : t = d
  · subst h; simp
  · rw [if_neg h]; cases e : Nat.beq t d with
    | true => exact absurd (Nat.eq_of_beq_eq_true e) h
    | false => rfl
theorem putX_eq (N : Nat) (σ : St) (d : Option Nat) (r : AV) : putX N σ d r = putO N σ d r := by
  cases d with
  | none => rfl
  | some d =>
    simp only [putX, putO]
    cases e : Nat.blt d N with
    | true => rw [if_pos (by simpa [Nat.blt_eq] using e)]; exact updX_eq _ _ _
    | false => rw [if_neg (by intro h; rw [← Nat.blt_eq] at h; rw [h] at e; cases e)]
theorem upd_self {σ : St} {d : Nat} {r : AV} (h : σ d = some r) : updX σ d r = σ := by
  rw [updX_eq]; funext t; unfold upd; split
  · rename_i e; rw [e, h]
  · rfl

def xGate (all : List Oper) (σ : St) (g : Option (Nat × Bool)) (A B : St → Prop) : Prop :=
  match g with
  | none => A σ
  | some (j, want) => bnd (lget all j) fun o => bnd o.dst fun d => bnd (σ d) fun r =>
    match r with
    | .bool b => match want with
      | true => XBr b (A (updX σ d (.bool true))) (B (updX σ d (.bool false)))
      | false => XBr b (B (updX σ d (.bool true))) (A (updX σ d (.bool false)))
    | .tup [] => B σ
    | _ => False

def XReg (P : Program) (T : Tab) (N : Nat) (own : List Nat) (all : List Oper) : List Oper → St → List Blk → (St → List Blk → Prop) → Prop
  | [], σ, H, K => K σ H
  | o :: rest, σ, H, K => xGate all σ o.guard (fun σ => XOp P T own o.dst σ H (fun r H' => XReg P T N own all rest (putX N σ o.dst r) H' K) o.op) (fun σ => XReg P T N own all rest (putX N σ o.dst (.tup [])) H K)

def blockX (id : Nat) (Q : Post) : Post
  | .exit id', D, σ, H => match Nat.beq id' id with | true => Q .normal D σ H | false => Q (.exit id') D σ H
  | e, D, σ, H => Q e D σ H

def manyG : Nat → List Oper → Bool
  | 0, _ => true
  | _ + 1, [] => false
  | n + 1, o :: l => match o.guard with | none => manyG (n + 1) l | some _ => manyG n l
def XRun (P : Program) (T : Tab) (N : Nat) (ρ : Option Nat) (own : List Nat) : Code → Post → List Nat → St → List Blk → Prop
  | .skip, Q, D, σ, H => Q .normal D σ H
  | .exit id, Q, D, σ, H => Q (.exit id) D σ H
  | .ret, Q, D, σ, H => Q .ret D σ H
  | .seq a b, Q, D, σ, H => XRun P T N ρ own a (thenQ (XRun P T N ρ own b Q) Q) D σ H
  | .cond c x y, Q, D, σ, H => bnd (ev σ c) fun r => match r with | .bool b => XBr b (XRun P T N ρ own x Q D σ H) (XRun P T N ρ own y Q D σ H) | _ => False
  | .block id b, Q, D, σ, H => XRun P T N ρ own b (blockX id Q) D σ H
  | .region id ops false, Q, D, σ, H => match manyG 12 ops.toList with | true => Walk P N ρ (.region id ops false) Q D σ H | false => XReg P T N own ops.toList ops.toList σ H (Q .normal D)
  | c, Q, D, σ, H => Walk P N ρ c Q D σ H

section
variable {P : Program} {T : Tab} {N : Nat} {ρ : Option Nat} {own : List Nat}

theorem xGate_gate {all : List Oper} {σ : St} {g : Option (Nat × Bool)} {A B : St → Prop} (h : xGate all σ g A B) : gate all σ g (A σ) (B σ) := by
  unfold xGate at h
  split at h
  · exact h
  · rename_i j want
    obtain ⟨o', h1, h2⟩ := bnd_elim h
    obtain ⟨d, h3, h4⟩ := bnd_elim h2
    obtain ⟨r, h5, h6⟩ := bnd_elim h4
    rw [lget_eq] at h1
    simp only [gate, h1, Option.bind_some, h3, bnd_some, h5]
    split at h6
    · rename_i b
      split at h6
      · refine ⟨fun e => ?_, fun e => ?_⟩
        · have e' : b = true := by simpa using e
          subst e'; have := h6.t rfl; rw [upd_self h5] at this; exact this
        · have e' : b = false := by simpa using e
          subst e'; have := h6.f rfl; rw [upd_self h5] at this; exact this
      · refine ⟨fun e => ?_, fun e => ?_⟩
        · have e' : b = false := by simpa using e
          subst e'; have := h6.f rfl; rw [upd_self h5] at this; exact this
        · have e' : b = true := by simpa using e
          subst e'; have := h6.t rfl; rw [upd_self h5] at this; exact this
    · exact h6
    · exact h6.elim

theorem XReg.sound {E : Env} (ok : TabOk P T) {all : List Oper} {K : St → List Blk → Prop} {Q : Exit → Act → World → Prop} {a0 : Act} {h0 : Nat → Option Obj} {β0 : Nat → Value} {H0 : List Blk}
    (hQ : ∀ σ' H' h' β' a' w', K σ' H' → Ext h0 β0 H0 h' β' H' → SR P E h' β' H' w' → Fits P h' β' H' σ' a' → Keeps a0 a' → Q .normal a' w') :
    ∀ (l : List Oper) (i : Nat) (σ : St) (H : List Blk) (h : Nat → Option Obj) (β : Nat → Value) (a : Act) (w : World), (∀ j, l[j]? = all[i + j]?) → XReg P T N own all l σ H K → Ext h0 β0 H0 h β H → SR P E h β H w → Fits P h β H σ a → Keeps a0 a → a.tmps.size = N →
      wpOpsIn (FW ρ) 0 P all.toArray Q ((List.range l.length).map (i + ·)) a w
  | [], i, σ, H, h, β, a, w, _, hk, X, s, F, kp, hN => hQ σ H h β a w hk X s F kp
  | o :: rest, i, σ, H, h, β, a, w, hl, hk, X, s, F, kp, hN => by
    have ho : all.toArray[i]? = some o := by have := hl 0; simpa using this.symm
    have hrange : (List.range (o :: rest).length).map (i + ·) = i :: (List.range rest.length).map (i + 1 + ·) := by
      simp only [List.length_cons, List.range_succ_eq_map, List.map_cons, List.map_map, Nat.add_zero]
      congr 1
      apply List.map_congr_left; intro j _; simp; omega
    rw [hrange]
    simp only [wpOpsIn, ho]
    have ih := fun σ' H' h' β' a' w' => XReg.sound ok hQ rest (i + 1) σ' H' h' β' a' w' (fun j => by have := hl (j + 1); simpa [Nat.add_assoc, Nat.add_comm 1 j] using this)
    simp only [XReg] at hk
    rcases gate_wanted F (xGate_gate hk) with ⟨hw, hA⟩ | ⟨hw, hB⟩
    · rw [if_pos hw]
      refine AOp.sound (hA.sound ok) s F ?_
      intro r H' h' β' w' v hk' X' s' hr
      rw [putX_eq] at hk'
      exact ih _ H' h' β' _ w' hk' (X.trans X') s' ((F.ext X').put hN hr) ⟨(size_put _ _ _).trans kp.size, (defers_put _ _ _).trans kp.defers⟩ ((size_put _ _ _).trans hN)
    · rw [if_neg (by rw [hw]; simp)]
      rw [putX_eq] at hB
      exact ⟨fun _ _ => trivial, ih _ H h β _ w hB X s (F.put hN rep_undef) ⟨(size_put _ _ _).trans kp.size, (defers_put _ _ _).trans kp.defers⟩ ((size_put _ _ _).trans hN)⟩

theorem AWp.regionX {id : Nat} {ops : Array Oper} {Q : Post} {D : List Nat} {σ : St} {H : List Blk} (ok : TabOk P T) (x : XReg P T N own ops.toList ops.toList σ H (Q .normal D)) : AWp P N ρ (.region id ops false) Q D σ H := by
  intro E h β a w s
  refine wpIn_region ?_
  have := XReg.sound (ρ := ρ) (Q := Conc P E N h β H Q) (a0 := a) (h0 := h) (β0 := β) (H0 := H) ok (fun σ' H' h' β' a' w' k X s' F kp => ⟨D, σ', H', h', β', k, X, s', F, kp.size.trans s.size, by rw [kp.defers]; exact s.df.ext X⟩)
    ops.toList 0 σ H h β a w (by simp) x (Ext.refl _ _ _) s.sr s.fits ⟨rfl, rfl⟩ s.size
  simpa using this

theorem blockX_eq (id : Nat) (Q : Post) : blockX id Q = blockQ id Q := by
  funext e D σ H
  cases e with
  | exit id' =>
    simp only [blockX, blockQ]
    by_cases h : id' = id
    · subst h; simp
    · rw [if_neg h]; cases e : Nat.beq id' id with
      | true => exact absurd (Nat.eq_of_beq_eq_true e) h
      | false => rfl
  | _ => rfl

theorem XRun.sound (ok : TabOk P T) : ∀ {c : Code} {Q : Post} {D : List Nat} {σ : St} {H : List Blk}, XRun P T N ρ own c Q D σ H → AWp P N ρ c Q D σ H
  | .skip, _, _, _, _, x => .skip x
  | .exit _, _, _, _, _, x => .exit x
  | .ret, _, _, _, _, x => .ret x
  | .seq a b, Q, _, _, _, x => .seq (AWp.mono (Q := thenQ (XRun P T N ρ own b Q) Q) (XRun.sound ok (c := a) x) fun e D σ H q => by
      cases e with
      | normal => exact XRun.sound ok (c := b) (Q := Q) q
      | _ => exact q)
  | .cond c _ _, _, _, _, _, x => by
      obtain ⟨r, h1, h2⟩ := bnd_elim x
      split at h2
      · exact .cond h1 (fun h => XRun.sound ok (h2.t h)) (fun h => XRun.sound ok (h2.f h))
      · exact h2.elim
  | .block id b, Q, D, σ, H, x => .block (by rw [← blockX_eq]; exact XRun.sound ok x)
  | .region id ops false, Q, D, σ, H, x => by
      unfold XRun at x
      split at x
      · exact x.o
      · exact .regionX ok x
  | .region _ _ true, _, _, _, _, x => x.o
  | .loop _, _, _, _, _, x => x.o
  | .rangeFunc .., _, _, _, _, x => x.o
  | .scope _, _, _, _, _, x => x.o
  | .label _, _, _, _, _, x => x.o
  | .goto _, _, _, _, _, x => x.o
  | .refuse _, _, _, _, _, x => x.o
end
end GA
end

section
namespace GA
set_option linter.unusedVariables false
open Go Go.RowKit

def Ret (r0 : AV) (H0 : List Blk) : AV → List Blk → Prop := fun r H => r = r0 ∧ H = H0

section
variable {P : Program} {T : Tab} {N : Nat} {ρ : Option Nat} {own : List Nat} {E : Env} {h : Nat → Option Obj} {β : Nat → Value} {H : List Blk} {w : World} {σ : St} {a : Act}

noncomputable def hall (h : Nat → Option Obj) (β : Nat → Value) (H : List Blk) (w : World) : Nat → Option Obj := by
  classical exact fun b => if ∃ i, blkOf β H i = some b then w.heap[b]? else h b
theorem hall_own {b i : Nat} (e : blkOf β H i = some b) : hall h β H w b = w.heap[b]? := by
  unfold hall; rw [if_pos ⟨i, e⟩]
theorem hall_imm (s : SR P E h β H w) {b : Nat} {o : Obj} (e : h b = some o) : hall h β H w b = some o := by
  unfold hall; split
  · rename_i hh; obtain ⟨i, hi⟩ := hh; rw [s.fresh _ _ hi] at e; cases e
  · exact e

theorem SR.all (s : SR P E h β H w) : SR P E (hall h β H w) β [] w := by
  refine ⟨s.env, fun b o e => ?_, fun i x e => by simp at e, fun i j x e => by simp [blkOf] at e, fun i x e => by simp [blkOf] at e, fun b o e => ⟨(s.frm b o e).1, ?_⟩, fun i x e => by simp [blkOf] at e⟩
  · unfold hall at e; split at e
    · exact e
    · exact s.imm b o e
  · unfold hall; split
    · rename_i hh; obtain ⟨i, hi⟩ := hh; rw [s.fro _ _ hi] at e; cases e
    · exact (s.frm b o e).2

def Froz (P : Program) (H : List Blk) (r r' : AV) : Prop :=
  ∀ E h β w, SR P E h β H w → ∀ v, Rep P h β H r v → Rep P (hall h β H w) β [] r' v
def FrozL (P : Program) (H : List Blk) (rs rs' : List AV) : Prop := rs'.length = rs.length ∧ ∀ (j : Nat) x, rs'[j]? = some x → ∃ y, rs[j]? = some y ∧ Froz P H y x

theorem Rep.none {β' : Nat → Value} {r : AV} {v : Value} (x : Rep P h β [] r v) : Rep P h β' H r v := by
  induction x with
  | bool b => exact .bool b
  | int k n => exact .int k n
  | nilp => exact .nilp
  | ptr hi _ => exact hi.nil.elim
  | pim us h1 h2 h3 _ ih => exact .pim us h1 h2 h3 ih
  | slnil => exact .slnil
  | slemp => exact .slemp
  | sl us h1 h2 h3 h4 h5 h6 h7 h8 _ ih => exact .sl us h1 h2 h3 h4 h5 h6 h7 h8 ih
  | se => exact .se
  | gr _ hi _ => exact hi.nil.elim
  | gp hi _ => exact hi.nil.elim
  | nilm => exact .nilm
  | mp hi _ => exact hi.nil.elim
  | nilf => exact .nilf
  | yld hi _ => exact hi.nil.elim
  | fn us h1 h2 _ ih => exact .fn us h1 h2 ih
  | agg us h1 h2 h3 _ ih => exact .agg us h1 h2 h3 ih
  | tup us h1 h2 _ ih => exact .tup us h1 h2 ih

theorem Froz.low {r : AV} (hl : r.low 0 = true) : Froz P H r r := by
  intro E h β w s v hr
  have h0 : Rep P h β [] r v := Rep.cut (H := []) (l := H) hr hl
  have X : Ext h β [] (hall h β H w) β [] := ⟨fun b o e => hall_imm s e, Nat.le_refl _, by simp⟩
  exact X.rep h0
theorem FrozL.low : ∀ {rs : List AV}, lowL 0 rs = true → FrozL P H rs rs :=
  fun {rs} hl => ⟨rfl, fun j x e => ⟨x, e, Froz.low ((lowL_iff.1 hl) x (List.mem_of_getElem? e))⟩⟩
theorem FrozL.nil : FrozL P H [] [] := ⟨rfl, by simp⟩
theorem FrozL.cons {r r' : AV} {rs rs' : List AV} (h1 : Froz P H r r') (h2 : FrozL P H rs rs') : FrozL P H (r :: rs) (r' :: rs') := by
  refine ⟨by simp [h2.1], fun j x e => ?_⟩
  cases j with
  | zero => simp at e; subst e; exact ⟨r, rfl, h1⟩
  | succ j => exact h2.2 j x (by simpa using e)
theorem Froz.tup {rs rs' : List AV} (hs : FrozL P H rs rs') : Froz P H (.tup rs) (.tup rs') := by
  intro E h β w s v hr
  cases hr with
  | tup us h1 h2 h3 =>
    refine .tup us (by rw [h1, hs.1]) (fun j x e => ?_) (fun j x e => ?_)
    · obtain ⟨y, e1, _⟩ := hs.2 j x e; exact h2 j y e1
    · obtain ⟨y, e1, e2⟩ := hs.2 j x e; exact e2 E h β w s _ (h3 j y e1)
theorem Froz.agg {rs rs' : List AV} (hone : ∀ x ∈ rs', x.one = true) (hs : FrozL P H rs rs') : Froz P H (.agg rs) (.agg rs') := by
  intro E h β w s v hr
  cases hr with
  | agg us h1 h0 h2 h3 =>
    refine .agg us (by rw [h1, hs.1]) hone (fun j x e => ?_) (fun j x e => ?_)
    · obtain ⟨y, e1, _⟩ := hs.2 j x e; exact h2 j y e1
    · obtain ⟨y, e1, e2⟩ := hs.2 j x e; exact e2 E h β w s _ (h3 j y e1)
theorem Froz.fn {f : FuncId} {rs rs' : List AV} (hs : FrozL P H rs rs') : Froz P H (.fn f rs) (.fn f rs') := by
  intro E h β w s v hr
  cases hr with
  | fn us h1 h2 h3 =>
    refine .fn us (by rw [h1, hs.1]) (fun j x e => ?_) (fun j x e => ?_)
    · obtain ⟨y, e1, _⟩ := hs.2 j x e; exact h2 j y e1
    · obtain ⟨y, e1, e2⟩ := hs.2 j x e; exact e2 E h β w s _ (h3 j y e1)
theorem Froz.pim {rs rs' : List AV} (hone : ∀ x ∈ rs', x.one = true) (hs : FrozL P H rs rs') : Froz P H (.pim rs) (.pim rs') := by
  intro E h β w s v hr
  cases hr with
  | pim us h0 h1 h2 h3 =>
    refine .pim us hone (hall_imm s h1) (fun j x e => ?_) (fun j x e => ?_)
    · obtain ⟨y, e1, _⟩ := hs.2 j x e; exact h2 j y e1
    · obtain ⟨y, e1, e2⟩ := hs.2 j x e; exact e2 E h β w s _ (h3 j y e1)
theorem Froz.ptr {i o : Nat} {cs cs' : List AV} (hb : lget H i = some (.cells cs)) (hone : ∀ x ∈ cs', x.one = true) (hs : FrozL P H (cs.drop o) cs') : Froz P H (.ptr i o) (.pim cs') := by
  rw [lget_eq] at hb
  intro E h β w s v hr
  cases hr with
  | @ptr _ _ b hi h1 =>
    have hβ := h1 cs hb
    obtain ⟨b', c, t, h2, h3, h4, h5, us, h6, h7⟩ := s.blk i _ hb
    rw [hβ] at h2; cases h2
    have hbo : blkOf β H i = some b := by simp only [blkOf, hb, hβ]; rfl
    refine .pim (fun j => us (o + j)) hone ((hall_own hbo).trans h3) (fun j x e => ?_) (fun j x e => ?_)
    · obtain ⟨y, e1, _⟩ := hs.2 j x e; rw [List.getElem?_drop] at e1; exact h6 _ y e1
    · obtain ⟨y, e1, e2⟩ := hs.2 j x e; rw [List.getElem?_drop] at e1; exact e2 E h β w s _ (h7 _ y e1)

theorem Froz.gr {i n : Nat} {t : TypeId} {nl : Bool} {els els' : List AV} (hb : lget H i = some (.grow t nl els)) (hn : els.length = n) (hlen : els'.length = els.length) (hc : ∀ e ∈ els', e.cells.length = sz P t) (hone : ∀ x ∈ flat els', x.one = true)
    (hs : FrozL P H (flat els) (flat els')) : Froz P H (.gr i n) (.sl nl els') := by
  rw [lget_eq] at hb
  intro E h β w s v hr
  cases hr with
  | gr ho hi hv =>
    obtain ⟨h1, h2⟩ := hv _ _ _ hb
    have hβ := h2 hn
    subst hβ
    rcases s.blk i _ hb with ⟨rfl, rfl, h3⟩ | ⟨rfl, rfl, b, h3⟩ | ⟨rfl, b, cap, c, h3, h4, h5, h6, h7, h8, h9, h10, h11, us, h12, h13⟩
    · rw [h3]
      cases els' with | cons _ _ => simp at hlen | nil => exact .slnil
    · rw [h3]
      cases els' with | cons _ _ => simp at hlen | nil => exact .slemp
    · rw [h3]
      cases els' with
      | nil =>
        have : els.length = 0 := by simpa using hlen.symm
        rw [this]; exact .slemp
      | cons e0 l0 =>
        have hbo : blkOf β H i = some b := by simp only [blkOf, hb, h3, anchor]; rw [if_neg (by omega)]
        refine .sl us (by rw [hlen]) (by simp) ((hall_own hbo).trans h5) hc h9 hone (by rw [hlen]; exact h6) (fun j x e => ?_) (fun j x e => ?_)
        · obtain ⟨y, e1, _⟩ := hs.2 j x e; rw [Nat.zero_add]; exact h12 j y e1
        · obtain ⟨y, e1, e2⟩ := hs.2 j x e; exact e2 E h β w s _ (h13 j y e1)
theorem Froz.grow {i n : Nat} {t : TypeId} {nl : Bool} {els : List AV} (hb : lget H i = some (.grow t nl els)) (hn : els.length = n) (hl : lowL 0 els = true) : Froz P H (.gr i n) (.sl nl els) := by
  intro E h β w s v hr
  have hb' := hb; rw [lget_eq] at hb'
  cases hr with
  | gr ho hi hv =>
    rcases s.blk i _ hb' with ⟨rfl, rfl, _⟩ | ⟨rfl, rfl, _⟩ | ⟨rfl, b, cap, c, h3, h4, h5, h6, h7, h8, h9, h10, h11, us, h12, h13⟩
    · exact Froz.gr hb hn rfl (by simp) (by simp [flat]) ⟨rfl, by simp [flat]⟩ E h β w s v (.gr ho hi hv)
    · exact Froz.gr hb hn rfl (by simp) (by simp [flat]) ⟨rfl, by simp [flat]⟩ E h β w s v (.gr ho hi hv)
    · exact Froz.gr hb hn rfl h10 h11 (FrozL.low (by rw [lowL_iff]; exact low_flat.1 hl)) E h β w s v (.gr ho hi hv)

def xRes (T : Tab) (σ : St) (H : List Blk) : List ResultVar → (List AV → Prop) → Prop
  | [], k => k []
  | .tmp t :: l, k => bnd (σ t) fun r => xRes T σ H l fun rs => k (r :: rs)
  | .cell a t :: l, k => bnd (σ a) fun p => xLoad T t H p fun r => xRes T σ H l fun rs => k (r :: rs)
structure XOut (P : Program) (H : List Blk) (r r0 : AV) : Prop where
  o : Froz P H r r0
def XFn (P : Program) (T : Tab) (res : List ResultVar) (r0 : AV) : Post := fun e D σ H =>
  match e, D with
  | .normal, [] | .ret, [] => xRes T σ H res fun rs => XOut P H (pack rs) r0
  | _, _ => False

theorem opLoad_mono {t : TypeId} {p : AV} {k k' : AV → Prop} (x : opLoad P t H p k) (hk : ∀ r, k r → k' r) : opLoad P t H p k' := by
  unfold opLoad at x ⊢
  refine bnd_mono x fun ti _ x => bnd_mono x fun cs _ x => ?_
  split at x
  · rename_i e; rw [if_pos e]; exact ⟨x.1, hk _ x.2⟩
  · rename_i e; rw [if_neg e]; exact bnd_mono x fun _ _ x => hk _ x
theorem xRes_sound (ok : TabOk P T) : ∀ {l : List ResultVar} {k : List AV → Prop}, xRes T σ H l k → resA P σ H l k
  | [], _, h => h
  | .tmp t :: l, k, h => bnd_mono h fun _ _ h1 => xRes_sound ok h1
  | .cell a t :: l, k, h => bnd_mono h fun _ _ h1 => opLoad_mono (xLoad_sound ok h1) fun _ h2 => xRes_sound ok h2

structure Comp (P : Program) (f : FuncId) (rs : List AV) (r : AV) : Prop where
  lo : lowL 0 rs = true
  o : ACall P f rs [] (Ret r [])

def argX (rs : List AV) : St := fun t => lget rs t
theorem argX_eq (rs : List AV) : argX rs = argsSt rs := by funext t; exact lget_eq _ _

theorem XCall.ret {f : FuncId} {rs : List AV} {r0 : AV} {k : AV → List Blk → Prop} (x : Comp P f rs r0) (hk : k r0 H) : XCall P f rs H k := by
  refine ⟨x.o.1, fun E h β w vs s hr => ?_⟩
  classical
  let E' : Env := ⟨E.b, fun b => if ∃ i, blkOf β H i = some b then w.heap[b]? else E.fr b, E.en⟩
  have s0 : SR P E' h β [] w := by
    refine ⟨s.env, s.imm, fun i x e => by simp at e, fun i j x e => by simp [blkOf] at e, fun i x e => by simp [blkOf] at e, fun b o e => ?_, fun i x e => by simp [blkOf] at e⟩
    simp only [E'] at e
    split at e
    · rename_i hh; obtain ⟨i, hi⟩ := hh; exact ⟨e, s.fresh _ _ hi⟩
    · exact s.frm b o e
  have hr0 : RepL P h β [] rs vs := ⟨hr.1, fun j y e => by
    obtain ⟨v, e1, e2⟩ := hr.2 j y e
    exact ⟨v, e1, Rep.cut (H := []) (l := H) e2 ((lowL_iff.1 x.lo) y (List.mem_of_getElem? e))⟩⟩
  refine (x.o.2 E' h β w vs s0 hr0).mono ?_
  rintro e w' ⟨r, H', h', β', v, rfl, ⟨rfl, rfl⟩, X, s', hrep⟩
  have X' : Ext h β H h' β H := ⟨X.imm, Nat.le_refl _, fun i x x' e e' => by rw [e] at e'; cases e'; exact Blk.to_refl _ _ _⟩
  have hfr : ∀ i b o, blkOf β H i = some b → w.heap[b]? = some o → w'.heap[b]? = some o ∧ h' b = none := fun i b o e eo => s'.frm b o (by simp only [E']; rw [if_pos ⟨i, e⟩]; exact eo)
  have hown : ∀ i b, blkOf β H i = some b → w'.heap[b]? = w.heap[b]? := fun i b e => by
    have hlt := s.lt e
    have : w.heap[b]? = some w.heap[b] := Array.getElem?_eq_getElem hlt
    rw [(hfr i b _ e this).1, this]
  refine ⟨r, H, h', β, v, rfl, hk, X', ⟨s'.env, s'.imm, fun i x e => ?_, s.own, fun i b e => ?_, fun b o e => ?_, s.fro⟩, hrep.none⟩
  · exact (s.blk i x e).keep X' rfl fun hd hd' b hb => hown i b (by unfold blkOf; rw [e]; cases x <;> first | exact absurd rfl hd | exact absurd rfl hd' | exact hb)
  · have hlt := s.lt e
    exact (hfr i b _ e (Array.getElem?_eq_getElem hlt)).2
  · refine s'.frm b o ?_
    simp only [E']; rw [if_neg]; exact e
    rintro ⟨i, hi⟩; rw [s.fro _ _ hi] at e; cases e

mutual
def AV.plain : AV → Bool
  | .bool _ | .int _ _ | .nilp | .nilm | .nilf => true
  | .sl true [] => true
  | .agg cs | .tup cs => plainL cs
  | _ => false
def plainL : List AV → Bool
  | [] => true
  | x :: l => x.plain && plainL l
end
theorem plainL_iff : ∀ {l : List AV}, plainL l = true ↔ ∀ x ∈ l, x.plain = true
  | [] => by simp [plainL]
  | x :: l => by simp [plainL, plainL_iff (l := l)]
theorem Rep.plain {h' : Nat → Option Obj} {β' : Nat → Value} {H' : List Blk} {r : AV} {v : Value} (x : Rep P h β H r v) (hp : r.plain = true) : Rep P h' β' H' r v := by
  induction x with
  | bool b => exact .bool b
  | int k n => exact .int k n
  | nilp => exact .nilp
  | nilm => exact .nilm
  | nilf => exact .nilf
  | slnil => exact .slnil
  | agg us h1 h2 h3 _ ih =>
    simp only [AV.plain] at hp; rw [plainL_iff] at hp
    exact .agg us h1 h2 h3 fun j x e => ih j x e (hp x (List.mem_of_getElem? e))
  | tup us h1 h2 _ ih =>
    simp only [AV.plain] at hp; rw [plainL_iff] at hp
    exact .tup us h1 h2 fun j x e => ih j x e (hp x (List.mem_of_getElem? e))
  | _ => simp [AV.plain] at hp

theorem XCall.lend {f : FuncId} {rs rs' : List AV} {r0 : AV} {k : AV → List Blk → Prop} (x : Comp P f rs' r0) (hf : FrozL P H rs rs') (hp : r0.plain = true) (hk : k r0 H) : XCall P f rs H k := by
  refine ⟨x.o.1, fun E h β w vs s hr => ?_⟩
  have hr0 : RepL P (hall h β H w) β [] rs' vs := ⟨by rw [hf.1]; exact hr.1, fun j y e => by
    obtain ⟨z, e1, e2⟩ := hf.2 j y e
    obtain ⟨v, e3, e4⟩ := hr.2 j z e1
    exact ⟨v, e3, e2 E h β w s v e4⟩⟩
  refine (x.o.2 E _ β w vs s.all hr0).mono ?_
  rintro e w' ⟨r, H', h', β', v, rfl, ⟨rfl, rfl⟩, X, s', hrep⟩
  have hown : ∀ i b, blkOf β H i = some b → w'.heap[b]? = w.heap[b]? := fun i b e => by
    have hlt := s.lt e
    have e1 : w.heap[b]? = some w.heap[b] := Array.getElem?_eq_getElem hlt
    have e2 := s'.imm b _ (X.imm b _ ((hall_own (h := h) (w := w) e).trans e1))
    rw [e2, e1]
  refine ⟨r, H, h, β, v, rfl, hk, Ext.refl _ _ _, ⟨s'.env, fun b o e => s'.imm b o (X.imm b o (hall_imm s e)), fun i x e => ?_, s.own, s.fresh, fun b o e => ⟨(s'.frm b o e).1, (s.frm b o e).2⟩, s.fro⟩, hrep.plain hp⟩
  exact (s.blk i x e).keep (Ext.refl _ _ _) rfl fun hd hd' b hb => hown i b (by unfold blkOf; rw [e]; cases x <;> first | exact absurd rfl hd | exact absurd rfl hd' | exact hb)
end

def SubX : List (Nat × AV) → St → Prop
  | [], _ => True
  | (t, r) :: l, σ => σ t = some r ∧ SubX l σ
structure XAgain {G : Type} (I : G → Prop) (L : G → List (Nat × AV)) (hp : G → List Blk) (μ : G → Nat) (g : G) (D : List Nat) (D' : List Nat) (σ' : St) (H' : List Blk) : Prop where
  d : D' = D
  o : ∃ g', I g' ∧ μ g' < μ g ∧ hp g' = H' ∧ SubX (L g') σ'

section
variable {P : Program} {T : Tab} {N : Nat} {ρ : Option Nat} {D : List Nat} {σ : St} {H : List Blk}
theorem stX_sub : ∀ {l : List (Nat × AV)} {σ : St}, SubX l σ → ∀ t r, stX l t = some r → σ t = some r
  | [], _, _, _, _, e => by cases e
  | (u, x) :: l, σ, h, t, r, e => by
    simp only [stX, updX_eq, upd] at e
    split at e
    · rename_i h1; subst h1; cases e; exact h.1
    · exact stX_sub h.2 t r e

theorem Walk.loop {c : Code} {Q : Post} {G : Type} (ok : TabOk P T) (own : List Nat) (I : G → Prop) (L : G → List (Nat × AV)) (hp : G → List Blk) (μ : G → Nat) (g0 : G) (h0 : I g0) (hH : hp g0 = H) (hs : SubX (L g0) σ)
    (round : ∀ g, I g → XRun P T N ρ own c (thenQ (XAgain I L hp μ g D) Q) D (stX (L g)) (hp g)) : Walk P N ρ (.loop c) Q D σ H := by
  constructor
  refine AWp.loop (G := {g : G // I g}) (fun g => stX (L g.1)) (fun g => hp g.1) (fun g => μ g.1) ⟨g0, h0⟩ (stX_sub hs) hH fun g => ?_
  refine (XRun.sound ok (round g.1 g.2)).mono fun e D' σ' H' q => ?_
  cases e with
  | normal => obtain ⟨h1, g', h2, h3, h4, h5⟩ := q; exact ⟨h1, ⟨g', h2⟩, h3, h4, stX_sub h5⟩
  | _ => exact q
theorem XAgain.go {G : Type} {I : G → Prop} {L : G → List (Nat × AV)} {hp : G → List Blk} {μ : G → Nat} {g : G} (g' : G) (h1 : I g') (h2 : μ g' < μ g) (h3 : hp g' = H) (h4 : SubX (L g') σ) : XAgain I L hp μ g D D σ H := ⟨rfl, g', h1, h2, h3, h4⟩

theorem XBr.tt {A B : Prop} (h : A) : XBr true A B := ⟨fun _ => h, nofun⟩
theorem XBr.ff {A B : Prop} (h : B) : XBr false A B := ⟨nofun, fun _ => h⟩
theorem XBr.yes {c : Bool} {A B : Prop} (e : c = true) (h : A) : XBr c A B := by subst e; exact .tt h
theorem XBr.no {c : Bool} {A B : Prop} (e : c = false) (h : B) : XBr c A B := by subst e; exact .ff h
theorem XBr.dec {p : Prop} [Decidable p] {A B : Prop} (h1 : p → A) (h2 : ¬ p → B) : XBr (decide p) A B := ⟨fun h => h1 (of_decide_eq_true h), fun h => h2 (of_decide_eq_false h)⟩
theorem XBr.beq {a b : Int} {A B : Prop} (h1 : a = b → A) (h2 : a ≠ b → B) : XBr (a == b) A B := ⟨fun h => h1 (by simpa using h), fun h => h2 (by simpa using h)⟩
theorem XBr.bne {a b : Int} {A B : Prop} (h1 : a ≠ b → A) (h2 : a = b → B) : XBr (a != b) A B := ⟨fun h => h1 (by simpa using h), fun h => h2 (by simpa using h)⟩
theorem XBr.not {b : Bool} {A B : Prop} (h : XBr b B A) : XBr (!b) A B := ⟨fun e => h.2 (by simpa using e), fun e => h.1 (by simpa using e)⟩
theorem XBr.mk' {b : Bool} {A B : Prop} (h1 : b = true → A) (h2 : b = false → B) : XBr b A B := ⟨h1, h2⟩
theorem XInt.i64 {x : Int} {k : AV → Prop} (h1 : -9223372036854775808 ≤ x) (h2 : x ≤ 9223372036854775807) (h : k (.int .i64 x)) : XInt .i64 x k := by
  refine ⟨?_⟩
  have : IntKind.i64.wrap x = x := by
    simp only [IntKind.wrap, IntKind.bits, IntKind.signed]; simp; omega
  rw [this]; exact h
theorem XIx.map {α : Type} [Inhabited α] {f : α → AV} {xs : List α} {n : Int} {w : Nat} {k : AV → Prop} (h1 : 0 ≤ n) (h2 : n < xs.length) (hw : ∀ x, (f x).cells.length = w) (h : k (.pim (f (xs.getD n.toNat default)).cells)) : XIx (xs.map f) n w k := by
  have e : nth (xs.map f) n = f (xs.getD n.toNat default) := by
    unfold nth
    have : n.toNat < xs.length := by omega
    rw [List.getD_eq_getElem?_getD, List.getD_eq_getElem?_getD, List.getElem?_map, List.getElem?_eq_getElem this]; rfl
  exact ⟨h1, by simpa using h2, by rw [e]; exact hw _, by rw [e]; exact h⟩
theorem XIx.nat {α : Type} [Inhabited α] {f : α → AV} {xs : List α} {i w : Nat} {k : AV → Prop} (h2 : i < xs.length) (hw : ∀ x, (f x).cells.length = w) (h : k (.pim (f (xs.getD i default)).cells)) : XIx (xs.map f) (i : Int) w k :=
  XIx.map (by omega) (by omega) hw h
theorem drop_cons {cs : List AV} {off : Nat} {c : AV} (h : cs[off]? = some c) : cs.drop off = c :: cs.drop (off + 1) := by
  obtain ⟨h1, h2⟩ := List.getElem?_eq_some_iff.1 h
  rw [List.drop_eq_getElem_cons h1, h2]
theorem XArr.at {cs : List AV} {n : Int} {m w : Nat} {k : AV → Prop} (c : AV) (h1 : 0 ≤ n) (h2 : n < m) (hc : cs[n.toNat * w]? = some c) (h : k (.pim (c :: cs.drop (n.toNat * w + 1)))) : XArr (.pim cs) n m w k :=
  ⟨h1, h2, by show k (.pim (cs.drop _)); rw [drop_cons hc]; exact h⟩
theorem XArr.ptr {i o : Nat} {n : Int} {m w : Nat} {k : AV → Prop} (h1 : 0 ≤ n) (h2 : n < m) (h : k (.ptr i (o + n.toNat * w))) : XArr (.ptr i o) n m w k := ⟨h1, h2, h⟩
theorem XArr.pim {cs : List AV} {n : Int} {m w : Nat} {k : AV → Prop} (h1 : 0 ≤ n) (h2 : n < m) (h : k (.pim (cs.drop (n.toNat * w)))) : XArr (.pim cs) n m w k := ⟨h1, h2, h⟩
theorem xdrop_at {cs : List AV} {off : Nat} {k : List AV → Prop} (c : AV) (hc : cs[off]? = some c) (h : k (c :: cs.drop (off + 1))) : xdrop off cs k := by
  have : ∀ {off : Nat} {cs : List AV}, off ≤ cs.length → k (cs.drop off) → xdrop off cs k := by
    intro off; induction off with
    | zero => intro cs _ h; exact h
    | succ n ih => intro cs hl h; cases cs with
      | nil => simp at hl
      | cons c cs => exact ih (by simpa using hl) (by simpa using h)
  exact this (by have := (List.getElem?_eq_some_iff.1 hc).1; omega) (by rw [drop_cons hc]; exact h)
theorem xdrop_app {a b : List AV} {n : Nat} {k : List AV → Prop} (hn : a.length = n) (h : k b) : xdrop n (a ++ b) k := by
  have : ∀ {n : Nat} {a : List AV}, a.length = n → xdrop n (a ++ b) k := by
    intro n; induction n with
    | zero => intro a ha; rw [List.eq_nil_of_length_eq_zero ha]; exact h
    | succ n ih => intro a ha; cases a with
      | nil => simp at ha
      | cons c cs => exact ih (by simpa using ha)
  exact this hn
theorem xspl_to {c : List AV} {o : Nat} {vs : List AV} {k : List AV → Prop} (c' : List AV) (hl : o + vs.length ≤ c.length) (e : splice c o vs = c') (h : k c') : xspl c o vs k := by
  have : ∀ {c : List AV} {o : Nat} {vs : List AV} {k : List AV → Prop}, o + vs.length ≤ c.length → k (splice c o vs) → xspl c o vs k := by
    intro c; induction c with
    | nil => intro o vs k hl h; cases o with
      | zero => cases vs with
        | nil => rw [splice_nil] at h; exact h
        | cons v vs => simp at hl
      | succ o => simp at hl
    | cons x c ih => intro o vs k hl h; cases o with
      | zero => cases vs with
        | nil => rw [splice_nil] at h; exact h
        | cons v vs => rw [splice_zero] at h; exact ih (by simp at hl ⊢; omega) h
      | succ o => rw [splice_succ] at h; cases vs <;> exact ih (by simp at hl ⊢; omega) h
  exact this hl (by rw [e]; exact h)
theorem XGet.map {α : Type} [Inhabited α] {f : α → AV} {xs : List α} {n e : Nat} {k : List AV → Prop} (h1 : n = xs.length) (h2 : e < n) (h : k (f (xs.getD e default)).cells) : XGet (xs.map f) n e k := by
  have e' : (xs.map f).getD e default = f (xs.getD e default) := by
    have : e < xs.length := by omega
    rw [List.getD_eq_getElem?_getD, List.getD_eq_getElem?_getD, List.getElem?_map, List.getElem?_eq_getElem this]; rfl
  exact ⟨by simpa using h1, h2, by rw [e']; exact h⟩
theorem XPut.map {α : Type} {f : α → AV} {xs : List α} {n e : Nat} {v : AV} {k : List AV → Prop} (x : α) (hv : v = f x) (h1 : n = xs.length) (h2 : e < n) (h : k ((xs.set e x).map f)) : XPut (xs.map f) n e v k :=
  ⟨by simpa using h1, h2, by subst hv; rw [← List.map_set]; exact h⟩
theorem wide_map {α : Type} {f : α → AV} {n : Nat} (h1 : ∀ x, (f x).cells.length = n) (h2 : ∀ x, (f x).isTup = false) : ∀ (xs : List α), wide n (xs.map f) = true
  | [] => rfl
  | x :: xs => by simp [wide, h1, h2, wide_map h1 h2 xs]
theorem lowL_map {α : Type} {f : α → AV} {n : Nat} (hf : ∀ x, (f x).low n = true) (xs : List α) : lowL n (xs.map f) = true := by
  rw [lowL_iff]; intro x hx; obtain ⟨y, _, rfl⟩ := List.mem_map.1 hx; exact hf y
end
end GA
namespace GA
open Go
section
variable {P : Program} {H : List Blk}
theorem XOut.bool {b b' : Bool} (e : b = b') : XOut P H (.bool b) (.bool b') := by subst e; exact ⟨.low rfl⟩
theorem XOut.int {q : IntKind} {n n' : Int} (e : n = n') : XOut P H (.int q n) (.int q n') := by subst e; exact ⟨.low rfl⟩
end
end GA

namespace GA
open Go
theorem take_next {α : Type} [Inhabited α] {xs : List α} {i : Nat} (h : i < xs.length) : xs.take (i + 1) = xs.take i ++ [xs.getD i default] := by
  rw [List.take_add_one, List.getElem?_eq_getElem h, List.getD_eq_getElem?_getD, List.getElem?_eq_getElem h]; rfl
abbrev ints (xs : List Int) : List AV := xs.map (.int .i64)
theorem lowI {n : Nat} (xs : List Int) : lowL n (ints xs) = true := lowL_map (fun _ => rfl) xs
theorem wideI (xs : List Int) : wide 1 (ints xs) = true := wide_map (f := .int .i64) (n := 1) (fun _ => rfl) (fun _ => rfl) xs
end GA
namespace GA
open Go
theorem ints_at {xs : List Int} {i : Nat} (h : i < xs.length) (b : List AV) : (ints xs ++ b)[i * 1]? = some (.int .i64 (xs.getD i 0)) := by
  rw [Nat.mul_one, List.getElem?_append_left (by simpa using h), List.getElem?_map, List.getElem?_eq_getElem h, List.getD_eq_getElem?_getD, List.getElem?_eq_getElem h]; rfl
theorem XArr.ints {xs : List Int} {n : Int} {m : Nat} {k : AV → Prop} (h1 : 0 ≤ n) (h2 : n < m) (hm : (m : Int) ≤ xs.length) (h : k (.pim (.int .i64 (xs.getD n.toNat 0) :: (GA.ints xs).drop (n.toNat * 1 + 1)))) : XArr (.pim (GA.ints xs)) n m 1 k :=
  XArr.at _ h1 h2 (by have := ints_at (xs := xs) (i := n.toNat) (by omega) []; simpa using this) h
theorem XArr.intsA {xs : List Int} {b : List AV} {n : Int} {m : Nat} {k : AV → Prop} (h1 : 0 ≤ n) (h2 : n < m) (hm : (m : Int) ≤ xs.length) (h : k (.pim (.int .i64 (xs.getD n.toNat 0) :: (GA.ints xs ++ b).drop (n.toNat * 1 + 1)))) : XArr (.pim (GA.ints xs ++ b)) n m 1 k :=
  XArr.at _ h1 h2 (ints_at (xs := xs) (i := n.toNat) (by omega) b) h
end GA

namespace GA
open Go
theorem XArr.pim0 {c : AV} {cs : List AV} {m w : Nat} {k : AV → Prop} (h : k (.pim (c :: cs))) : XArr (.pim (c :: cs)) 0 (m + 1) w k := ⟨by omega, by omega, by show k (.pim (List.drop (0 * w) _)); rw [Nat.zero_mul]; exact h⟩
theorem XArr.pim1 {c d : AV} {cs : List AV} {m : Nat} {k : AV → Prop} (h : k (.pim (d :: cs))) : XArr (.pim (c :: d :: cs)) 1 (m + 2) 1 k := ⟨by omega, by omega, h⟩
end GA
end

section
namespace GA
open Go Go.RowKit
section
variable {P : Program} {t : TypeId} {ag : Bool} {n : Nat} {z : Option AV} {q : Option Nat}
def FldOk (P : Program) (t : TypeId) : Nat → List (Nat × Bool × Nat) → Prop
  | _, [] => True
  | i, x :: l => fldK P t i = some x ∧ FldOk P t (i + 1) l
theorem FldOk.get : ∀ {fs : List (Nat × Bool × Nat)} {j i : Nat} {x : Nat × Bool × Nat}, FldOk P t j fs → lget fs i = some x → fldK P t (j + i) = some x
  | _ :: _, j, 0, x, h, e => by cases e; exact h.1
  | _ :: l, j, i + 1, x, h, e => by
    have := FldOk.get (fs := l) (j := j + 1) (i := i) h.2 e
    rwa [show j + 1 + i = j + (i + 1) by omega] at this
def isStT (P : Program) (t : TypeId) : Bool := match P.underlying t with | some (.struct _) => true | _ => false
theorem place_st (hu : isStT P t = true) {i : Nat} {x : Nat × Bool × Nat} (h : fldK P t i = some x) : placeK P t i = some (x.1, x.2.2) := by
  unfold isStT at hu; split at hu
  · rename_i e; unfold placeK; rw [e]; simp [h]
  · cases hu
theorem TeOk.st {fs : List (Nat × Bool × Nat)} (h1 : tyK P t = some (ag, n)) (h2 : sz P t = n) (h3 : ∀ z', z = some z' → zeroA P t = some z') (hu : isStT P t = true) (hf : FldOk P t 0 fs) (ha : allK P t = true) (hq : ∀ n, q = some n → intsT P t = some n) : TeOk P t ⟨ag, n, z, .st fs, q⟩ :=
  ⟨h1, h2, h3, ⟨fun i x e => by have := hf.get e; rw [Nat.zero_add] at this; exact ⟨this, place_st hu this⟩, ha⟩, hq⟩
theorem TeOk.ar {m : Nat} {el : TypeId} {ag' : Bool} {w : Nat} (h1 : tyK P t = some (ag, n)) (h2 : sz P t = n) (h3 : ∀ z', z = some z' → zeroA P t = some z') (hu : P.underlying t = some (.array m el)) (hf : arK P t = some (m, ag', w)) (ha : allK P t = true) (hq : ∀ n, q = some n → intsT P t = some n) : TeOk P t ⟨ag, n, z, .ar m ag' w, q⟩ :=
  ⟨h1, h2, h3, ⟨hf, ha, fun i => by unfold placeK; rw [hu]; simp [hf]⟩, hq⟩
theorem qsome {n n' : Nat} (h : intsT P t = some n) : some n = some n' → intsT P t = some n' := fun e => e ▸ h
theorem qnone {n' : Nat} : none = some n' → intsT P t = some n' := nofun
theorem zsome {z z' : AV} (h : zeroA P t = some z) : some z = some z' → zeroA P t = some z' := fun e => e ▸ h
theorem znone {z' : AV} : none = some z' → zeroA P t = some z' := nofun
end
end GA
end

section
namespace GA
open Go Go.Proofs
set_option maxRecDepth 100000
def te1 : TE := ⟨false, 1, some (.nilf), .oth, none⟩
theorem te1_ok : TeOk Try.prog 1 te1 := ⟨by kernel_rfl, by kernel_rfl, (fun _ => zsome (by kernel_rfl)), trivial, fun _ => qnone⟩
def te2 : TE := ⟨false, 1, some (.int .i64 0), .int .i64, none⟩
theorem te2_ok : TeOk Try.prog 2 te2 := ⟨by kernel_rfl, by kernel_rfl, (fun _ => zsome (by kernel_rfl)), show Try.prog.underlying 2 = some (.int .i64) by kernel_rfl, fun _ => qnone⟩
def te3 : TE := ⟨false, 1, some (.int .i64 0), .int .i64, none⟩
theorem te3_ok : TeOk Try.prog 3 te3 := ⟨by kernel_rfl, by kernel_rfl, (fun _ => zsome (by kernel_rfl)), show Try.prog.underlying 3 = some (.int .i64) by kernel_rfl, fun _ => qnone⟩
def te4 : TE := ⟨false, 1, some (.bool false), .bool, none⟩
theorem te4_ok : TeOk Try.prog 4 te4 := ⟨by kernel_rfl, by kernel_rfl, (fun _ => zsome (by kernel_rfl)), show isBoolT _ _ by (unfold isBoolT; kernel_rfl), fun _ => qnone⟩
def te5 : TE := ⟨false, 1, some (.int .u8 0), .int .u8, none⟩
theorem te5_ok : TeOk Try.prog 5 te5 := ⟨by kernel_rfl, by kernel_rfl, (fun _ => zsome (by kernel_rfl)), show Try.prog.underlying 5 = some (.int .u8) by kernel_rfl, fun _ => qnone⟩
def te7 : TE := ⟨true, 4, some (.agg [.int .i64 0, .int .i64 0, .bool false, .int .u8 0]), .st [(0, false, 1), (1, false, 1), (2, false, 1), (3, false, 1)], none⟩
theorem te7_ok : TeOk Try.prog 7 te7 := .st (by kernel_rfl) (by kernel_rfl) (fun _ => zsome (by kernel_rfl)) (by kernel_rfl) ⟨by kernel_rfl, by kernel_rfl, by kernel_rfl, by kernel_rfl, trivial⟩ (by kernel_rfl) (fun _ => qnone)
def te12 : TE := ⟨false, 1, some (.int .u64 0), .int .u64, none⟩
theorem te12_ok : TeOk Try.prog 12 te12 := ⟨by kernel_rfl, by kernel_rfl, (fun _ => zsome (by kernel_rfl)), show Try.prog.underlying 12 = some (.int .u64) by kernel_rfl, fun _ => qnone⟩
def te13 : TE := ⟨true, 2, none, .st [(0, false, 1), (1, false, 1)], none⟩
theorem te13_ok : TeOk Try.prog 13 te13 := .st (by kernel_rfl) (by kernel_rfl) (fun _ => znone) (by kernel_rfl) ⟨by kernel_rfl, by kernel_rfl, trivial⟩ (by kernel_rfl) (fun _ => qnone)
def te18 : TE := ⟨true, 1, some (.agg [.nilp]), .st [(0, false, 1)], none⟩
theorem te18_ok : TeOk Try.prog 18 te18 := .st (by kernel_rfl) (by kernel_rfl) (fun _ => zsome (by kernel_rfl)) (by kernel_rfl) ⟨by kernel_rfl, trivial⟩ (by kernel_rfl) (fun _ => qnone)
def te21 : TE := ⟨false, 1, some (.int .i32 0), .int .i32, none⟩
theorem te21_ok : TeOk Try.prog 21 te21 := ⟨by kernel_rfl, by kernel_rfl, (fun _ => zsome (by kernel_rfl)), show Try.prog.underlying 21 = some (.int .i32) by kernel_rfl, fun _ => qnone⟩
def te22 : TE := ⟨false, 1, some (.sl true []), .sl 5 1 1 (.int .u8 0), none⟩
theorem te22_ok : TeOk Try.prog 22 te22 := ⟨by kernel_rfl, by kernel_rfl, (fun _ => zsome (by kernel_rfl)), ⟨by kernel_rfl, by kernel_rfl, ⟨5, by kernel_rfl⟩, by kernel_rfl⟩, fun _ => qnone⟩
def te23 : TE := ⟨false, 1, some (.sl true []), .sl 113 2 16 (.agg [.int .i64 0, .int .i64 0]), none⟩
theorem te23_ok : TeOk Try.prog 23 te23 := ⟨by kernel_rfl, by kernel_rfl, (fun _ => zsome (by kernel_rfl)), ⟨by kernel_rfl, by kernel_rfl, ⟨113, by kernel_rfl⟩, by kernel_rfl⟩, fun _ => qnone⟩
def te24 : TE := ⟨false, 1, some (.sl true []), .sl 118 2 16 (.agg [.int .i64 0, .int .i64 0]), none⟩
theorem te24_ok : TeOk Try.prog 24 te24 := ⟨by kernel_rfl, by kernel_rfl, (fun _ => zsome (by kernel_rfl)), ⟨by kernel_rfl, by kernel_rfl, ⟨118, by kernel_rfl⟩, by kernel_rfl⟩, fun _ => qnone⟩
def te25 : TE := ⟨true, 5, some (.agg [.int .i64 0, .int .i64 0, .sl true [], .sl true [], .sl true []]), .st [(0, false, 1), (1, false, 1), (2, false, 1), (3, false, 1), (4, false, 1)], none⟩
theorem te25_ok : TeOk Try.prog 25 te25 := .st (by kernel_rfl) (by kernel_rfl) (fun _ => zsome (by kernel_rfl)) (by kernel_rfl) ⟨by kernel_rfl, by kernel_rfl, by kernel_rfl, by kernel_rfl, by kernel_rfl, trivial⟩ (by kernel_rfl) (fun _ => qnone)
def te26 : TE := ⟨true, 5, some (.agg [.int .i64 0, .int .i64 0, .sl true [], .sl true [], .sl true []]), .st [(0, false, 1), (1, false, 1), (2, false, 1), (3, false, 1), (4, false, 1)], none⟩
theorem te26_ok : TeOk Try.prog 26 te26 := .st (by kernel_rfl) (by kernel_rfl) (fun _ => zsome (by kernel_rfl)) (by kernel_rfl) ⟨by kernel_rfl, by kernel_rfl, by kernel_rfl, by kernel_rfl, by kernel_rfl, trivial⟩ (by kernel_rfl) (fun _ => qnone)
def te27 : TE := ⟨false, 1, some (.nilf), .oth, none⟩
theorem te27_ok : TeOk Try.prog 27 te27 := ⟨by kernel_rfl, by kernel_rfl, (fun _ => zsome (by kernel_rfl)), trivial, fun _ => qnone⟩
def te28 : TE := ⟨false, 1, some (.nilp), .oth, none⟩
theorem te28_ok : TeOk Try.prog 28 te28 := ⟨by kernel_rfl, by kernel_rfl, (fun _ => zsome (by kernel_rfl)), trivial, fun _ => qnone⟩
def te29 : TE := ⟨false, 1, some (.nilf), .oth, none⟩
theorem te29_ok : TeOk Try.prog 29 te29 := ⟨by kernel_rfl, by kernel_rfl, (fun _ => zsome (by kernel_rfl)), trivial, fun _ => qnone⟩
def te30 : TE := ⟨false, 1, some (.sl true []), .sl 3 1 8 (.int .i64 0), none⟩
theorem te30_ok : TeOk Try.prog 30 te30 := ⟨by kernel_rfl, by kernel_rfl, (fun _ => zsome (by kernel_rfl)), ⟨by kernel_rfl, by kernel_rfl, ⟨3, by kernel_rfl⟩, by kernel_rfl⟩, fun _ => qnone⟩
def te31 : TE := ⟨false, 1, some (.int .i64 0), .int .i64, none⟩
theorem te31_ok : TeOk Try.prog 31 te31 := ⟨by kernel_rfl, by kernel_rfl, (fun _ => zsome (by kernel_rfl)), show Try.prog.underlying 31 = some (.int .i64) by kernel_rfl, fun _ => qnone⟩
def te33 : TE := ⟨false, 1, some (.nilf), .oth, none⟩
theorem te33_ok : TeOk Try.prog 33 te33 := ⟨by kernel_rfl, by kernel_rfl, (fun _ => zsome (by kernel_rfl)), trivial, fun _ => qnone⟩
def te34 : TE := ⟨false, 1, some (.nilf), .oth, none⟩
theorem te34_ok : TeOk Try.prog 34 te34 := ⟨by kernel_rfl, by kernel_rfl, (fun _ => zsome (by kernel_rfl)), trivial, fun _ => qnone⟩
def te35 : TE := ⟨false, 1, some (.nilf), .oth, none⟩
theorem te35_ok : TeOk Try.prog 35 te35 := ⟨by kernel_rfl, by kernel_rfl, (fun _ => zsome (by kernel_rfl)), trivial, fun _ => qnone⟩
def te36 : TE := ⟨false, 1, some (.sl true []), .sl 26 5 88 (.agg [.int .i64 0, .int .i64 0, .sl true [], .sl true [], .sl true []]), none⟩
theorem te36_ok : TeOk Try.prog 36 te36 := ⟨by kernel_rfl, by kernel_rfl, (fun _ => zsome (by kernel_rfl)), ⟨by kernel_rfl, by kernel_rfl, ⟨26, by kernel_rfl⟩, by kernel_rfl⟩, fun _ => qnone⟩
def te37 : TE := ⟨false, 1, some (.nilf), .oth, none⟩
theorem te37_ok : TeOk Try.prog 37 te37 := ⟨by kernel_rfl, by kernel_rfl, (fun _ => zsome (by kernel_rfl)), trivial, fun _ => qnone⟩
def te39 : TE := ⟨false, 1, some (.nilf), .oth, none⟩
theorem te39_ok : TeOk Try.prog 39 te39 := ⟨by kernel_rfl, by kernel_rfl, (fun _ => zsome (by kernel_rfl)), trivial, fun _ => qnone⟩
def te40 : TE := ⟨true, 2, some (.agg [.int .i64 0, .sl true []]), .st [(0, false, 1), (1, false, 1)], none⟩
theorem te40_ok : TeOk Try.prog 40 te40 := .st (by kernel_rfl) (by kernel_rfl) (fun _ => zsome (by kernel_rfl)) (by kernel_rfl) ⟨by kernel_rfl, by kernel_rfl, trivial⟩ (by kernel_rfl) (fun _ => qnone)
def te41 : TE := ⟨true, 2, some (.agg [.int .i64 0, .sl true []]), .st [(0, false, 1), (1, false, 1)], none⟩
theorem te41_ok : TeOk Try.prog 41 te41 := .st (by kernel_rfl) (by kernel_rfl) (fun _ => zsome (by kernel_rfl)) (by kernel_rfl) ⟨by kernel_rfl, by kernel_rfl, trivial⟩ (by kernel_rfl) (fun _ => qnone)
def te42 : TE := ⟨false, 1, some (.sl true []), .sl 41 2 32 (.agg [.int .i64 0, .sl true []]), none⟩
theorem te42_ok : TeOk Try.prog 42 te42 := ⟨by kernel_rfl, by kernel_rfl, (fun _ => zsome (by kernel_rfl)), ⟨by kernel_rfl, by kernel_rfl, ⟨41, by kernel_rfl⟩, by kernel_rfl⟩, fun _ => qnone⟩
def te43 : TE := ⟨false, 1, some (.nilf), .oth, none⟩
theorem te43_ok : TeOk Try.prog 43 te43 := ⟨by kernel_rfl, by kernel_rfl, (fun _ => zsome (by kernel_rfl)), trivial, fun _ => qnone⟩
def te44 : TE := ⟨false, 1, some (.nilf), .oth, none⟩
theorem te44_ok : TeOk Try.prog 44 te44 := ⟨by kernel_rfl, by kernel_rfl, (fun _ => zsome (by kernel_rfl)), trivial, fun _ => qnone⟩
def te46 : TE := ⟨false, 1, some (.nilf), .oth, none⟩
theorem te46_ok : TeOk Try.prog 46 te46 := ⟨by kernel_rfl, by kernel_rfl, (fun _ => zsome (by kernel_rfl)), trivial, fun _ => qnone⟩
def te48 : TE := ⟨false, 1, some (.nilf), .oth, none⟩
theorem te48_ok : TeOk Try.prog 48 te48 := ⟨by kernel_rfl, by kernel_rfl, (fun _ => zsome (by kernel_rfl)), trivial, fun _ => qnone⟩
def te49 : TE := ⟨false, 1, some (.nilf), .oth, none⟩
theorem te49_ok : TeOk Try.prog 49 te49 := ⟨by kernel_rfl, by kernel_rfl, (fun _ => zsome (by kernel_rfl)), trivial, fun _ => qnone⟩
def te50 : TE := ⟨false, 1, some (.nilf), .oth, none⟩
theorem te50_ok : TeOk Try.prog 50 te50 := ⟨by kernel_rfl, by kernel_rfl, (fun _ => zsome (by kernel_rfl)), trivial, fun _ => qnone⟩
def te52 : TE := ⟨false, 1, some (.nilf), .oth, none⟩
theorem te52_ok : TeOk Try.prog 52 te52 := ⟨by kernel_rfl, by kernel_rfl, (fun _ => zsome (by kernel_rfl)), trivial, fun _ => qnone⟩
def te53 : TE := ⟨false, 1, some (.nilf), .oth, none⟩
theorem te53_ok : TeOk Try.prog 53 te53 := ⟨by kernel_rfl, by kernel_rfl, (fun _ => zsome (by kernel_rfl)), trivial, fun _ => qnone⟩
def te55 : TE := ⟨false, 1, some (.nilf), .oth, none⟩
theorem te55_ok : TeOk Try.prog 55 te55 := ⟨by kernel_rfl, by kernel_rfl, (fun _ => zsome (by kernel_rfl)), trivial, fun _ => qnone⟩
def te56 : TE := ⟨false, 1, some (.nilf), .oth, none⟩
theorem te56_ok : TeOk Try.prog 56 te56 := ⟨by kernel_rfl, by kernel_rfl, (fun _ => zsome (by kernel_rfl)), trivial, fun _ => qnone⟩
def te57 : TE := ⟨false, 1, some (.nilf), .oth, none⟩
theorem te57_ok : TeOk Try.prog 57 te57 := ⟨by kernel_rfl, by kernel_rfl, (fun _ => zsome (by kernel_rfl)), trivial, fun _ => qnone⟩
def te58 : TE := ⟨false, 1, some (.nilf), .oth, none⟩
theorem te58_ok : TeOk Try.prog 58 te58 := ⟨by kernel_rfl, by kernel_rfl, (fun _ => zsome (by kernel_rfl)), trivial, fun _ => qnone⟩
def te59 : TE := ⟨false, 1, some (.int .u16 0), .int .u16, none⟩
theorem te59_ok : TeOk Try.prog 59 te59 := ⟨by kernel_rfl, by kernel_rfl, (fun _ => zsome (by kernel_rfl)), show Try.prog.underlying 59 = some (.int .u16) by kernel_rfl, fun _ => qnone⟩
def te60 : TE := ⟨false, 1, some (.nilf), .oth, none⟩
theorem te60_ok : TeOk Try.prog 60 te60 := ⟨by kernel_rfl, by kernel_rfl, (fun _ => zsome (by kernel_rfl)), trivial, fun _ => qnone⟩
def te61 : TE := ⟨false, 1, some (.nilf), .oth, none⟩
theorem te61_ok : TeOk Try.prog 61 te61 := ⟨by kernel_rfl, by kernel_rfl, (fun _ => zsome (by kernel_rfl)), trivial, fun _ => qnone⟩
def te62 : TE := ⟨false, 1, some (.nilf), .oth, none⟩
theorem te62_ok : TeOk Try.prog 62 te62 := ⟨by kernel_rfl, by kernel_rfl, (fun _ => zsome (by kernel_rfl)), trivial, fun _ => qnone⟩
def te63 : TE := ⟨false, 1, some (.nilf), .oth, none⟩
theorem te63_ok : TeOk Try.prog 63 te63 := ⟨by kernel_rfl, by kernel_rfl, (fun _ => zsome (by kernel_rfl)), trivial, fun _ => qnone⟩
def te64 : TE := ⟨false, 1, some (.nilf), .oth, none⟩
theorem te64_ok : TeOk Try.prog 64 te64 := ⟨by kernel_rfl, by kernel_rfl, (fun _ => zsome (by kernel_rfl)), trivial, fun _ => qnone⟩
def te65 : TE := ⟨false, 1, some (.nilf), .oth, none⟩
theorem te65_ok : TeOk Try.prog 65 te65 := ⟨by kernel_rfl, by kernel_rfl, (fun _ => zsome (by kernel_rfl)), trivial, fun _ => qnone⟩
def te66 : TE := ⟨false, 1, some (.nilf), .oth, none⟩
theorem te66_ok : TeOk Try.prog 66 te66 := ⟨by kernel_rfl, by kernel_rfl, (fun _ => zsome (by kernel_rfl)), trivial, fun _ => qnone⟩
def te67 : TE := ⟨false, 1, some (.sl true []), .sl 152 2 16 (.agg [.int .i64 0, .int .i64 0]), none⟩
theorem te67_ok : TeOk Try.prog 67 te67 := ⟨by kernel_rfl, by kernel_rfl, (fun _ => zsome (by kernel_rfl)), ⟨by kernel_rfl, by kernel_rfl, ⟨152, by kernel_rfl⟩, by kernel_rfl⟩, fun _ => qnone⟩
def te68 : TE := ⟨true, 5, some (.agg [.int .i64 0, .int .i64 0, .sl true [], .sl true [], .sl true []]), .st [(0, false, 1), (1, false, 1), (2, false, 1), (3, false, 1), (4, false, 1)], none⟩
theorem te68_ok : TeOk Try.prog 68 te68 := .st (by kernel_rfl) (by kernel_rfl) (fun _ => zsome (by kernel_rfl)) (by kernel_rfl) ⟨by kernel_rfl, by kernel_rfl, by kernel_rfl, by kernel_rfl, by kernel_rfl, trivial⟩ (by kernel_rfl) (fun _ => qnone)
def te69 : TE := ⟨true, 5, some (.agg [.int .i64 0, .int .i64 0, .sl true [], .sl true [], .sl true []]), .st [(0, false, 1), (1, false, 1), (2, false, 1), (3, false, 1), (4, false, 1)], none⟩
theorem te69_ok : TeOk Try.prog 69 te69 := .st (by kernel_rfl) (by kernel_rfl) (fun _ => zsome (by kernel_rfl)) (by kernel_rfl) ⟨by kernel_rfl, by kernel_rfl, by kernel_rfl, by kernel_rfl, by kernel_rfl, trivial⟩ (by kernel_rfl) (fun _ => qnone)
def te70 : TE := ⟨false, 1, some (.nilf), .oth, none⟩
theorem te70_ok : TeOk Try.prog 70 te70 := ⟨by kernel_rfl, by kernel_rfl, (fun _ => zsome (by kernel_rfl)), trivial, fun _ => qnone⟩
def te71 : TE := ⟨false, 1, some (.nilf), .oth, none⟩
theorem te71_ok : TeOk Try.prog 71 te71 := ⟨by kernel_rfl, by kernel_rfl, (fun _ => zsome (by kernel_rfl)), trivial, fun _ => qnone⟩
def te72 : TE := ⟨false, 1, some (.nilf), .oth, none⟩
theorem te72_ok : TeOk Try.prog 72 te72 := ⟨by kernel_rfl, by kernel_rfl, (fun _ => zsome (by kernel_rfl)), trivial, fun _ => qnone⟩
def te73 : TE := ⟨false, 1, some (.sl true []), .sl 4 1 1 (.bool false), none⟩
theorem te73_ok : TeOk Try.prog 73 te73 := ⟨by kernel_rfl, by kernel_rfl, (fun _ => zsome (by kernel_rfl)), ⟨by kernel_rfl, by kernel_rfl, ⟨4, by kernel_rfl⟩, by kernel_rfl⟩, fun _ => qnone⟩
def te74 : TE := ⟨false, 1, some (.nilf), .oth, none⟩
theorem te74_ok : TeOk Try.prog 74 te74 := ⟨by kernel_rfl, by kernel_rfl, (fun _ => zsome (by kernel_rfl)), trivial, fun _ => qnone⟩
def te75 : TE := ⟨false, 1, some (.nilf), .oth, none⟩
theorem te75_ok : TeOk Try.prog 75 te75 := ⟨by kernel_rfl, by kernel_rfl, (fun _ => zsome (by kernel_rfl)), trivial, fun _ => qnone⟩
def te76 : TE := ⟨false, 1, some (.nilf), .oth, none⟩
theorem te76_ok : TeOk Try.prog 76 te76 := ⟨by kernel_rfl, by kernel_rfl, (fun _ => zsome (by kernel_rfl)), trivial, fun _ => qnone⟩
def te77 : TE := ⟨false, 1, some (.nilf), .oth, none⟩
theorem te77_ok : TeOk Try.prog 77 te77 := ⟨by kernel_rfl, by kernel_rfl, (fun _ => zsome (by kernel_rfl)), trivial, fun _ => qnone⟩
def te78 : TE := ⟨false, 1, some (.sl true []), .sl 30 1 24 (.sl true []), none⟩
theorem te78_ok : TeOk Try.prog 78 te78 := ⟨by kernel_rfl, by kernel_rfl, (fun _ => zsome (by kernel_rfl)), ⟨by kernel_rfl, by kernel_rfl, ⟨30, by kernel_rfl⟩, by kernel_rfl⟩, fun _ => qnone⟩
def te80 : TE := ⟨false, 1, some (.nilf), .oth, none⟩
theorem te80_ok : TeOk Try.prog 80 te80 := ⟨by kernel_rfl, by kernel_rfl, (fun _ => zsome (by kernel_rfl)), trivial, fun _ => qnone⟩
def te81 : TE := ⟨false, 1, some (.nilf), .oth, none⟩
theorem te81_ok : TeOk Try.prog 81 te81 := ⟨by kernel_rfl, by kernel_rfl, (fun _ => zsome (by kernel_rfl)), trivial, fun _ => qnone⟩
def te82 : TE := ⟨false, 1, some (.nilf), .oth, none⟩
theorem te82_ok : TeOk Try.prog 82 te82 := ⟨by kernel_rfl, by kernel_rfl, (fun _ => zsome (by kernel_rfl)), trivial, fun _ => qnone⟩
def te83 : TE := ⟨false, 1, some (.nilf), .oth, none⟩
theorem te83_ok : TeOk Try.prog 83 te83 := ⟨by kernel_rfl, by kernel_rfl, (fun _ => zsome (by kernel_rfl)), trivial, fun _ => qnone⟩
def te84 : TE := ⟨false, 1, some (.nilf), .oth, none⟩
theorem te84_ok : TeOk Try.prog 84 te84 := ⟨by kernel_rfl, by kernel_rfl, (fun _ => zsome (by kernel_rfl)), trivial, fun _ => qnone⟩
def te85 : TE := ⟨false, 1, some (.nilf), .oth, none⟩
theorem te85_ok : TeOk Try.prog 85 te85 := ⟨by kernel_rfl, by kernel_rfl, (fun _ => zsome (by kernel_rfl)), trivial, fun _ => qnone⟩
def te86 : TE := ⟨true, 2, some (.agg [.int .i64 0, .int .i64 0]), .st [(0, false, 1), (1, false, 1)], some 2⟩
theorem te86_ok : TeOk Try.prog 86 te86 := .st (by kernel_rfl) (by kernel_rfl) (fun _ => zsome (by kernel_rfl)) (by kernel_rfl) ⟨by kernel_rfl, by kernel_rfl, trivial⟩ (by kernel_rfl) (fun _ => qsome (by kernel_rfl))
def te87 : TE := ⟨true, 2, some (.agg [.int .i64 0, .int .i64 0]), .st [(0, false, 1), (1, false, 1)], some 2⟩
theorem te87_ok : TeOk Try.prog 87 te87 := .st (by kernel_rfl) (by kernel_rfl) (fun _ => zsome (by kernel_rfl)) (by kernel_rfl) ⟨by kernel_rfl, by kernel_rfl, trivial⟩ (by kernel_rfl) (fun _ => qsome (by kernel_rfl))
def te89 : TE := ⟨false, 1, some (.nilf), .oth, none⟩
theorem te89_ok : TeOk Try.prog 89 te89 := ⟨by kernel_rfl, by kernel_rfl, (fun _ => zsome (by kernel_rfl)), trivial, fun _ => qnone⟩
def te90 : TE := ⟨false, 1, some (.nilf), .oth, none⟩
theorem te90_ok : TeOk Try.prog 90 te90 := ⟨by kernel_rfl, by kernel_rfl, (fun _ => zsome (by kernel_rfl)), trivial, fun _ => qnone⟩
def te92 : TE := ⟨false, 1, some (.nilf), .oth, none⟩
theorem te92_ok : TeOk Try.prog 92 te92 := ⟨by kernel_rfl, by kernel_rfl, (fun _ => zsome (by kernel_rfl)), trivial, fun _ => qnone⟩
def te93 : TE := ⟨false, 1, some (.nilf), .oth, none⟩
theorem te93_ok : TeOk Try.prog 93 te93 := ⟨by kernel_rfl, by kernel_rfl, (fun _ => zsome (by kernel_rfl)), trivial, fun _ => qnone⟩
def te94 : TE := ⟨false, 1, some (.nilf), .oth, none⟩
theorem te94_ok : TeOk Try.prog 94 te94 := ⟨by kernel_rfl, by kernel_rfl, (fun _ => zsome (by kernel_rfl)), trivial, fun _ => qnone⟩
def te95 : TE := ⟨false, 1, some (.nilf), .oth, none⟩
theorem te95_ok : TeOk Try.prog 95 te95 := ⟨by kernel_rfl, by kernel_rfl, (fun _ => zsome (by kernel_rfl)), trivial, fun _ => qnone⟩
def te96 : TE := ⟨false, 1, some (.nilf), .oth, none⟩
theorem te96_ok : TeOk Try.prog 96 te96 := ⟨by kernel_rfl, by kernel_rfl, (fun _ => zsome (by kernel_rfl)), trivial, fun _ => qnone⟩
def te97 : TE := ⟨false, 1, some (.nilf), .oth, none⟩
theorem te97_ok : TeOk Try.prog 97 te97 := ⟨by kernel_rfl, by kernel_rfl, (fun _ => zsome (by kernel_rfl)), trivial, fun _ => qnone⟩
def te98 : TE := ⟨false, 1, some (.nilf), .oth, none⟩
theorem te98_ok : TeOk Try.prog 98 te98 := ⟨by kernel_rfl, by kernel_rfl, (fun _ => zsome (by kernel_rfl)), trivial, fun _ => qnone⟩
def te100 : TE := ⟨false, 1, some (.nilf), .oth, none⟩
theorem te100_ok : TeOk Try.prog 100 te100 := ⟨by kernel_rfl, by kernel_rfl, (fun _ => zsome (by kernel_rfl)), trivial, fun _ => qnone⟩
def te101 : TE := ⟨false, 1, some (.nilf), .oth, none⟩
theorem te101_ok : TeOk Try.prog 101 te101 := ⟨by kernel_rfl, by kernel_rfl, (fun _ => zsome (by kernel_rfl)), trivial, fun _ => qnone⟩
def te102 : TE := ⟨false, 1, some (.nilf), .oth, none⟩
theorem te102_ok : TeOk Try.prog 102 te102 := ⟨by kernel_rfl, by kernel_rfl, (fun _ => zsome (by kernel_rfl)), trivial, fun _ => qnone⟩
def te103 : TE := ⟨false, 1, some (.nilf), .oth, none⟩
theorem te103_ok : TeOk Try.prog 103 te103 := ⟨by kernel_rfl, by kernel_rfl, (fun _ => zsome (by kernel_rfl)), trivial, fun _ => qnone⟩
def te104 : TE := ⟨false, 1, some (.sl true []), .sl 174 6 48 (.agg [.int .i64 0, .int .i64 0, .int .i64 0, .int .i64 0, .int .i64 0, .int .i64 0]), none⟩
theorem te104_ok : TeOk Try.prog 104 te104 := ⟨by kernel_rfl, by kernel_rfl, (fun _ => zsome (by kernel_rfl)), ⟨by kernel_rfl, by kernel_rfl, ⟨174, by kernel_rfl⟩, by kernel_rfl⟩, fun _ => qnone⟩
def te105 : TE := ⟨false, 1, some (.sl true []), .sl 201 3 24 (.agg [.int .i64 0, .int .i64 0, .int .i64 0]), none⟩
theorem te105_ok : TeOk Try.prog 105 te105 := ⟨by kernel_rfl, by kernel_rfl, (fun _ => zsome (by kernel_rfl)), ⟨by kernel_rfl, by kernel_rfl, ⟨201, by kernel_rfl⟩, by kernel_rfl⟩, fun _ => qnone⟩
def te106 : TE := ⟨true, 5, some (.agg [.int .i64 0, .int .i64 0, .int .i64 0, .sl true [], .sl true []]), .st [(0, false, 1), (1, false, 1), (2, false, 1), (3, false, 1), (4, false, 1)], none⟩
theorem te106_ok : TeOk Try.prog 106 te106 := .st (by kernel_rfl) (by kernel_rfl) (fun _ => zsome (by kernel_rfl)) (by kernel_rfl) ⟨by kernel_rfl, by kernel_rfl, by kernel_rfl, by kernel_rfl, by kernel_rfl, trivial⟩ (by kernel_rfl) (fun _ => qnone)
def te107 : TE := ⟨true, 5, some (.agg [.int .i64 0, .int .i64 0, .int .i64 0, .sl true [], .sl true []]), .st [(0, false, 1), (1, false, 1), (2, false, 1), (3, false, 1), (4, false, 1)], none⟩
theorem te107_ok : TeOk Try.prog 107 te107 := .st (by kernel_rfl) (by kernel_rfl) (fun _ => zsome (by kernel_rfl)) (by kernel_rfl) ⟨by kernel_rfl, by kernel_rfl, by kernel_rfl, by kernel_rfl, by kernel_rfl, trivial⟩ (by kernel_rfl) (fun _ => qnone)
def te108 : TE := ⟨false, 1, some (.sl true []), .sl 176 2 16 (.agg [.int .i64 0, .int .i64 0]), none⟩
theorem te108_ok : TeOk Try.prog 108 te108 := ⟨by kernel_rfl, by kernel_rfl, (fun _ => zsome (by kernel_rfl)), ⟨by kernel_rfl, by kernel_rfl, ⟨176, by kernel_rfl⟩, by kernel_rfl⟩, fun _ => qnone⟩
def te110 : TE := ⟨false, 1, some (.nilf), .oth, none⟩
theorem te110_ok : TeOk Try.prog 110 te110 := ⟨by kernel_rfl, by kernel_rfl, (fun _ => zsome (by kernel_rfl)), trivial, fun _ => qnone⟩
def te111 : TE := ⟨false, 1, some (.nilf), .oth, none⟩
theorem te111_ok : TeOk Try.prog 111 te111 := ⟨by kernel_rfl, by kernel_rfl, (fun _ => zsome (by kernel_rfl)), trivial, fun _ => qnone⟩
def te112 : TE := ⟨true, 2, some (.agg [.int .i64 0, .int .i64 0]), .st [(0, false, 1), (1, false, 1)], some 2⟩
theorem te112_ok : TeOk Try.prog 112 te112 := .st (by kernel_rfl) (by kernel_rfl) (fun _ => zsome (by kernel_rfl)) (by kernel_rfl) ⟨by kernel_rfl, by kernel_rfl, trivial⟩ (by kernel_rfl) (fun _ => qsome (by kernel_rfl))
def te113 : TE := ⟨true, 2, some (.agg [.int .i64 0, .int .i64 0]), .st [(0, false, 1), (1, false, 1)], some 2⟩
theorem te113_ok : TeOk Try.prog 113 te113 := .st (by kernel_rfl) (by kernel_rfl) (fun _ => zsome (by kernel_rfl)) (by kernel_rfl) ⟨by kernel_rfl, by kernel_rfl, trivial⟩ (by kernel_rfl) (fun _ => qsome (by kernel_rfl))
def te114 : TE := ⟨false, 1, some (.nilf), .oth, none⟩
theorem te114_ok : TeOk Try.prog 114 te114 := ⟨by kernel_rfl, by kernel_rfl, (fun _ => zsome (by kernel_rfl)), trivial, fun _ => qnone⟩
def te115 : TE := ⟨false, 1, some (.nilf), .oth, none⟩
theorem te115_ok : TeOk Try.prog 115 te115 := ⟨by kernel_rfl, by kernel_rfl, (fun _ => zsome (by kernel_rfl)), trivial, fun _ => qnone⟩
def te116 : TE := ⟨false, 1, some (.nilf), .oth, none⟩
theorem te116_ok : TeOk Try.prog 116 te116 := ⟨by kernel_rfl, by kernel_rfl, (fun _ => zsome (by kernel_rfl)), trivial, fun _ => qnone⟩
def te117 : TE := ⟨false, 1, some (.nilf), .oth, none⟩
theorem te117_ok : TeOk Try.prog 117 te117 := ⟨by kernel_rfl, by kernel_rfl, (fun _ => zsome (by kernel_rfl)), trivial, fun _ => qnone⟩
def te118 : TE := ⟨true, 2, some (.agg [.int .i64 0, .int .i64 0]), .ar 2 false 1, some 2⟩
theorem te118_ok : TeOk Try.prog 118 te118 := .ar (by kernel_rfl) (by kernel_rfl) (fun _ => zsome (by kernel_rfl)) (el := 3) (by kernel_rfl) (by kernel_rfl) (by kernel_rfl) (fun _ => qsome (by kernel_rfl))
def te119 : TE := ⟨false, 1, some (.nilf), .oth, none⟩
theorem te119_ok : TeOk Try.prog 119 te119 := ⟨by kernel_rfl, by kernel_rfl, (fun _ => zsome (by kernel_rfl)), trivial, fun _ => qnone⟩
def te120 : TE := ⟨false, 1, some (.nilf), .oth, none⟩
theorem te120_ok : TeOk Try.prog 120 te120 := ⟨by kernel_rfl, by kernel_rfl, (fun _ => zsome (by kernel_rfl)), trivial, fun _ => qnone⟩
def te121 : TE := ⟨false, 1, some (.nilf), .oth, none⟩
theorem te121_ok : TeOk Try.prog 121 te121 := ⟨by kernel_rfl, by kernel_rfl, (fun _ => zsome (by kernel_rfl)), trivial, fun _ => qnone⟩
def te122 : TE := ⟨false, 1, some (.nilm), .mp (.int .i64 0), none⟩
theorem te122_ok : TeOk Try.prog 122 te122 := ⟨by kernel_rfl, by kernel_rfl, (fun _ => zsome (by kernel_rfl)), show mapT Try.prog 122 = some (.int .i64 0) by kernel_rfl, fun _ => qnone⟩
def te123 : TE := ⟨false, 1, some (.sl true []), .sl 24 1 24 (.sl true []), none⟩
theorem te123_ok : TeOk Try.prog 123 te123 := ⟨by kernel_rfl, by kernel_rfl, (fun _ => zsome (by kernel_rfl)), ⟨by kernel_rfl, by kernel_rfl, ⟨24, by kernel_rfl⟩, by kernel_rfl⟩, fun _ => qnone⟩
def te125 : TE := ⟨false, 1, some (.nilf), .oth, none⟩
theorem te125_ok : TeOk Try.prog 125 te125 := ⟨by kernel_rfl, by kernel_rfl, (fun _ => zsome (by kernel_rfl)), trivial, fun _ => qnone⟩
def te126 : TE := ⟨false, 1, some (.int .u32 0), .int .u32, none⟩
theorem te126_ok : TeOk Try.prog 126 te126 := ⟨by kernel_rfl, by kernel_rfl, (fun _ => zsome (by kernel_rfl)), show Try.prog.underlying 126 = some (.int .u32) by kernel_rfl, fun _ => qnone⟩
def te127 : TE := ⟨true, 3, some (.agg [.sl true [], .int .i64 0, .int .u32 0]), .st [(0, false, 1), (1, false, 1), (2, false, 1)], none⟩
theorem te127_ok : TeOk Try.prog 127 te127 := .st (by kernel_rfl) (by kernel_rfl) (fun _ => zsome (by kernel_rfl)) (by kernel_rfl) ⟨by kernel_rfl, by kernel_rfl, by kernel_rfl, trivial⟩ (by kernel_rfl) (fun _ => qnone)
def te128 : TE := ⟨true, 3, some (.agg [.sl true [], .int .i64 0, .int .u32 0]), .st [(0, false, 1), (1, false, 1), (2, false, 1)], none⟩
theorem te128_ok : TeOk Try.prog 128 te128 := .st (by kernel_rfl) (by kernel_rfl) (fun _ => zsome (by kernel_rfl)) (by kernel_rfl) ⟨by kernel_rfl, by kernel_rfl, by kernel_rfl, trivial⟩ (by kernel_rfl) (fun _ => qnone)
def te129 : TE := ⟨false, 1, some (.nilp), .oth, none⟩
theorem te129_ok : TeOk Try.prog 129 te129 := ⟨by kernel_rfl, by kernel_rfl, (fun _ => zsome (by kernel_rfl)), trivial, fun _ => qnone⟩
def te131 : TE := ⟨false, 1, some (.nilf), .oth, none⟩
theorem te131_ok : TeOk Try.prog 131 te131 := ⟨by kernel_rfl, by kernel_rfl, (fun _ => zsome (by kernel_rfl)), trivial, fun _ => qnone⟩
def te132 : TE := ⟨true, 1, some (.agg [.nilf]), .st [(0, false, 1)], none⟩
theorem te132_ok : TeOk Try.prog 132 te132 := .st (by kernel_rfl) (by kernel_rfl) (fun _ => zsome (by kernel_rfl)) (by kernel_rfl) ⟨by kernel_rfl, trivial⟩ (by kernel_rfl) (fun _ => qnone)
def te133 : TE := ⟨true, 1, some (.agg [.nilf]), .st [(0, false, 1)], none⟩
theorem te133_ok : TeOk Try.prog 133 te133 := .st (by kernel_rfl) (by kernel_rfl) (fun _ => zsome (by kernel_rfl)) (by kernel_rfl) ⟨by kernel_rfl, trivial⟩ (by kernel_rfl) (fun _ => qnone)
def te134 : TE := ⟨false, 1, some (.nilf), .oth, none⟩
theorem te134_ok : TeOk Try.prog 134 te134 := ⟨by kernel_rfl, by kernel_rfl, (fun _ => zsome (by kernel_rfl)), trivial, fun _ => qnone⟩
def te135 : TE := ⟨false, 1, some (.nilf), .oth, none⟩
theorem te135_ok : TeOk Try.prog 135 te135 := ⟨by kernel_rfl, by kernel_rfl, (fun _ => zsome (by kernel_rfl)), trivial, fun _ => qnone⟩
def te136 : TE := ⟨false, 1, some (.nilf), .oth, none⟩
theorem te136_ok : TeOk Try.prog 136 te136 := ⟨by kernel_rfl, by kernel_rfl, (fun _ => zsome (by kernel_rfl)), trivial, fun _ => qnone⟩
def te137 : TE := ⟨false, 1, some (.nilf), .oth, none⟩
theorem te137_ok : TeOk Try.prog 137 te137 := ⟨by kernel_rfl, by kernel_rfl, (fun _ => zsome (by kernel_rfl)), trivial, fun _ => qnone⟩
def te138 : TE := ⟨false, 1, some (.nilf), .oth, none⟩
theorem te138_ok : TeOk Try.prog 138 te138 := ⟨by kernel_rfl, by kernel_rfl, (fun _ => zsome (by kernel_rfl)), trivial, fun _ => qnone⟩
def te139 : TE := ⟨false, 1, some (.nilf), .oth, none⟩
theorem te139_ok : TeOk Try.prog 139 te139 := ⟨by kernel_rfl, by kernel_rfl, (fun _ => zsome (by kernel_rfl)), trivial, fun _ => qnone⟩
def te140 : TE := ⟨false, 1, some (.nilf), .oth, none⟩
theorem te140_ok : TeOk Try.prog 140 te140 := ⟨by kernel_rfl, by kernel_rfl, (fun _ => zsome (by kernel_rfl)), trivial, fun _ => qnone⟩
def te141 : TE := ⟨false, 1, some (.nilf), .oth, none⟩
theorem te141_ok : TeOk Try.prog 141 te141 := ⟨by kernel_rfl, by kernel_rfl, (fun _ => zsome (by kernel_rfl)), trivial, fun _ => qnone⟩
def te142 : TE := ⟨false, 1, some (.nilf), .oth, none⟩
theorem te142_ok : TeOk Try.prog 142 te142 := ⟨by kernel_rfl, by kernel_rfl, (fun _ => zsome (by kernel_rfl)), trivial, fun _ => qnone⟩
def te143 : TE := ⟨false, 1, some (.nilf), .oth, none⟩
theorem te143_ok : TeOk Try.prog 143 te143 := ⟨by kernel_rfl, by kernel_rfl, (fun _ => zsome (by kernel_rfl)), trivial, fun _ => qnone⟩
def te144 : TE := ⟨false, 1, some (.nilf), .oth, none⟩
theorem te144_ok : TeOk Try.prog 144 te144 := ⟨by kernel_rfl, by kernel_rfl, (fun _ => zsome (by kernel_rfl)), trivial, fun _ => qnone⟩
def te145 : TE := ⟨false, 1, some (.nilf), .oth, none⟩
theorem te145_ok : TeOk Try.prog 145 te145 := ⟨by kernel_rfl, by kernel_rfl, (fun _ => zsome (by kernel_rfl)), trivial, fun _ => qnone⟩
def te146 : TE := ⟨false, 1, some (.nilf), .oth, none⟩
theorem te146_ok : TeOk Try.prog 146 te146 := ⟨by kernel_rfl, by kernel_rfl, (fun _ => zsome (by kernel_rfl)), trivial, fun _ => qnone⟩
def te147 : TE := ⟨true, 2, some (.agg [.int .i64 0, .int .i64 0]), .st [(0, false, 1), (1, false, 1)], some 2⟩
theorem te147_ok : TeOk Try.prog 147 te147 := .st (by kernel_rfl) (by kernel_rfl) (fun _ => zsome (by kernel_rfl)) (by kernel_rfl) ⟨by kernel_rfl, by kernel_rfl, trivial⟩ (by kernel_rfl) (fun _ => qsome (by kernel_rfl))
def te148 : TE := ⟨true, 2, some (.agg [.int .i64 0, .int .i64 0]), .st [(0, false, 1), (1, false, 1)], some 2⟩
theorem te148_ok : TeOk Try.prog 148 te148 := .st (by kernel_rfl) (by kernel_rfl) (fun _ => zsome (by kernel_rfl)) (by kernel_rfl) ⟨by kernel_rfl, by kernel_rfl, trivial⟩ (by kernel_rfl) (fun _ => qsome (by kernel_rfl))
def te149 : TE := ⟨false, 1, some (.nilf), .oth, none⟩
theorem te149_ok : TeOk Try.prog 149 te149 := ⟨by kernel_rfl, by kernel_rfl, (fun _ => zsome (by kernel_rfl)), trivial, fun _ => qnone⟩
def te150 : TE := ⟨false, 1, some (.nilf), .oth, none⟩
theorem te150_ok : TeOk Try.prog 150 te150 := ⟨by kernel_rfl, by kernel_rfl, (fun _ => zsome (by kernel_rfl)), trivial, fun _ => qnone⟩
def te151 : TE := ⟨false, 1, some (.nilf), .oth, none⟩
theorem te151_ok : TeOk Try.prog 151 te151 := ⟨by kernel_rfl, by kernel_rfl, (fun _ => zsome (by kernel_rfl)), trivial, fun _ => qnone⟩
def te152 : TE := ⟨true, 2, some (.agg [.int .i64 0, .int .i64 0]), .st [(0, false, 1), (1, false, 1)], some 2⟩
theorem te152_ok : TeOk Try.prog 152 te152 := .st (by kernel_rfl) (by kernel_rfl) (fun _ => zsome (by kernel_rfl)) (by kernel_rfl) ⟨by kernel_rfl, by kernel_rfl, trivial⟩ (by kernel_rfl) (fun _ => qsome (by kernel_rfl))
def te153 : TE := ⟨false, 1, some (.nilf), .oth, none⟩
theorem te153_ok : TeOk Try.prog 153 te153 := ⟨by kernel_rfl, by kernel_rfl, (fun _ => zsome (by kernel_rfl)), trivial, fun _ => qnone⟩
def te154 : TE := ⟨true, 9, some (.agg [.int .i64 0, .int .i64 0, .int .i64 0, .int .i64 0, .int .i64 0, .int .i64 0, .int .i64 0, .int .i64 0, .int .i64 0]), .ar 9 false 1, some 9⟩
theorem te154_ok : TeOk Try.prog 154 te154 := .ar (by kernel_rfl) (by kernel_rfl) (fun _ => zsome (by kernel_rfl)) (el := 3) (by kernel_rfl) (by kernel_rfl) (by kernel_rfl) (fun _ => qsome (by kernel_rfl))
def te155 : TE := ⟨false, 1, some (.nilf), .oth, none⟩
theorem te155_ok : TeOk Try.prog 155 te155 := ⟨by kernel_rfl, by kernel_rfl, (fun _ => zsome (by kernel_rfl)), trivial, fun _ => qnone⟩
def te156 : TE := ⟨false, 1, some (.nilf), .oth, none⟩
theorem te156_ok : TeOk Try.prog 156 te156 := ⟨by kernel_rfl, by kernel_rfl, (fun _ => zsome (by kernel_rfl)), trivial, fun _ => qnone⟩
def te157 : TE := ⟨false, 1, some (.nilf), .oth, none⟩
theorem te157_ok : TeOk Try.prog 157 te157 := ⟨by kernel_rfl, by kernel_rfl, (fun _ => zsome (by kernel_rfl)), trivial, fun _ => qnone⟩
def te158 : TE := ⟨true, 512, some (.agg (List.replicate 512 (.int .i64 0))), .ar 512 false 1, some 512⟩
theorem te158_ok : TeOk Try.prog 158 te158 := .ar (by kernel_rfl) (by kernel_rfl) (fun _ => zsome (by kernel_rfl)) (el := 3) (by kernel_rfl) (by kernel_rfl) (by kernel_rfl) (fun _ => qsome (by kernel_rfl))
def te159 : TE := ⟨true, 9, some (.agg [.int .i64 0, .int .i64 0, .int .i64 0, .int .i64 0, .int .i64 0, .int .i64 0, .int .i64 0, .int .i64 0, .int .i64 0]), .ar 9 false 1, some 9⟩
theorem te159_ok : TeOk Try.prog 159 te159 := .ar (by kernel_rfl) (by kernel_rfl) (fun _ => zsome (by kernel_rfl)) (el := 3) (by kernel_rfl) (by kernel_rfl) (by kernel_rfl) (fun _ => qsome (by kernel_rfl))
def te160 : TE := ⟨true, 526, some (.agg ([.int .i64 0, .int .i64 0, .sl true [], .sl true [], .sl true []] ++ List.replicate 521 (.int .i64 0))), .st [(0, true, 5), (5, true, 512), (517, true, 9)], none⟩
theorem te160_ok : TeOk Try.prog 160 te160 := .st (by kernel_rfl) (by kernel_rfl) (fun _ => zsome (by kernel_rfl)) (by kernel_rfl) ⟨by kernel_rfl, by kernel_rfl, by kernel_rfl, trivial⟩ (by kernel_rfl) (fun _ => qnone)
def te161 : TE := ⟨true, 526, some (.agg ([.int .i64 0, .int .i64 0, .sl true [], .sl true [], .sl true []] ++ List.replicate 521 (.int .i64 0))), .st [(0, true, 5), (5, true, 512), (517, true, 9)], none⟩
theorem te161_ok : TeOk Try.prog 161 te161 := .st (by kernel_rfl) (by kernel_rfl) (fun _ => zsome (by kernel_rfl)) (by kernel_rfl) ⟨by kernel_rfl, by kernel_rfl, by kernel_rfl, trivial⟩ (by kernel_rfl) (fun _ => qnone)
def te162 : TE := ⟨false, 1, some (.nilf), .oth, none⟩
theorem te162_ok : TeOk Try.prog 162 te162 := ⟨by kernel_rfl, by kernel_rfl, (fun _ => zsome (by kernel_rfl)), trivial, fun _ => qnone⟩
def te163 : TE := ⟨false, 1, some (.nilf), .oth, none⟩
theorem te163_ok : TeOk Try.prog 163 te163 := ⟨by kernel_rfl, by kernel_rfl, (fun _ => zsome (by kernel_rfl)), trivial, fun _ => qnone⟩
def te164 : TE := ⟨false, 1, some (.nilf), .oth, none⟩
theorem te164_ok : TeOk Try.prog 164 te164 := ⟨by kernel_rfl, by kernel_rfl, (fun _ => zsome (by kernel_rfl)), trivial, fun _ => qnone⟩
def te165 : TE := ⟨false, 1, some (.sl true []), .sl 148 2 16 (.agg [.int .i64 0, .int .i64 0]), none⟩
theorem te165_ok : TeOk Try.prog 165 te165 := ⟨by kernel_rfl, by kernel_rfl, (fun _ => zsome (by kernel_rfl)), ⟨by kernel_rfl, by kernel_rfl, ⟨148, by kernel_rfl⟩, by kernel_rfl⟩, fun _ => qnone⟩
def te166 : TE := ⟨false, 1, some (.nilf), .oth, none⟩
theorem te166_ok : TeOk Try.prog 166 te166 := ⟨by kernel_rfl, by kernel_rfl, (fun _ => zsome (by kernel_rfl)), trivial, fun _ => qnone⟩
def te167 : TE := ⟨false, 1, some (.nilf), .oth, none⟩
theorem te167_ok : TeOk Try.prog 167 te167 := ⟨by kernel_rfl, by kernel_rfl, (fun _ => zsome (by kernel_rfl)), trivial, fun _ => qnone⟩
def te168 : TE := ⟨false, 1, some (.nilf), .oth, none⟩
theorem te168_ok : TeOk Try.prog 168 te168 := ⟨by kernel_rfl, by kernel_rfl, (fun _ => zsome (by kernel_rfl)), trivial, fun _ => qnone⟩
def te169 : TE := ⟨false, 1, some (.nilf), .oth, none⟩
theorem te169_ok : TeOk Try.prog 169 te169 := ⟨by kernel_rfl, by kernel_rfl, (fun _ => zsome (by kernel_rfl)), trivial, fun _ => qnone⟩
def te170 : TE := ⟨false, 1, some (.nilf), .oth, none⟩
theorem te170_ok : TeOk Try.prog 170 te170 := ⟨by kernel_rfl, by kernel_rfl, (fun _ => zsome (by kernel_rfl)), trivial, fun _ => qnone⟩
def te171 : TE := ⟨true, 2, some (.agg [.int .i64 0, .int .i64 0]), .st [(0, false, 1), (1, false, 1)], some 2⟩
theorem te171_ok : TeOk Try.prog 171 te171 := .st (by kernel_rfl) (by kernel_rfl) (fun _ => zsome (by kernel_rfl)) (by kernel_rfl) ⟨by kernel_rfl, by kernel_rfl, trivial⟩ (by kernel_rfl) (fun _ => qsome (by kernel_rfl))
def te172 : TE := ⟨true, 2, some (.agg [.int .i64 0, .int .i64 0]), .st [(0, false, 1), (1, false, 1)], some 2⟩
theorem te172_ok : TeOk Try.prog 172 te172 := .st (by kernel_rfl) (by kernel_rfl) (fun _ => zsome (by kernel_rfl)) (by kernel_rfl) ⟨by kernel_rfl, by kernel_rfl, trivial⟩ (by kernel_rfl) (fun _ => qsome (by kernel_rfl))
def te173 : TE := ⟨true, 6, some (.agg [.int .i64 0, .int .i64 0, .int .i64 0, .int .i64 0, .int .i64 0, .int .i64 0]), .st [(0, false, 1), (1, false, 1), (2, true, 2), (4, true, 2)], none⟩
theorem te173_ok : TeOk Try.prog 173 te173 := .st (by kernel_rfl) (by kernel_rfl) (fun _ => zsome (by kernel_rfl)) (by kernel_rfl) ⟨by kernel_rfl, by kernel_rfl, by kernel_rfl, by kernel_rfl, trivial⟩ (by kernel_rfl) (fun _ => qnone)
def te174 : TE := ⟨true, 6, some (.agg [.int .i64 0, .int .i64 0, .int .i64 0, .int .i64 0, .int .i64 0, .int .i64 0]), .st [(0, false, 1), (1, false, 1), (2, true, 2), (4, true, 2)], none⟩
theorem te174_ok : TeOk Try.prog 174 te174 := .st (by kernel_rfl) (by kernel_rfl) (fun _ => zsome (by kernel_rfl)) (by kernel_rfl) ⟨by kernel_rfl, by kernel_rfl, by kernel_rfl, by kernel_rfl, trivial⟩ (by kernel_rfl) (fun _ => qnone)
def te175 : TE := ⟨true, 2, some (.agg [.int .i64 0, .int .i64 0]), .st [(0, false, 1), (1, false, 1)], some 2⟩
theorem te175_ok : TeOk Try.prog 175 te175 := .st (by kernel_rfl) (by kernel_rfl) (fun _ => zsome (by kernel_rfl)) (by kernel_rfl) ⟨by kernel_rfl, by kernel_rfl, trivial⟩ (by kernel_rfl) (fun _ => qsome (by kernel_rfl))
def te176 : TE := ⟨true, 2, some (.agg [.int .i64 0, .int .i64 0]), .st [(0, false, 1), (1, false, 1)], some 2⟩
theorem te176_ok : TeOk Try.prog 176 te176 := .st (by kernel_rfl) (by kernel_rfl) (fun _ => zsome (by kernel_rfl)) (by kernel_rfl) ⟨by kernel_rfl, by kernel_rfl, trivial⟩ (by kernel_rfl) (fun _ => qsome (by kernel_rfl))
def te177 : TE := ⟨false, 1, some (.nilf), .oth, none⟩
theorem te177_ok : TeOk Try.prog 177 te177 := ⟨by kernel_rfl, by kernel_rfl, (fun _ => zsome (by kernel_rfl)), trivial, fun _ => qnone⟩
def te178 : TE := ⟨false, 1, some (.nilp), .oth, none⟩
theorem te178_ok : TeOk Try.prog 178 te178 := ⟨by kernel_rfl, by kernel_rfl, (fun _ => zsome (by kernel_rfl)), trivial, fun _ => qnone⟩
def te180 : TE := ⟨false, 1, some (.nilf), .oth, none⟩
theorem te180_ok : TeOk Try.prog 180 te180 := ⟨by kernel_rfl, by kernel_rfl, (fun _ => zsome (by kernel_rfl)), trivial, fun _ => qnone⟩
def te181 : TE := ⟨false, 1, some (.sl true []), .sl 182 121 968 (.agg (List.replicate 121 (.int .i64 0))), none⟩
theorem te181_ok : TeOk Try.prog 181 te181 := ⟨by kernel_rfl, by kernel_rfl, (fun _ => zsome (by kernel_rfl)), ⟨by kernel_rfl, by kernel_rfl, ⟨182, by kernel_rfl⟩, by kernel_rfl⟩, fun _ => qnone⟩
def te182 : TE := ⟨true, 121, some (.agg (List.replicate 121 (.int .i64 0))), .ar 121 false 1, some 121⟩
theorem te182_ok : TeOk Try.prog 182 te182 := .ar (by kernel_rfl) (by kernel_rfl) (fun _ => zsome (by kernel_rfl)) (el := 3) (by kernel_rfl) (by kernel_rfl) (by kernel_rfl) (fun _ => qsome (by kernel_rfl))
def te183 : TE := ⟨false, 1, some (.nilf), .oth, none⟩
theorem te183_ok : TeOk Try.prog 183 te183 := ⟨by kernel_rfl, by kernel_rfl, (fun _ => zsome (by kernel_rfl)), trivial, fun _ => qnone⟩
def te184 : TE := ⟨false, 1, some (.nilm), .mp (.sl true []), none⟩
theorem te184_ok : TeOk Try.prog 184 te184 := ⟨by kernel_rfl, by kernel_rfl, (fun _ => zsome (by kernel_rfl)), show mapT Try.prog 184 = some (.sl true []) by kernel_rfl, fun _ => qnone⟩
def te185 : TE := ⟨true, 6, some (.agg [.int .i64 0, .int .i64 0, .int .i64 0, .sl true [], .sl true [], .nilm]), .st [(0, true, 5), (5, false, 1)], none⟩
theorem te185_ok : TeOk Try.prog 185 te185 := .st (by kernel_rfl) (by kernel_rfl) (fun _ => zsome (by kernel_rfl)) (by kernel_rfl) ⟨by kernel_rfl, by kernel_rfl, trivial⟩ (by kernel_rfl) (fun _ => qnone)
def te186 : TE := ⟨true, 6, some (.agg [.int .i64 0, .int .i64 0, .int .i64 0, .sl true [], .sl true [], .nilm]), .st [(0, true, 5), (5, false, 1)], none⟩
theorem te186_ok : TeOk Try.prog 186 te186 := .st (by kernel_rfl) (by kernel_rfl) (fun _ => zsome (by kernel_rfl)) (by kernel_rfl) ⟨by kernel_rfl, by kernel_rfl, trivial⟩ (by kernel_rfl) (fun _ => qnone)
def te187 : TE := ⟨false, 1, some (.nilf), .oth, none⟩
theorem te187_ok : TeOk Try.prog 187 te187 := ⟨by kernel_rfl, by kernel_rfl, (fun _ => zsome (by kernel_rfl)), trivial, fun _ => qnone⟩
def te188 : TE := ⟨false, 1, some (.nilf), .oth, none⟩
theorem te188_ok : TeOk Try.prog 188 te188 := ⟨by kernel_rfl, by kernel_rfl, (fun _ => zsome (by kernel_rfl)), trivial, fun _ => qnone⟩
def te189 : TE := ⟨false, 1, some (.nilf), .oth, none⟩
theorem te189_ok : TeOk Try.prog 189 te189 := ⟨by kernel_rfl, by kernel_rfl, (fun _ => zsome (by kernel_rfl)), trivial, fun _ => qnone⟩
def te190 : TE := ⟨false, 1, some (.nilf), .oth, none⟩
theorem te190_ok : TeOk Try.prog 190 te190 := ⟨by kernel_rfl, by kernel_rfl, (fun _ => zsome (by kernel_rfl)), trivial, fun _ => qnone⟩
def te191 : TE := ⟨false, 1, some (.nilf), .oth, none⟩
theorem te191_ok : TeOk Try.prog 191 te191 := ⟨by kernel_rfl, by kernel_rfl, (fun _ => zsome (by kernel_rfl)), trivial, fun _ => qnone⟩
def te192 : TE := ⟨false, 1, some (.nilf), .oth, none⟩
theorem te192_ok : TeOk Try.prog 192 te192 := ⟨by kernel_rfl, by kernel_rfl, (fun _ => zsome (by kernel_rfl)), trivial, fun _ => qnone⟩
def te193 : TE := ⟨false, 1, some (.nilf), .oth, none⟩
theorem te193_ok : TeOk Try.prog 193 te193 := ⟨by kernel_rfl, by kernel_rfl, (fun _ => zsome (by kernel_rfl)), trivial, fun _ => qnone⟩
def te194 : TE := ⟨false, 1, some (.int .u64 0), .int .u64, none⟩
theorem te194_ok : TeOk Try.prog 194 te194 := ⟨by kernel_rfl, by kernel_rfl, (fun _ => zsome (by kernel_rfl)), show Try.prog.underlying 194 = some (.int .u64) by kernel_rfl, fun _ => qnone⟩
def te195 : TE := ⟨false, 1, some (.nilf), .oth, none⟩
theorem te195_ok : TeOk Try.prog 195 te195 := ⟨by kernel_rfl, by kernel_rfl, (fun _ => zsome (by kernel_rfl)), trivial, fun _ => qnone⟩
def te196 : TE := ⟨false, 1, some (.nilf), .oth, none⟩
theorem te196_ok : TeOk Try.prog 196 te196 := ⟨by kernel_rfl, by kernel_rfl, (fun _ => zsome (by kernel_rfl)), trivial, fun _ => qnone⟩
def te197 : TE := ⟨false, 1, some (.nilf), .oth, none⟩
theorem te197_ok : TeOk Try.prog 197 te197 := ⟨by kernel_rfl, by kernel_rfl, (fun _ => zsome (by kernel_rfl)), trivial, fun _ => qnone⟩
def te198 : TE := ⟨false, 1, some (.nilf), .oth, none⟩
theorem te198_ok : TeOk Try.prog 198 te198 := ⟨by kernel_rfl, by kernel_rfl, (fun _ => zsome (by kernel_rfl)), trivial, fun _ => qnone⟩
def te199 : TE := ⟨false, 1, some (.nilf), .oth, none⟩
theorem te199_ok : TeOk Try.prog 199 te199 := ⟨by kernel_rfl, by kernel_rfl, (fun _ => zsome (by kernel_rfl)), trivial, fun _ => qnone⟩
def te200 : TE := ⟨true, 3, some (.agg [.int .i64 0, .int .i64 0, .int .i64 0]), .st [(0, false, 1), (1, true, 2)], none⟩
theorem te200_ok : TeOk Try.prog 200 te200 := .st (by kernel_rfl) (by kernel_rfl) (fun _ => zsome (by kernel_rfl)) (by kernel_rfl) ⟨by kernel_rfl, by kernel_rfl, trivial⟩ (by kernel_rfl) (fun _ => qnone)
def te201 : TE := ⟨true, 3, some (.agg [.int .i64 0, .int .i64 0, .int .i64 0]), .st [(0, false, 1), (1, true, 2)], none⟩
theorem te201_ok : TeOk Try.prog 201 te201 := .st (by kernel_rfl) (by kernel_rfl) (fun _ => zsome (by kernel_rfl)) (by kernel_rfl) ⟨by kernel_rfl, by kernel_rfl, trivial⟩ (by kernel_rfl) (fun _ => qnone)
def te202 : TE := ⟨false, 1, some (.nilf), .oth, none⟩
theorem te202_ok : TeOk Try.prog 202 te202 := ⟨by kernel_rfl, by kernel_rfl, (fun _ => zsome (by kernel_rfl)), trivial, fun _ => qnone⟩
def te203 : TE := ⟨false, 1, some (.nilf), .oth, none⟩
theorem te203_ok : TeOk Try.prog 203 te203 := ⟨by kernel_rfl, by kernel_rfl, (fun _ => zsome (by kernel_rfl)), trivial, fun _ => qnone⟩
def te204 : TE := ⟨false, 1, some (.nilf), .oth, none⟩
theorem te204_ok : TeOk Try.prog 204 te204 := ⟨by kernel_rfl, by kernel_rfl, (fun _ => zsome (by kernel_rfl)), trivial, fun _ => qnone⟩
def te205 : TE := ⟨false, 1, some (.nilf), .oth, none⟩
theorem te205_ok : TeOk Try.prog 205 te205 := ⟨by kernel_rfl, by kernel_rfl, (fun _ => zsome (by kernel_rfl)), trivial, fun _ => qnone⟩
def te206 : TE := ⟨false, 1, some (.nilf), .oth, none⟩
theorem te206_ok : TeOk Try.prog 206 te206 := ⟨by kernel_rfl, by kernel_rfl, (fun _ => zsome (by kernel_rfl)), trivial, fun _ => qnone⟩
def te207 : TE := ⟨false, 1, some (.nilf), .oth, none⟩
theorem te207_ok : TeOk Try.prog 207 te207 := ⟨by kernel_rfl, by kernel_rfl, (fun _ => zsome (by kernel_rfl)), trivial, fun _ => qnone⟩
def te208 : TE := ⟨false, 1, some (.nilf), .oth, none⟩
theorem te208_ok : TeOk Try.prog 208 te208 := ⟨by kernel_rfl, by kernel_rfl, (fun _ => zsome (by kernel_rfl)), trivial, fun _ => qnone⟩
def te209 : TE := ⟨false, 1, some (.nilf), .oth, none⟩
theorem te209_ok : TeOk Try.prog 209 te209 := ⟨by kernel_rfl, by kernel_rfl, (fun _ => zsome (by kernel_rfl)), trivial, fun _ => qnone⟩
def te210 : TE := ⟨false, 1, some (.nilf), .oth, none⟩
theorem te210_ok : TeOk Try.prog 210 te210 := ⟨by kernel_rfl, by kernel_rfl, (fun _ => zsome (by kernel_rfl)), trivial, fun _ => qnone⟩
def te211 : TE := ⟨true, 4, none, .st [(0, false, 1), (1, false, 1), (2, false, 1), (3, false, 1)], none⟩
theorem te211_ok : TeOk Try.prog 211 te211 := .st (by kernel_rfl) (by kernel_rfl) (fun _ => znone) (by kernel_rfl) ⟨by kernel_rfl, by kernel_rfl, by kernel_rfl, by kernel_rfl, trivial⟩ (by kernel_rfl) (fun _ => qnone)
def te213 : TE := ⟨true, 0, some (.agg []), .ar 0 false 1, none⟩
theorem te213_ok : TeOk Try.prog 213 te213 := .ar (by kernel_rfl) (by kernel_rfl) (fun _ => zsome (by kernel_rfl)) (el := 16) (by kernel_rfl) (by kernel_rfl) (by kernel_rfl) (fun _ => qnone)
def te214 : TE := ⟨true, 0, some (.agg []), .st [(0, true, 0)], none⟩
theorem te214_ok : TeOk Try.prog 214 te214 := .st (by kernel_rfl) (by kernel_rfl) (fun _ => zsome (by kernel_rfl)) (by kernel_rfl) ⟨by kernel_rfl, trivial⟩ (by kernel_rfl) (fun _ => qnone)
def te218 : TE := ⟨false, 1, some (.nilf), .oth, none⟩
theorem te218_ok : TeOk Try.prog 218 te218 := ⟨by kernel_rfl, by kernel_rfl, (fun _ => zsome (by kernel_rfl)), trivial, fun _ => qnone⟩
def te219 : TE := ⟨false, 1, some (.nilp), .oth, none⟩
theorem te219_ok : TeOk Try.prog 219 te219 := ⟨by kernel_rfl, by kernel_rfl, (fun _ => zsome (by kernel_rfl)), trivial, fun _ => qnone⟩
def te222 : TE := ⟨true, 11, some (.agg [.int .u64 0, .int .u64 0, .int .u32 0, .int .u8 0, .int .u8 0, .int .u8 0, .int .u8 0, .nilf, .nilp, .int .i32 0, .int .i32 0]), .st [(0, false, 1), (1, false, 1), (2, false, 1), (3, false, 1), (4, false, 1), (5, false, 1), (6, false, 1), (7, false, 1), (8, false, 1), (9, false, 1), (10, false, 1)], none⟩
theorem te222_ok : TeOk Try.prog 222 te222 := .st (by kernel_rfl) (by kernel_rfl) (fun _ => zsome (by kernel_rfl)) (by kernel_rfl) ⟨by kernel_rfl, by kernel_rfl, by kernel_rfl, by kernel_rfl, by kernel_rfl, by kernel_rfl, by kernel_rfl, by kernel_rfl, by kernel_rfl, by kernel_rfl, by kernel_rfl, trivial⟩ (by kernel_rfl) (fun _ => qnone)
def tab : Tab := [none, some te1, some te2, some te3, some te4, some te5, none, some te7, none, none, none, none, some te12, some te13, none, none, none, none, some te18, none, none, some te21, some te22, some te23, some te24, some te25, some te26, some te27, some te28, some te29, some te30, some te31, none, some te33, some te34, some te35, some te36, some te37, none, some te39, some te40, some te41, some te42, some te43, some te44, none, some te46, none, some te48, some te49, some te50, none, some te52, some te53, none, some te55, some te56, some te57, some te58, some te59, some te60, some te61, some te62, some te63, some te64, some te65, some te66, some te67, some te68, some te69, some te70, some te71, some te72, some te73, some te74, some te75, some te76, some te77, some te78, none, some te80, some te81, some te82, some te83, some te84, some te85, some te86, some te87, none, some te89, some te90, none, some te92, some te93, some te94, some te95, some te96, some te97, some te98, none, some te100, some te101, some te102, some te103, some te104, some te105, some te106, some te107, some te108, none, some te110, some te111, some te112, some te113, some te114, some te115, some te116, some te117, some te118, some te119, some te120, some te121, some te122, some te123, none, some te125, some te126, some te127, some te128, some te129, none, some te131, some te132, some te133, some te134, some te135, some te136, some te137, some te138, some te139, some te140, some te141, some te142, some te143, some te144, some te145, some te146, some te147, some te148, some te149, some te150, some te151, some te152, some te153, some te154, some te155, some te156, some te157, some te158, some te159, some te160, some te161, some te162, some te163, some te164, some te165, some te166, some te167, some te168, some te169, some te170, some te171, some te172, some te173, some te174, some te175, some te176, some te177, some te178, none, some te180, some te181, some te182, some te183, some te184, some te185, some te186, some te187, some te188, some te189, some te190, some te191, some te192, some te193, some te194, some te195, some te196, some te197, some te198, some te199, some te200, some te201, some te202, some te203, some te204, some te205, some te206, some te207, some te208, some te209, some te210, some te211, none, some te213, some te214, none, none, none, some te218, some te219, none, none, some te222]
theorem tab_ok : TabOk Try.prog tab := ⟨te1_ok, te2_ok, te3_ok, te4_ok, te5_ok, te7_ok, te12_ok, te13_ok, te18_ok, te21_ok, te22_ok, te23_ok, te24_ok, te25_ok, te26_ok, te27_ok, te28_ok, te29_ok, te30_ok, te31_ok, te33_ok, te34_ok, te35_ok, te36_ok, te37_ok, te39_ok, te40_ok, te41_ok, te42_ok, te43_ok, te44_ok, te46_ok, te48_ok, te49_ok, te50_ok, te52_ok, te53_ok, te55_ok, te56_ok, te57_ok, te58_ok, te59_ok, te60_ok, te61_ok, te62_ok, te63_ok, te64_ok, te65_ok, te66_ok, te67_ok, te68_ok, te69_ok, te70_ok, te71_ok, te72_ok, te73_ok, te74_ok, te75_ok, te76_ok, te77_ok, te78_ok, te80_ok, te81_ok, te82_ok, te83_ok, te84_ok, te85_ok, te86_ok, te87_ok, te89_ok, te90_ok, te92_ok, te93_ok, te94_ok, te95_ok, te96_ok, te97_ok, te98_ok, te100_ok, te101_ok, te102_ok, te103_ok, te104_ok, te105_ok, te106_ok, te107_ok, te108_ok, te110_ok, te111_ok, te112_ok, te113_ok, te114_ok, te115_ok, te116_ok, te117_ok, te118_ok, te119_ok, te120_ok, te121_ok, te122_ok, te123_ok, te125_ok, te126_ok, te127_ok, te128_ok, te129_ok, te131_ok, te132_ok, te133_ok, te134_ok, te135_ok, te136_ok, te137_ok, te138_ok, te139_ok, te140_ok, te141_ok, te142_ok, te143_ok, te144_ok, te145_ok, te146_ok, te147_ok, te148_ok, te149_ok, te150_ok, te151_ok, te152_ok, te153_ok, te154_ok, te155_ok, te156_ok, te157_ok, te158_ok, te159_ok, te160_ok, te161_ok, te162_ok, te163_ok, te164_ok, te165_ok, te166_ok, te167_ok, te168_ok, te169_ok, te170_ok, te171_ok, te172_ok, te173_ok, te174_ok, te175_ok, te176_ok, te177_ok, te178_ok, te180_ok, te181_ok, te182_ok, te183_ok, te184_ok, te185_ok, te186_ok, te187_ok, te188_ok, te189_ok, te190_ok, te191_ok, te192_ok, te193_ok, te194_ok, te195_ok, te196_ok, te197_ok, te198_ok, te199_ok, te200_ok, te201_ok, te202_ok, te203_ok, te204_ok, te205_ok, te206_ok, te207_ok, te208_ok, te209_ok, te210_ok, te211_ok, te213_ok, te214_ok, te218_ok, te219_ok, te222_ok, trivial⟩
end GA
end

section
namespace GA
open Go Go.RowKit
set_option linter.unusedVariables false

def xPend (P : Program) (T : Tab) (N : Nat) (own : List Nat) (Q : Post) (D : List Nat) (σ : St) (H : List Blk) (pend : Option Code) : Prop :=
  match pend with
  | none => Q .normal D σ H
  | some c => XRun P T N none own c Q D σ H
def xRangeEnd (P : Program) (T : Tab) (N : Nat) (own : List Nat) (Q : Post) (D : List Nat) (σ : St) (i : Nat) (H : List Blk) : Prop :=
  match lget H i with
  | some (.lp st pend _ _ _ _ _ _) => match st with
    | .busy => False
    | _ => hset H i .dead fun H' => xPend P T N own Q D σ H' pend
  | _ => False

def xPuts : List Nat → List AV → St → Option St
  | [], [], σ => some σ
  | t :: ts, r :: rs, σ => xPuts ts rs (updX σ t r)
  | _, _, _ => none

def xRound (i : Nat) (K : AV → List Blk → Prop) : Post := fun e _ _ H =>
  match lget H i with
  | some (.lp _ _ f tm ps x y n) => match e with
    | .normal => hset H i (.lp .ready none f tm ps x y n) fun H' => K (.bool true) H'
    | .ret => hset H i (.lp .done (some .ret) f tm ps x y n) fun H' => K (.bool false) H'
    | .exit id => hset H i (.lp .done (some (.exit id)) f tm ps x y n) fun H' => K (.bool false) H'
    | _ => False
  | _ => False
def xBegin (P : Program) (T : Tab) (own : List Nat) (i : Nat) (K : AV → List Blk → Prop) (ρ : Option Nat) : Post := fun e D σ H =>
  match e, lget H i with
  | .normal, some (.lp .ready pend f tm ps x y n) => hset H i (.lp .busy pend f tm ps x y n) fun H' => XRun P T n ρ own y (xRound i K) D σ H'
  | _, _ => False

section
variable {P : Program} {T : Tab} {N : Nat} {ρ : Option Nat} {own : List Nat} {E : Env} {h : Nat → Option Obj} {β : Nat → Value} {H : List Blk} {w : World} {σ : St} {a : Act} {D : List Nat}

theorem xPuts_fits : ∀ {ts : List Nat} {rs : List AV} {vs : List Value} {σ σ' : St} {tmps : Array Value}, xPuts ts rs σ = some σ' → RepL P h β H rs vs → (∀ t ∈ ts, t < tmps.size) →
    (∀ t r, σ t = some r → ∃ v, tmps[t]? = some v ∧ Rep P h β H r v) → vs.length = ts.length ∧
    ∀ t r, σ' t = some r → ∃ v, ((ts.zip vs).foldl (fun (tmps : Array Value) (x : Nat × Value) => tmps.setIfInBounds x.1 x.2) tmps)[t]? = some v ∧ Rep P h β H r v
  | [], [], vs, σ, σ', tmps, e, hr, _, F => by
    cases e
    have : vs = [] := List.eq_nil_of_length_eq_zero hr.1
    subst this; exact ⟨rfl, F⟩
  | t :: ts, r :: rs, vs, σ, σ', tmps, e, hr, hb, F => by
    cases vs with
    | nil => have := hr.1; simp at this
    | cons v vs =>
      obtain ⟨v', e1, e2⟩ := hr.2 0 r rfl
      simp at e1; subst e1
      have hr' : RepL P h β H rs vs := ⟨by have := hr.1; simpa using this, fun j x ex => by have := hr.2 (j + 1) x (by simpa using ex); simpa using this⟩
      have F' : ∀ u x, updX σ t r u = some x → ∃ y, (tmps.setIfInBounds t v)[u]? = some y ∧ Rep P h β H x y := by
        intro u x ex
        rw [updX_eq] at ex; unfold upd at ex
        by_cases hu : u = t
        · subst hu; simp at ex; subst ex
          exact ⟨v, by simp [hb u (by simp)], e2⟩
        · simp [hu] at ex
          obtain ⟨y, g1, g2⟩ := F u x ex
          exact ⟨y, by rw [Array.getElem?_setIfInBounds_ne (Ne.symm hu)]; exact g1, g2⟩
      obtain ⟨g1, g2⟩ := xPuts_fits (tmps := tmps.setIfInBounds t v) (show xPuts ts rs (updX σ t r) = some σ' from e) hr' (fun u hu => by simpa using hb u (by simp [hu])) F'
      exact ⟨by simp [g1], by simpa using g2⟩
  | [], _ :: _, _, _, _, _, e, _, _, _ => by cases e
  | _ :: _, [], _, _, _, _, e, _, _, _ => by cases e

theorem Walk.range {g : Operand} {ps : Array Tmp} {assign body : Code} {Q : Post} {f : FuncId} {caps : List AV} (ok : TabOk P T) (tm : List (Nat × AV)) (hg : ev σ g = some (.fn f caps)) (ht : SubX tm σ)
    (x : ∀ fn, XCall P f (.yld (H.length + 1) :: caps) (H ++ [.raw (.deferred (some []))] ++ [.lp .ready none fn tm ps assign body N]) fun _ H' => xRangeEnd P T N own Q (H.length :: D) σ (H.length + 1) H') :
    Walk P N none (.rangeFunc g ps assign body) Q D σ H := by
  constructor
  intro E h β a w s
  refine wpIn_rangeFunc fun fn _ => ?_
  have hf := s.fits.ev hg
  generalize hv : a.eval g = fval at hf
  cases hf with
  | @fn _ _ vs us hs hc hr =>
    obtain ⟨hent, hcall⟩ := (x fn).o
    let w1 := (w.alloc (.deferred (some []))).alloc (.loop { state := .ready, pending := none, fn, tmps := a.tmps, params := ps, assign, body, defers := w.heap.size })
    -- the blocks
    obtain ⟨s1, X1⟩ := s.sr.push (w' := w.alloc (.deferred (some []))) s.sr.env (fun k hk => Below.heap_alloc _ _ _ hk) (.pointer (some ⟨w.heap.size, 0, none⟩)) (.raw (.deferred (some []))) (by intro b hb; simp [anchor] at hb; omega)
      (fun X => ⟨w.heap.size, by simp [upb], heap_alloc_new w _⟩)
    have hsz : (w.alloc (.deferred (some []))).heap.size = w.heap.size + 1 := World.size_alloc _ _
    obtain ⟨s2, X2⟩ := s1.push (w' := w1) s.sr.env (fun k hk => Below.heap_alloc _ _ _ hk) (.pointer (some ⟨w.heap.size + 1, 0, none⟩)) (.lp .ready none fn tm ps assign body N) (by intro b hb; simp [anchor] at hb; omega)
      (fun X => ⟨w.heap.size + 1, w.heap.size, a.tmps, by simp [upb], by rw [← hsz]; exact heap_alloc_new _ _, s.size, fun t r e => by
        have : σ t = some r := by
          have : ∀ (l : List (Nat × AV)), SubX l σ → (t, r) ∈ l → σ t = some r := by
            intro l; induction l with
            | nil => intro _ h; cases h
            | cons p l ih => intro h1 h2; rcases List.mem_cons.1 h2 with h2 | h2
                             · subst h2; exact h1.1
                             · exact ih h1.2 h2
          exact this tm ht e
        obtain ⟨v, e1, e2⟩ := s.fits t r this
        exact ⟨v, e1, X.rep (X1.rep e2)⟩⟩)
    have hl2 : (H ++ [Blk.raw (.deferred (some []))]).length = H.length + 1 := by simp
    rw [hl2] at s2 X2
    have X := X1.trans X2
    have hlp : (H ++ [Blk.raw (.deferred (some []))] ++ [Blk.lp .ready none fn tm ps assign body N])[H.length + 1]? = some (.lp .ready none fn tm ps assign body N) := by
      rw [List.getElem?_append_right (by simp)]; simp
    have hraw : (H ++ [Blk.raw (.deferred (some []))] ++ [Blk.lp .ready none fn tm ps assign body N])[H.length]? = some (.raw (.deferred (some []))) := by
      rw [List.getElem?_append_left (by simp), List.getElem?_append_right (by simp)]; simp
    have hy : Rep P h (upb (upb β H.length (.pointer (some ⟨w.heap.size, 0, none⟩))) (H.length + 1) (.pointer (some ⟨w.heap.size + 1, 0, none⟩))) (H ++ [.raw (.deferred (some []))] ++ [.lp .ready none fn tm ps assign body N]) (.yld (H.length + 1)) (.func (.yield (w.heap.size + 1)) #[] #[]) :=
      .yld (.of hlp rfl) fun y _ _ => by simp [upb]
    have hmk : Rep P h (upb (upb β H.length (.pointer (some ⟨w.heap.size, 0, none⟩))) (H.length + 1) (.pointer (some ⟨w.heap.size + 1, 0, none⟩))) (H ++ [.raw (.deferred (some []))] ++ [.lp .ready none fn tm ps assign body N]) (.yld H.length) (.func (.yield w.heap.size) #[] #[]) :=
      .yld (.of hraw rfl) fun y _ _ => by simp [upb]
    have hargs : RepL P h (upb (upb β H.length (.pointer (some ⟨w.heap.size, 0, none⟩))) (H.length + 1) (.pointer (some ⟨w.heap.size + 1, 0, none⟩))) (H ++ [.raw (.deferred (some []))] ++ [.lp .ready none fn tm ps assign body N]) (.yld (H.length + 1) :: caps) (.func (.yield (w.heap.size + 1)) #[] #[] :: vs.toList) :=
      .cons hy ⟨by simpa using hs, fun j y e => ⟨us j, by simpa using hc j y e, X.rep (hr j y e)⟩⟩
    have hres : (resolve a.eval (rangeCall g (w.heap.size + 1)) 0).run P w1 = .ok { target := .fn (.func f) vs, args := #[.func (.yield (w.heap.size + 1)) #[] #[]] } w1 := by
      have hcst : ∀ v, a.eval (.const v) = v := fun _ => rfl
      simp [resolve, hv, Deferred.ofValue, hcst]
    have hinv : (invoke (.fn (.func f) vs) #[.func (.yield (w.heap.size + 1)) #[] #[]]).run P w1 = .ok (.enter f (.func (.yield (w.heap.size + 1)) #[] #[] :: vs.toList).toArray) w1 := by
      have : (#[Value.func (.yield (w.heap.size + 1)) #[] #[]] ++ vs) = (.func (.yield (w.heap.size + 1)) #[] #[] :: vs.toList).toArray := by apply Array.ext'; simp
      simp only [invoke, run_callFunc hent, this]
    refine ⟨w.heap.size + 1, _, w1, _, w1, f, _, w1, run_enterLoop_outer fn a.tmps ps assign body, hres, fun _ _ => trivial, hinv, fun h => by simp at h, ?_⟩
    have hc2 := hcall E h _ w1 _ s2 hargs
    refine (show CallsIn (FW none) (0 - 1) P f _ w1 _ from hc2.mono ?_)
    rintro e w' ⟨r, H', h', β', v, rfl, hk, X', s', _⟩
    -- the end
    unfold xRangeEnd at hk
    split at hk
    case h_2 => exact hk.elim
    rename_i st pend f' tm' ps' as' bo' n' hl
    rw [lget_eq] at hl
    have hto := X'.to _ _ _ hlp hl
    rcases hto with hd | ⟨st2, pend2, he, hβ⟩
    · cases hd
    · cases he
      have hβ1 : β' (H.length + 1) = .pointer (some ⟨w.heap.size + 1, 0, none⟩) := by rw [hβ]; simp [upb]
      obtain ⟨b, dfr, tmps, h1, h2, h3, h4⟩ := s'.blk _ _ hl
      rw [hβ1] at h1; cases h1
      have hnb : st ≠ .busy := by rintro rfl; exact hk
      have hk2 : hset H' (H.length + 1) .dead fun H' => xPend P T N own Q (H.length :: D) σ H' pend := by
        cases st with
        | busy => exact hk.elim
        | ready => exact hk
        | done => exact hk
        | exhausted => exact hk
      obtain ⟨hlt, hk3⟩ := hset_spec hk2
      have hbo : blkOf β' H' (H.length + 1) = some (w.heap.size + 1) := by simp only [blkOf, hl, hβ1]; rfl
      obtain ⟨s3, X3⟩ := s'.modify (β' := β') (w' := w'.putObj (w.heap.size + 1) (.loop { state := .exhausted, pending := pend, fn := fn, tmps := tmps, params := ps, assign := assign, body := body, defers := dfr })) (x' := .dead) hl (fun _ _ => rfl) (.inl rfl) s'.env
        (fun q _ hn => World.putObj_heap_other (fun e => hn (by rw [hbo, e]))) (fun b e => .inl (by rw [hbo]; rw [hβ1] at e; exact e)) (fun _ => trivial)
      have Xall := X.trans (X'.trans X3)
      have hst : Stands P E N h' β' (H.length :: D) σ (H'.set (H.length + 1) .dead) { a with defers := [{ target := .collected w.heap.size, args := #[] }] ++ a.defers } (w'.putObj (w.heap.size + 1) (.loop { state := .exhausted, pending := pend, fn := fn, tmps := tmps, params := ps, assign := assign, body := body, defers := dfr })) := by
        exact ⟨s3, s.fits.ext Xall, s.size, ⟨(s.df.ext Xall).en, .own ((X'.trans X3).rep hmk) (s.df.ext Xall).l⟩⟩
      refine ⟨pend, _, run_endLoop h2 hnb, ?_⟩
      cases pend with
      | none => exact ⟨_, _, _, _, _, hk3, Xall, hst⟩
      | some c => exact wpIn_mono (XRun.sound ok hk3 E h' β' _ _ hst) fun _ _ _ => Conc.ext Xall

theorem XYield.go {i : Nat} {rs : List AV} {K : AV → List Blk → Prop} {pend : Option Code} {f : FuncId} {tm : List (Nat × AV)} {ps : Array Tmp} {assign body : Code} {σ0 : St} (ok : TabOk P T) (hl : lget H i = some (.lp .ready pend f tm ps assign body N)) (hp : xPuts ps.toList rs (stX tm) = some σ0)
    (hb : ∀ t ∈ ps.toList, t < N) (x : ∀ ρ, XRun P T N ρ own assign (xBegin P T own i K ρ) [] σ0 H) : XYield P i rs H K := by
  rw [lget_eq] at hl
  refine ⟨(List.getElem?_eq_some_iff.1 hl).1, fun E h β w b vs s hr hβ => ?_⟩
  have hβ := hβ _ hl rfl
  obtain ⟨b', dfr, tmps, h1, h2, h3, h4⟩ := s.blk _ _ hl
  rw [hβ] at h1; cases h1
  obtain ⟨hlen, F⟩ := xPuts_fits (tmps := tmps) hp hr (fun t ht => by rw [h3]; exact hb t ht) (fun t r e => by
    have : ∀ (l : List (Nat × AV)), stX l t = some r → (t, r) ∈ l := by
      intro l; induction l with
      | nil => intro h; cases h
      | cons p l ih =>
        obtain ⟨u, x⟩ := p
        intro h; simp only [stX, updX_eq, upd] at h
        split at h
        · rename_i e; cases h; subst e; exact List.mem_cons_self
        · exact List.mem_cons_of_mem _ (ih h)
    exact h4 t r (this tm e))
  have hzip : ((ps.zip vs.toArray).foldl (fun (tmps : Array Value) (x : Nat × Value) => tmps.setIfInBounds x.1 x.2) tmps) = ((ps.toList.zip vs).foldl (fun (tmps : Array Value) (x : Nat × Value) => tmps.setIfInBounds x.1 x.2) tmps) := by
    rw [← Array.foldl_toList]; simp
  refine ⟨f, _, assign, body, run_yield h2 (by simp [hlen]), ?_⟩
  refine roundIn_of_wpIn trivial ?_
  have hF : (FW none).inRound b = FW (some b) := rfl
  rw [hF]
  have hsz : ∀ (l : List (Nat × Value)) (tmps : Array Value), (l.foldl (fun (tmps : Array Value) (x : Nat × Value) => tmps.setIfInBounds x.1 x.2) tmps).size = tmps.size := by
    intro l; induction l with
    | nil => intro _; rfl
    | cons p l ih => intro tmps; simp [ih]
  have st0 : Stands P ⟨E.b, E.fr, h⟩ N h β [] σ0 H { tmps := (ps.zip vs.toArray).foldl (fun (tmps : Array Value) (x : Nat × Value) => tmps.setIfInBounds x.1 x.2) tmps, defers := [] } w :=
    ⟨s.en h, fun t r e => by rw [hzip]; exact F t r e, by rw [hzip]; exact (hsz _ _).trans h3, ⟨fun _ _ e => e, .nil⟩⟩
  refine wpIn_mono (XRun.sound ok (x (some b)) ⟨E.b, E.fr, h⟩ h β _ w st0) ?_
  rintro e a1 w1 ⟨D1, σ1, H1, h1', β1, q, X1, s1⟩
  have hq : e = .normal ∧ ∃ pend' f' tm' ps' x' y' n', lget H1 i = some (.lp .ready pend' f' tm' ps' x' y' n') ∧ hset H1 i (.lp .busy pend' f' tm' ps' x' y' n') fun H' => XRun P T n' (some b) own y' (xRound i K) D1 σ1 H' := by
    unfold xBegin at q; split at q
    · rename_i hh; exact ⟨rfl, _, _, _, _, _, _, _, hh, q⟩
    · exact q.elim
  obtain ⟨rfl, pend', f', tm', ps', x', y', n', g1, g2⟩ := hq
  rw [lget_eq] at g1
  have hβ1 : β1 i = β i ∧ body = y' ∧ N = n' := by
    rcases X1.to _ _ _ hl g1 with hd | ⟨_, _, he, hb1⟩
    · cases hd
    · cases he; exact ⟨hb1, rfl, rfl⟩
  obtain ⟨hβ1, rfl, rfl⟩ := hβ1
  rw [hβ] at hβ1
  obtain ⟨b', dfr', tmps', k1, k2, k3, k4⟩ := s1.sr.blk _ _ g1
  rw [hβ1] at k1; cases k1
  obtain ⟨hlt, g3⟩ := hset_spec g2
  refine ⟨_, run_beginRound k2 rfl, ?_⟩
  have hbo : blkOf β1 H1 i = some b := by simp only [blkOf, g1, hβ1]; rfl
  have hbs : b < w1.heap.size := (Array.getElem?_eq_some_iff.1 k2).1
  obtain ⟨s2, X2⟩ := s1.sr.modify (β' := β1) (w' := w1.putObj b (.loop { state := .busy, pending := pend', fn := f', tmps := tmps', params := ps', assign := x', body := body, defers := dfr' })) (x' := .lp .busy pend' f' tm' ps' x' body N) g1 (fun _ _ => rfl) (.inr ⟨_, _, rfl, rfl⟩) s1.sr.env
    (fun q _ hn => World.putObj_heap_other (fun e => hn (by rw [hbo, e]))) (fun b e => .inl (by rw [hbo]; rw [hβ1] at e; exact e)) (fun X => ⟨b, dfr', tmps', hβ1, World.putObj_heap_same hbs, k3, fun t r e => let ⟨v, p1, p2⟩ := k4 t r e; ⟨v, p1, X.rep p2⟩⟩)
  refine wpIn_mono (XRun.sound ok g3 ⟨E.b, E.fr, h⟩ _ _ _ _ ⟨s2, s1.fits.ext X2, s1.size, s1.df.ext X2⟩) ?_
  rintro e a3 w3 ⟨D3, σ3, H3, h3', β3, q3, X3, s3⟩
  unfold xRound at q3
  split at q3
  case h_2 => exact q3.elim
  rename_i st4 pend4 f4 tm4 ps4 x4 y4 n4 m1
  rw [lget_eq] at m1
  have hg2 : (H1.set i (.lp .busy pend' f' tm' ps' x' body N))[i]? = some (.lp .busy pend' f' tm' ps' x' body N) := by simp [hlt]
  have hβ3 : β3 i = .pointer (some ⟨b, 0, none⟩) := by
    rcases X3.to _ _ _ hg2 m1 with hd | ⟨_, _, he, hb1⟩
    · cases hd
    · rw [hb1, hβ1]
  obtain ⟨b', dfr4, tmps4, o1, o2, o3, o4⟩ := s3.sr.blk _ _ m1
  rw [hβ3] at o1; cases o1
  have hbo3 : blkOf β3 H3 i = some b := by simp only [blkOf, m1, hβ3]; rfl
  have hbs3 : b < w3.heap.size := (Array.getElem?_eq_some_iff.1 o2).1
  have Xto := X1.trans (X2.trans X3)
  have fin : ∀ (jump : Option Code) (st' : LoopState), st' = (if jump.isNone then .ready else .done) → (hset H3 i (.lp st' jump f4 tm4 ps4 x4 y4 n4) fun H' => K (.bool jump.isNone) H') →
      ∃ v w', (Instr.endRound b jump).run P w3 = .ok v w' ∧ Ends P E h β H K (.returned v) w' := by
    intro jump st' hst hk
    subst hst
    obtain ⟨_, hk2⟩ := hset_spec hk
    obtain ⟨s4, X4⟩ := s3.sr.modify (β' := β3) (w' := w3.putObj b (.loop { state := (if jump.isNone then .ready else .done), pending := jump, fn := f4, tmps := tmps4, params := ps4, assign := x4, body := y4, defers := dfr4 })) (x' := .lp (if jump.isNone then .ready else .done) jump f4 tm4 ps4 x4 y4 n4) m1 (fun _ _ => rfl) (.inr ⟨_, _, rfl, rfl⟩) s3.sr.env
      (fun q _ hn => World.putObj_heap_other (fun e => hn (by rw [hbo3, e]))) (fun b e => .inl (by rw [hbo3]; rw [hβ3] at e; exact e)) (fun X => ⟨b, dfr4, tmps4, hβ3, World.putObj_heap_same hbs3, o3, fun t r e => let ⟨v, p1, p2⟩ := o4 t r e; ⟨v, p1, X.rep p2⟩⟩)
    refine ⟨_, _, run_endRound jump o2, .bool jump.isNone, _, _, _, _, rfl, hk2, Xto.trans X4, ?_, .bool _⟩
    exact s4.unen
  cases e with
  | normal => exact fin none .ready rfl q3
  | ret => exact fin (some .ret) .done rfl q3
  | exit id => exact fin (some (.exit id)) .done rfl q3
  | _ => exact q3.elim
end
end GA
end
