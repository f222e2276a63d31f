/- Part 3 of a proof: Abs20, Abs21, Abs22, Abs23, Abs24, S1, S2, S4, S5, S6, S7, S8, S9, Abs25. -/
import Derived.Test.YtlbdomhfcghjdaaP2
import Derived.OrdersIn
section
namespace GA
open Go Go.RowKit
set_option linter.unusedVariables false

def xMarks : List Nat → List Blk → (List Blk → Prop) → Prop
  | [], H, k => k H
  | i :: D, H, k => match lget H i with
    | some (.raw (.deferred (some []))) => hset H i (.raw (.deferred none)) fun H' => xMarks D H' k
    | _ => False
def XIn (T : Tab) (res : List ResultVar) (k : AV → List Blk → Prop) : Post := fun e D σ H =>
  match e with
  | .normal | .ret => xMarks D H fun H' => xRes T σ H' res fun rs => k (pack rs) H'
  | _ => False
def XFm (P : Program) (T : Tab) (res : List ResultVar) (r0 : AV) : Post := XIn T res fun r H => XOut P H r r0

section
variable {P : Program} {T : Tab} {N : Nat} {ρ : Option Nat} {own : List Nat} {E : Env} {h : Nat → Option Obj} {β : Nat → Value} {H : List Blk} {w : World} {σ : St} {a : Act}

theorem leavesX {fn : Func} {k : AV → List Blk → Prop} {h0 : Nat → Option Obj} {β0 : Nat → Value} {H0 : List Blk} (ok : TabOk P T) (hen : ∀ b, E.en b = none → h0 b = none) : ∀ (ds : List Deferred) (D : List Nat) (h : Nat → Option Obj) (β : Nat → Value) (H : List Blk) (w : World), Ext h0 β0 H0 h β H → SR P E h β H w → Fits P h β H σ a → DfOk P E h β H D ds →
      xMarks D H (fun H' => xRes T σ H' fn.results.toList fun rs => k (pack rs) H') → LeavesInM (FW none) 0 P fn a.tmps (Ends P E h0 β0 H0 k) ds .returning w
  | [], D, h, β, H, w, X, s, F, df, hk => by
    obtain ⟨_, df⟩ := df
    cases df
    obtain ⟨v, rs, e1, e2, e3⟩ := results_run (fn := fn) s F (xRes_sound ok hk)
    exact ⟨v, e1, pack rs, H, h, β, v, rfl, e3, X, s, e2⟩
  | d :: ds, D, h, β, H, w, X, s, F, ⟨hen2, df⟩, hk => by
    cases df with
    | @lost b _ _ hb he nd t =>
      have h4 := s.imm _ _ hb
      have htake := run_takeDeferred (P := P) h4
      refine ⟨by simp, .inl ⟨b, _, rfl, htake, ?_⟩⟩
      exact leavesX ok hen ds D _ β H _ (X.hid (hen _ he)) (s.hid hb _) (F.hid hb) (DfOk.hid hb he ⟨hen2, t⟩ nd) hk
    | @own i b D _ h2 t =>
      unfold xMarks at hk
      split at hk
      case h_2 => exact hk.elim
      rename_i hl
      rw [lget_eq] at hl
      obtain ⟨hlt, hk2⟩ := hset_spec hk
      cases h2 with
      | yld hlv hb =>
        have hb' := hb _ hl rfl
        obtain ⟨b', h3, h4⟩ := s.blk i _ hl
        rw [hb'] at h3; cases h3
        have htake := run_takeDeferred (P := P) h4
        have hbo : blkOf β H i = some b := by simp only [blkOf, hl, hb']; rfl
        obtain ⟨s', X'⟩ := s.modify (β' := β) (w' := w.putObj b (.deferred none)) (x' := .raw (.deferred none)) hl (fun _ _ => rfl) (.inr ⟨_, rfl, rfl⟩) s.env
          (fun q _ hn => World.putObj_heap_other (fun e => hn (by rw [hbo, e]))) (fun b0 e => .inl (by rw [hbo]; rw [hb'] at e; exact e))
          (fun _ => ⟨b, hb', World.putObj_heap_same (Array.getElem?_eq_some_iff.1 h4).1⟩)
        refine ⟨by simp, .inl ⟨b, _, rfl, htake, ?_⟩⟩
        exact leavesX ok hen ds D h β _ _ (X.trans X') s' (F.ext X') (DfOk.ext ⟨hen2, t⟩ X') hk2

theorem ACall.inl {f : FuncId} {fn : Func} {c : Code} {rs : List AV} {res : List ResultVar} {k : AV → List Blk → Prop} (ok : TabOk P T) (own : List Nat) (hf : P.funcs[f]? = some fn) (hb : fn.body = some c) (hn : (fn.name == "runtime.NumGoroutine") = false)
    (hN : fn.ntmps = N) (hr : fn.results = res.toArray) (hl : rs.length ≤ N) (x : XRun P T N none own c (XIn T res k) [] (argX rs) H) : ACall P f rs H k := by
  refine ⟨⟨fn, hf, hn, by rw [hb]; rfl⟩, fun E h β w vs s hrs => ?_⟩
  refine (show CallsIn (FW none) 0 P f vs.toArray w (Ends P ⟨E.b, E.fr, h⟩ h β H k) from ?_).mono fun _ _ => Ends.unen
  refine callsIn_of_wp_marks hf hb trivial ?_ rfl
  have hsz : (vs.toArray ++ Array.replicate (fn.ntmps - vs.toArray.size) undef).size = N := by simp [hrs.1]; omega
  refine wpIn_mono (XRun.sound (own := own) ok x ⟨E.b, E.fr, h⟩ h β _ w ⟨s.en h, fun t r e => ?_, hsz, ⟨fun _ _ e => e, .nil⟩⟩) ?_
  · rw [argX_eq] at e
    obtain ⟨v, h1, h2⟩ := hrs.2 t r e
    refine ⟨v, ?_, h2⟩
    rw [Array.getElem?_append_left (by simpa using (List.getElem?_eq_some_iff.1 h1).1)]; simpa using h1
  · rintro e a' w' ⟨D', σ', H', h', β', q, X, s'⟩
    have hq : (e = .normal ∨ e = .ret) ∧ xMarks D' H' fun H' => xRes T σ' H' fn.results.toList fun rs => k (pack rs) H' := by
      rw [hr]
      unfold XIn at q; split at q
      · exact ⟨.inl rfl, q⟩
      · exact ⟨.inr rfl, q⟩
      · exact q.elim
    obtain ⟨he, q⟩ := hq
    have hL : LeavesInM (FW none) 0 P fn a'.tmps (Ends P ⟨E.b, E.fr, h⟩ h β H k) a'.defers .returning w' :=
      leavesX ok (fun _ e => e) a'.defers D' h' β' H' w' X s'.sr s'.fits s'.df q
    rcases he with rfl | rfl <;> exact hL

theorem Comp.body' {f : FuncId} {fn : Func} {c : Code} {rs : List AV} {res : List ResultVar} {r0 : AV} (ok : TabOk P T) (own : List Nat) (hf : P.funcs[f]? = some fn) (hb : fn.body = some c) (hn : (fn.name == "runtime.NumGoroutine") = false)
    (hN : fn.ntmps = N) (hr : fn.results = res.toArray) (hl : rs.length ≤ N) (hlo : lowL 0 rs = true) (x : XRun P T N none own c (XFm P T res r0) [] (argX rs) []) : Comp P f rs r0 := by
  refine ⟨hlo, ?_⟩
  obtain ⟨h1, h2⟩ := ACall.inl ok own hf hb hn hN hr hl x
  refine ⟨h1, fun E h β w vs s hrs => (h2 E h β w vs s hrs).mono ?_⟩
  rintro e w' ⟨r, H', h', β', v, rfl, hk, X, s', hrep⟩
  exact ⟨r0, [], hall h' β' H' w', β', v, rfl, ⟨rfl, rfl⟩, ⟨fun b o eb => hall_imm s' (X.imm b o eb), Nat.le_refl _, by simp⟩, s'.all, hk.o E h' β' w' s' v hrep⟩

theorem XRun.monoX (ok : TabOk P T) {c : Code} {Q Q' : Post} {D : List Nat} (hq : ∀ e D σ H, Q e D σ H → Q' e D σ H) (x : XRun P T N ρ own c Q D σ H) : AWp P N ρ c Q' D σ H := (XRun.sound ok x).mono hq
theorem ACall.inl0 {f : FuncId} {fn : Func} {c : Code} {rs : List AV} {res : List ResultVar} {k : AV → List Blk → Prop} (ok : TabOk P T) (own : List Nat) (hf : P.funcs[f]? = some fn) (hb : fn.body = some c) (hn : (fn.name == "runtime.NumGoroutine") = false)
    (hN : fn.ntmps = N) (hr : fn.results = res.toArray) (hl : rs.length ≤ N) (x : AWp P N none c (XIn T res k) [] (argX rs) H) : ACall P f rs H k := by
  refine ⟨⟨fn, hf, hn, by rw [hb]; rfl⟩, fun E h β w vs s hrs => ?_⟩
  refine (show CallsIn (FW none) 0 P f vs.toArray w (Ends P ⟨E.b, E.fr, h⟩ h β H k) from ?_).mono fun _ _ => Ends.unen
  refine callsIn_of_wp_marks hf hb trivial ?_ rfl
  have hsz : (vs.toArray ++ Array.replicate (fn.ntmps - vs.toArray.size) undef).size = N := by simp [hrs.1]; omega
  refine wpIn_mono (x ⟨E.b, E.fr, h⟩ h β _ w ⟨s.en h, fun t r e => ?_, hsz, ⟨fun _ _ e => e, .nil⟩⟩) ?_
  · rw [argX_eq] at e
    obtain ⟨v, h1, h2⟩ := hrs.2 t r e
    refine ⟨v, ?_, h2⟩
    rw [Array.getElem?_append_left (by simpa using (List.getElem?_eq_some_iff.1 h1).1)]; simpa using h1
  · rintro e a' w' ⟨D', σ', H', h', β', q, X, s'⟩
    have hq : (e = .normal ∨ e = .ret) ∧ xMarks D' H' fun H' => xRes T σ' H' fn.results.toList fun rs => k (pack rs) H' := by
      rw [hr]
      unfold XIn at q; split at q
      · exact ⟨.inl rfl, q⟩
      · exact ⟨.inr rfl, q⟩
      · exact q.elim
    obtain ⟨he, q⟩ := hq
    have hL : LeavesInM (FW none) 0 P fn a'.tmps (Ends P ⟨E.b, E.fr, h⟩ h β H k) a'.defers .returning w' :=
      leavesX ok (fun _ e => e) a'.defers D' h' β' H' w' X s'.sr s'.fits s'.df q
    rcases he with rfl | rfl <;> exact hL
theorem Comp.body {f : FuncId} {fn : Func} {c : Code} {rs : List AV} {res : List ResultVar} {r0 : AV} (ok : TabOk P T) (own : List Nat) (hf : P.funcs[f]? = some fn) (hb : fn.body = some c) (hn : (fn.name == "runtime.NumGoroutine") = false)
    (hN : fn.ntmps = N) (hr : fn.results = res.toArray) (hl : rs.length ≤ N) (hlo : lowL 0 rs = true) (x : XRun P T N none own c (XFn P T res r0) [] (argX rs) []) : Comp P f rs r0 := by
  refine ⟨hlo, ?_⟩
  obtain ⟨h1, h2⟩ := ACall.inl0 (k := fun r H => XOut P H r r0) ok own hf hb hn hN hr hl (XRun.monoX ok (fun e D σ H q => by
    unfold XFn at q
    split at q
    · exact q
    · exact q
    · exact q.elim) x)
  refine ⟨h1, fun E h β w vs s hrs => (h2 E h β w vs s hrs).mono ?_⟩
  rintro e w' ⟨r, H', h', β', v, rfl, hk, X, s', hrep⟩
  exact ⟨r0, [], hall h' β' H' w', β', v, rfl, ⟨rfl, rfl⟩, ⟨fun b o eb => hall_imm s' (X.imm b o eb), Nat.le_refl _, by simp⟩, s'.all, hk.o E h' β' w' s' v hrep⟩

theorem XCall.inl {f : FuncId} {fn : Func} {c : Code} {rs : List AV} {res : List ResultVar} {k : AV → List Blk → Prop} (ok : TabOk P T) (own : List Nat) (hf : P.funcs[f]? = some fn) (hb : fn.body = some c) (hn : (fn.name == "runtime.NumGoroutine") = false)
    (hN : fn.ntmps = N) (hr : fn.results = res.toArray) (hl : rs.length ≤ N) (x : XRun P T N none own c (XIn T res k) [] (argX rs) H) : XCall P f rs H k :=
  ⟨.inl ok own hf hb hn hN hr hl x⟩

theorem Walk.nilgr {c : Code} {Q : Post} {D : List Nat} (t : Nat) (te : TypeId) (ht : σ t = some (.sl true [])) (x : Walk P N ρ c Q D (updX σ t (.gr H.length 0)) (H ++ [.grow te true []])) : Walk P N ρ c Q D σ H := by
  constructor
  intro E h β a w s
  obtain ⟨s', X⟩ := s.sr.push (w' := w) s.sr.env (fun _ _ => rfl) (.slice none 0 0) (.grow te true []) (by intro b hb; simp [anchor] at hb) (fun _ => .inl ⟨rfl, rfl, by simp [upb]⟩)
  refine wpIn_mono (x.o E h _ a w ⟨s', fun u r e => ?_, s.size, s.df.ext X⟩) fun _ _ _ => Conc.ext X
  rw [updX_eq] at e; unfold upd at e
  split at e
  · rename_i hu; subst hu; cases e
    obtain ⟨v, h1, h2⟩ := s.fits u _ ht
    cases h2
    refine ⟨_, h1, .gr rfl (.push rfl) fun t' nl els e => ?_⟩
    rw [List.getElem?_append_right (Nat.le_refl _)] at e; simp at e; obtain ⟨_, _, rfl⟩ := e
    exact ⟨Nat.le_refl _, fun _ => by simp [upb]⟩
  · obtain ⟨v, h1, h2⟩ := s.fits u r e
    exact ⟨v, h1, X.rep h2⟩
end
end GA
end

section
namespace GA
open Go Go.RowKit
set_option linter.unusedVariables false

section
variable {P : Program} {T : Tab} {N : Nat} {ρ : Option Nat} {own : List Nat} {E : Env} {h : Nat → Option Obj} {β : Nat → Value} {H : List Blk} {w : World} {σ σ' : St} {a : Act}

def Knows (σ σ' : St) (l : List Operand) : Prop := ∀ t, Operand.tmp t ∈ l → ∀ r, σ t = some r → σ' t = some r
theorem Knows.ev {l : List Operand} (k : Knows σ σ' l) {x : Operand} (hx : x ∈ l) {r : AV} (e : ev σ x = some r) : ev σ' x = some r := by
  cases x with
  | tmp t => exact k t hx r e
  | _ => exact e
theorem Knows.evL {l : List Operand} (k : Knows σ σ' l) : ∀ {xs : List Operand} {rs : List AV}, (∀ x ∈ xs, x ∈ l) → evL σ xs = some rs → evL σ' xs = some rs
  | [], _, _, e => e
  | x :: xs, rs, hx, e => by
    unfold GA.evL at e ⊢
    split at e <;> cases e
    rename_i h1 h2
    rw [k.ev (hx x (by simp)) h1, k.evL (fun y hy => hx y (by simp [hy])) h2]
theorem Knows.evP {l : List Operand} (k : Knows σ σ' l) : ∀ {xs : List (Nat × Operand)} {rs : List (Nat × AV)}, (∀ x ∈ xs.map (·.2), x ∈ l) → evP σ xs = some rs → evP σ' xs = some rs
  | [], _, _, e => e
  | (i, x) :: xs, rs, hx, e => by
    unfold GA.evP at e ⊢
    split at e <;> cases e
    rename_i h1 h2
    rw [k.ev (hx x (by simp)) h1, k.evP (fun y hy => hx y (by simp at hy ⊢; exact .inr hy)) h2]
theorem Knows.evO {l : List Operand} (k : Knows σ σ' l) {x : Option Operand} {r : Option AV} (hx : ∀ y, x = some y → y ∈ l) (e : evO σ x = some r) : evO σ' x = some r := by
  cases x with
  | none => exact e
  | some y =>
    simp only [GA.evO] at e ⊢
    cases h1 : GA.ev σ y with
    | none => rw [h1] at e; cases e
    | some z => rw [h1] at e; rw [k.ev (hx y rfl) h1]; exact e

theorem Knows.b {l : List Operand} (k : Knows σ σ' l) {x : Operand} (hx : x ∈ l) {K : AV → Prop} (e : bnd (GA.ev σ x) K) : bnd (GA.ev σ' x) K := by
  obtain ⟨r, h1, h2⟩ := bnd_elim e; rw [k.ev hx h1]; exact h2
theorem AOp_look {op : Op} {d : Option Nat} {K : AV → List Blk → Prop} (k : Knows σ σ' op.operands.toList) (x : AOp P own d σ H K op) : AOp P own d σ' H K op := by
  cases op with
  | move a => exact k.b (by simp [Op.operands]) x
  | assign a => exact k.b (by simp [Op.operands]) x
  | pick c a b =>
    refine bnd_mono (k.b (x := c) (by simp [Op.operands]) x) fun r _ h => ?_
    split at h
    · exact ⟨fun e => k.b (by simp [Op.operands]) (h.1 e), fun e => k.b (by simp [Op.operands]) (h.2 e)⟩
    · exact h
  | alloc t => exact x
  | box t a => exact k.b (by simp [Op.operands]) x
  | build t ps => obtain ⟨r, h1, h2⟩ := bnd_elim x; show bnd _ _; rw [k.evP (by simp [Op.operands]) h1]; exact h2
  | buildSlice t n ps => obtain ⟨r, h1, h2⟩ := bnd_elim x; show bnd _ _; rw [k.evP (by simp [Op.operands]) h1]; exact h2
  | load t a => exact k.b (by simp [Op.operands]) x
  | store t a v => exact bnd_mono (k.b (x := a) (by simp [Op.operands]) x) fun r _ h => k.b (by simp [Op.operands]) h
  | nilCheck a => exact k.b (by simp [Op.operands]) x
  | binOp op t a b y => exact bnd_mono (k.b (x := a) (by simp [Op.operands]) x) fun r _ h => k.b (by simp [Op.operands]) h
  | unOp op t a => exact k.b (by simp [Op.operands]) x
  | convert s d a => exact k.b (by simp [Op.operands]) x
  | makeFunc fn first caps =>
    cases fn with
    | func f =>
      obtain ⟨h0, h⟩ := x
      obtain ⟨r, h1, h2⟩ := bnd_elim h
      refine ⟨h0, ?_⟩
      rw [k.evL (by simp [Op.operands]; exact fun _ h => .inr h) h1]; exact h2
    | _ => exact x
  | makeSlice t a b => exact bnd_mono (k.b (x := a) (by simp [Op.operands]) x) fun r _ h => k.b (by simp [Op.operands]) h
  | slice t a lo hi mx =>
    refine bnd_mono (k.b (x := a) (by simp [Op.operands]) x) fun r _ h => ?_
    obtain ⟨l1, g1, h⟩ := bnd_elim h
    obtain ⟨l2, g2, h⟩ := bnd_elim h
    obtain ⟨l3, g3, h⟩ := bnd_elim h
    rw [k.evO (by rintro y rfl; simp [Op.operands]) g1, bnd_some, k.evO (by rintro y rfl; simp [Op.operands]) g2, bnd_some, k.evO (by rintro y rfl; simp [Op.operands]) g3, bnd_some]
    exact h
  | fieldAddr t a f => exact k.b (by simp [Op.operands]) x
  | field t a f => exact k.b (by simp [Op.operands]) x
  | indexAddr t a b => exact bnd_mono (k.b (x := a) (by simp [Op.operands]) x) fun r _ h => k.b (by simp [Op.operands]) h
  | index t a b => exact bnd_mono (k.b (x := a) (by simp [Op.operands]) x) fun r _ h => k.b (by simp [Op.operands]) h
  | extract a i => exact k.b (by simp [Op.operands]) x
  | makeMap t r => exact x
  | lookup t a b ok => exact bnd_mono (k.b (x := a) (by simp [Op.operands]) x) fun r _ h => k.b (by simp [Op.operands]) h
  | mapUpdate t m a b => exact bnd_mono (k.b (x := m) (by simp [Op.operands]) x) fun r _ h => bnd_mono (k.b (x := a) (by simp [Op.operands]) h) fun r _ h => k.b (by simp [Op.operands]) h
  | insert t m a b => exact bnd_mono (k.b (x := m) (by simp [Op.operands]) x) fun r _ h => bnd_mono (k.b (x := a) (by simp [Op.operands]) h) fun r _ h => k.b (by simp [Op.operands]) h
  | call c =>
    obtain ⟨callee, args, argTypes⟩ := c
    change opCall P σ H _ K at x
    change opCall P σ' H _ K
    unfold opCall at x ⊢
    cases callee with
    | value f =>
      refine bnd_mono (k.b (x := f) (by simp [Op.operands, Call.operands]) x) fun fv _ h => ?_
      obtain ⟨rs, h1, h2⟩ := bnd_elim h
      rw [k.evL (by simp [Op.operands, Call.operands]; exact fun _ h => .inr h) h1]; exact h2
    | builtin b =>
      obtain ⟨rs, h1, h2⟩ := bnd_elim x
      simp only
      rw [k.evL (by simp [Op.operands, Call.operands]) h1]; exact h2
    | invoke r m => exact x
  | _ => exact x
end
end GA
end

section
namespace GA
open Go Go.RowKit
set_option linter.unusedVariables false

def dep (o : Oper) (j : Nat) : Bool := o.after.toList.any fun e => Region.binds .any e && Nat.beq e.on j
def flagsOf (eff : List Nat) (listed : Array Bool) : List Bool := eff.map fun j => listed.getD j false
def setF (eff : List Nat) (i : Nat) (fl : List Bool) : List Bool := List.zipWith (fun j b => b || Nat.beq j i) eff fl
def opAt (ops : List Oper) (j : Nat) (f : Oper → Bool) : Bool := match lget ops j with | some o => f o | none => true
def compat (ops : List Oper) (eff : List Nat) (i : Nat) (fl : List Bool) : Bool :=
  (eff.zip fl).all fun (j, b) =>
    (opAt ops i fun o => !dep o j || b) && (!Nat.beq j i || !b) && (opAt ops j fun o => !dep o i || !b) &&
    (!b || (eff.zip fl).all fun (j', b') => opAt ops j fun o => !dep o j' || b')

structure XSame (r : AV) (H : List Blk) (r0 : AV) (H0 : List Blk) : Prop where
  r : r = r0
  h : H = H0

section
variable (P : Program) (T : Tab) (N : Nat) (own : List Nat) (ops : List Oper) (eff : List Nat) (HS : List Bool → List Blk)
def Chk (i : Nat) (o : Oper) (σ : St) (r : AV) (fl : List Bool) : Prop :=
  xGate ops σ o.guard (fun σ => XOp P T own o.dst σ (HS fl) (fun r' H' => XSame r' H' r (HS (setF eff i fl))) o.op) (fun _ => XSame (.tup []) (HS fl) r (HS (setF eff i fl)))
def ChkAll : Nat → List Oper → List AV → St → Prop
  | _, [], [], _ => True
  | i, o :: l, r :: R, σ => (∀ fl, fl.length = eff.length → compat ops eff i fl = true → Chk P T own ops eff HS i o σ r fl) ∧ ChkAll (i + 1) l R (putX N σ o.dst r)
  | _, _, _, _ => False
end
def xFold (N : Nat) : List Oper → List AV → St → St
  | o :: l, r :: R, σ => xFold N l R (putX N σ o.dst r)
  | _, _, σ => σ

section
variable {P : Program} {T : Tab} {N : Nat} {ρ : Option Nat} {own : List Nat} {E : Env} {h : Nat → Option Obj} {β : Nat → Value} {H : List Blk} {w : World} {σ σ' : St} {a : Act} {ops : List Oper} {eff : List Nat} {HS : List Bool → List Blk}

theorem ChkAll.get : ∀ {l : List Oper} {R : List AV} {i : Nat} {σ : St}, ChkAll P T N own ops eff HS i l R σ → l.length = R.length ∧ ∀ (j : Nat) o, l[j]? = some o → ∃ r, R[j]? = some r ∧
      ∀ fl, fl.length = eff.length → compat ops eff (i + j) fl = true → Chk P T own ops eff HS (i + j) o (xFold N (l.take j) (R.take j) σ) r fl
  | [], [], _, _, _ => ⟨rfl, by simp⟩
  | o :: l, r :: R, i, σ, h => by
    obtain ⟨h1, h2⟩ := h
    obtain ⟨h3, h4⟩ := ChkAll.get h2
    refine ⟨by simp [h3], fun j o' e => ?_⟩
    cases j with
    | zero => simp at e; subst e; exact ⟨r, rfl, h1⟩
    | succ j =>
      obtain ⟨r', e1, e2⟩ := h4 j o' (by simpa using e)
      refine ⟨r', by simpa using e1, fun fl hf hc => ?_⟩
      have := e2 fl hf (by rwa [show i + 1 + j = i + (j + 1) by omega])
      rw [show i + 1 + j = i + (j + 1) by omega] at this
      exact this
  | [], _ :: _, _, _, h => h.elim
  | _ :: _, [], _, _, h => h.elim

theorem putX_get {N : Nat} {σ : St} {d : Option Nat} {r x : AV} {t : Nat} (e : putX N σ d r t = some x) : (d = some t ∧ t < N ∧ x = r) ∨ ((d ≠ some t ∨ ¬ t < N) ∧ σ t = some x) := by
  rw [putX_eq] at e
  cases d with
  | none => exact .inr ⟨.inl (by simp), e⟩
  | some d =>
    simp only [putO] at e
    split at e
    · rename_i hd; unfold upd at e; split at e
      · rename_i ht; subst ht; cases e; exact .inl ⟨rfl, hd, rfl⟩
      · rename_i ht; exact .inr ⟨.inl (by intro hh; cases hh; exact ht rfl), e⟩
    · rename_i hd
      by_cases ht : d = t
      · subst ht; exact .inr ⟨.inr hd, e⟩
      · exact .inr ⟨.inl (by intro hh; cases hh; exact ht rfl), e⟩

theorem xFold_get {N : Nat} : ∀ {l : List Oper} {R : List AV} {σ : St} {t : Nat} {x : AV}, l.length = R.length → xFold N l R σ t = some x →
    (∃ (j : Nat) (o : Oper), l[j]? = some o ∧ o.dst = some t ∧ t < N ∧ R[j]? = some x ∧ ∀ (k : Nat) o', l[k]? = some o' → j < k → o'.dst ≠ some t) ∨
    ((∀ (k : Nat) o', l[k]? = some o' → o'.dst ≠ some t ∨ ¬ t < N) ∧ σ t = some x)
  | [], R, σ, t, x, hl, e => by
    right; refine ⟨by simp, ?_⟩
    cases R <;> exact e
  | o :: l, [], _, _, _, hl, _ => by simp at hl
  | o :: l, r :: R, σ, t, x, hl, e => by
    rcases xFold_get (l := l) (R := R) (by simpa using hl) e with ⟨j, o', h1, h2, h3, h4, h5⟩ | ⟨h1, h2⟩
    · left
      refine ⟨j + 1, o', by simpa using h1, h2, h3, by simpa using h4, fun k o'' hk hj => ?_⟩
      cases k with
      | zero => omega
      | succ k => exact h5 k o'' (by simpa using hk) (by omega)
    · rcases putX_get h2 with ⟨g1, g2, g3⟩ | ⟨g1, g2⟩
      · left
        refine ⟨0, o, rfl, g1, g2, by simp [g3], fun k o' hk hj => ?_⟩
        cases k with
        | zero => omega
        | succ k =>
          rcases h1 k o' (by simpa using hk) with h | h
          · exact h
          · exact absurd g2 h
      · right
        refine ⟨fun k o' hk => ?_, g2⟩
        cases k with
        | zero => simp at hk; subst hk; exact g1
        | succ k => exact h1 k o' (by simpa using hk)

theorem lex_spec {ops : Array Oper} : ∀ (fuel k : Nat) (listed : Array Bool), listed.size = ops.size → (∀ j, listed.getD j true = false ↔ k ≤ j ∧ j < ops.size) → k + fuel = ops.size → Region.lexFrom .any ops fuel k listed = true →
    ∀ i o, k ≤ i → ops[i]? = some o → (∀ e ∈ o.after, Region.binds .any e = true → e.on < i) ∧ ∀ (j : Nat) oj, i < j → ops[j]? = some oj → (∀ e ∈ oj.after, Region.binds .any e = true → e.on ≠ i) → o.apart ops oj = true
  | 0, k, listed, _, _, hk, _, i, o, hi, ho => by have := (Array.getElem?_eq_some_iff.1 ho).1; omega
  | fuel + 1, k, listed, hs, hl, hk, hB, i, o, hi, ho => by
    simp only [Region.lexFrom, Bool.and_eq_true] at hB
    obtain ⟨⟨hr, hf⟩, hB'⟩ := hB
    rcases Nat.lt_or_eq_of_le hi with hlt | rfl
    · refine lex_spec fuel (k + 1) (listed.setIfInBounds k true) (by simpa using hs) (fun j => ?_) (by omega) hB' i o (by omega) ho
      by_cases hjk : k = j
      · subst hjk
        have : k < listed.size := by omega
        simp [this]; omega
      · rw [getD_set_ne true hjk, hl j]; omega
    · have hr' : k ∈ Region.ready .any ops listed := by simpa using hr
      obtain ⟨_, o', ho', hall⟩ := mem_ready.1 hr'
      rw [ho] at ho'; cases ho'
      refine ⟨fun e he hb => ?_, fun j oj hj hoj hno => Region.free_spec ho hf j oj hoj (by omega) ((hl j).2 ⟨by omega, (Array.getElem?_eq_some_iff.1 hoj).1⟩) hno⟩
      have h1 := hall e he hb
      rcases Nat.lt_or_ge e.on k with h | h
      · exact h
      · exfalso
        rcases Nat.lt_or_ge e.on ops.size with h' | h'
        · have h2 := (hl e.on).2 ⟨h, h'⟩
          simp at h1 h2
          rcases Nat.lt_or_ge e.on listed.size with h3 | h3
          · simp [h3] at h1 h2; rw [h2] at h1; cases h1
          · simp [Array.getElem?_eq_none h3] at h1
        · have h3 : listed.size ≤ e.on := by omega
          simp [Array.getElem?_eq_none h3] at h1
end
end GA
end

section
namespace GA
open Go Go.RowKit
set_option linter.unusedVariables false

section
variable {P : Program} {T : Tab} {N : Nat} {ρ : Option Nat} {own : List Nat} {E : Env} {h : Nat → Option Obj} {β : Nat → Value} {H : List Blk} {w : World} {σ σ' : St} {a : Act} {ops : List Oper} {eff : List Nat} {HS : List Bool → List Blk}

def isL (listed : Array Bool) (j : Nat) : Prop := listed.getD j false = true
def Closed (ops : List Oper) (listed : Array Bool) : Prop := ∀ (j : Nat) o, ops[j]? = some o → isL listed j → ∀ e ∈ o.after, Region.binds .any e = true → isL listed e.on
structure DInv (P : Program) (E : Env) (N : Nat) (ops : List Oper) (eff : List Nat) (HS : List Bool → List Blk) (R : List AV) (σ : St) (a0 : Act) (h0 : Nat → Option Obj) (β0 : Nat → Value) (H0 : List Blk) (listed : Array Bool) (a : Act) (w : World) : Prop where
  size : listed.size = ops.length
  closed : Closed ops listed
  st : ∃ h β, Ext h0 β0 H0 h β (HS (flagsOf eff listed)) ∧ SR P E h β (HS (flagsOf eff listed)) w ∧
    (∀ t r, σ t = some r → (∀ (j : Nat) o, ops[j]? = some o → isL listed j → o.dst ≠ some t ∨ ¬ t < N) → ∃ v, a.tmps[t]? = some v ∧ Rep P h β (HS (flagsOf eff listed)) r v) ∧
    (∀ (j : Nat) o d r, ops[j]? = some o → isL listed j → o.dst = some d → d < N → R[j]? = some r → (∀ (k : Nat) ok, ops[k]? = some ok → isL listed k → j < k → ok.dst ≠ some d) → ∃ v, a.tmps[d]? = some v ∧ Rep P h β (HS (flagsOf eff listed)) r v)
  keeps : Keeps a0 a

theorem dep_iff {o : Oper} {j : Nat} : dep o j = true ↔ ∃ e ∈ o.after, Region.binds .any e = true ∧ e.on = j := by
  unfold dep; rw [List.any_eq_true]
  constructor
  · rintro ⟨e, h1, h2⟩
    simp only [Bool.and_eq_true] at h2
    exact ⟨e, by simpa using h1, h2.1, Nat.eq_of_beq_eq_true h2.2⟩
  · rintro ⟨e, h1, h2, h3⟩
    exact ⟨e, by simpa using h1, by subst h3; simp [h2]⟩
theorem flags_zip {listed : Array Bool} {p : Nat × Bool} : ∀ {eff : List Nat}, p ∈ eff.zip (flagsOf eff listed) → p.2 = listed.getD p.1 false
  | [], h => by simp at h
  | j :: eff, h => by
    simp only [flagsOf, List.map_cons, List.zip_cons_cons] at h
    rcases List.mem_cons.1 h with h | h
    · subst h; rfl
    · exact flags_zip h
theorem opAt_spec {j : Nat} {f : Oper → Bool} (h : ∀ o, ops[j]? = some o → f o = true) : opAt ops j f = true := by
  unfold opAt; rw [lget_eq]; split
  · rename_i e; exact h _ e
  · rfl
theorem compat_flags {listed : Array Bool} {i : Nat} (hc : Closed ops listed) (hi : ¬ isL listed i) (hr : ∀ o, ops[i]? = some o → ∀ e ∈ o.after, Region.binds .any e = true → isL listed e.on) : compat ops eff i (flagsOf eff listed) = true := by
  unfold compat
  rw [List.all_eq_true]
  rintro ⟨j, b⟩ hp
  have hb := flags_zip hp
  simp only at hb; subst hb
  simp only [Bool.and_eq_true]
  refine ⟨⟨⟨opAt_spec fun o ho => ?_, ?_⟩, opAt_spec fun o ho => ?_⟩, ?_⟩
  · cases hd : dep o j with
    | false => rfl
    | true => obtain ⟨e, h1, h2, h3⟩ := dep_iff.1 hd; have := hr o ho e h1 h2; rw [h3] at this; simpa [isL] using this
  · cases hd : Nat.beq j i with
    | false => rfl
    | true => have := Nat.eq_of_beq_eq_true hd; subst this; simpa [isL] using hi
  · cases hd : dep o i with
    | false => rfl
    | true =>
      obtain ⟨e, h1, h2, h3⟩ := dep_iff.1 hd
      cases hl : listed.getD j false with
      | false => rfl
      | true => exact absurd (h3 ▸ hc j o ho hl e h1 h2) hi
  · cases hl : listed.getD j false with
    | false => rfl
    | true =>
      simp only [Bool.not_true, Bool.false_or]
      rw [List.all_eq_true]
      rintro ⟨j', b'⟩ hp'
      have hb' := flags_zip hp'
      simp only at hb'; subst hb'
      refine opAt_spec fun o ho => ?_
      cases hd : dep o j' with
      | false => rfl
      | true => obtain ⟨e, h1, h2, h3⟩ := dep_iff.1 hd; have := hc j o ho hl e h1 h2; rw [h3] at this; simpa [isL] using this

theorem isL_set {listed : Array Bool} {i j : Nat} (hi : i < listed.size) : isL (listed.setIfInBounds i true) j ↔ j = i ∨ isL listed j := by
  unfold isL
  by_cases h : i = j
  · subst h; simp [hi]
  · rw [getD_set_ne false h]; simp [Ne.symm h]
theorem flags_set {listed : Array Bool} {i : Nat} (hi : i < listed.size) : ∀ (eff : List Nat), flagsOf eff (listed.setIfInBounds i true) = setF eff i (flagsOf eff listed)
  | [] => rfl
  | j :: eff => by
    simp only [flagsOf, setF, List.map_cons, List.zipWith_cons_cons]
    congr 1
    · by_cases h : i = j
      · subst h; simp [hi]
      · rw [getD_set_ne false h]
        cases hb : Nat.beq j i with
        | true => exact absurd (Nat.eq_of_beq_eq_true hb).symm h
        | false => simp
    · exact flags_set hi eff

theorem DInv.step {R : List AV} {a0 : Act} {h0 : Nat → Option Obj} {β0 : Nat → Value} {H0 : List Blk} {Q : Exit → Act → World → Prop} (ok : TabOk P T) (hN : a0.tmps.size = N)
    (hlex : ∀ (i : Nat) o, ops[i]? = some o → ∀ (j : Nat) oj, i < j → ops[j]? = some oj → (∀ e ∈ oj.after, Region.binds .any e = true → e.on ≠ i) → o.apart ops.toArray oj = true)
    (hchk : ChkAll P T N own ops eff HS 0 ops R σ) {listed : Array Bool} {a : Act} {w : World} (I : DInv P E N ops eff HS R σ a0 h0 β0 H0 listed a w) {i : Nat} (hi : i ∈ Region.ready .any ops.toArray listed) :
    wpOpIn (FW ρ) 0 P ops.toArray Q i (DInv P E N ops eff HS R σ a0 h0 β0 H0 (listed.setIfInBounds i true)) a w := by
  obtain ⟨hnot, o, ho, hall⟩ := mem_ready.1 hi
  have ho' : ops[i]? = some o := by simpa using ho
  have hilt : i < ops.length := (List.getElem?_eq_some_iff.1 ho').1
  have hils : i < listed.size := by rw [I.size]; exact hilt
  have hni : ¬ isL listed i := by unfold isL; simp [hils] at hnot ⊢; exact hnot
  obtain ⟨hRl, hget⟩ := hchk.get
  obtain ⟨r, hr, hc⟩ := hget i o ho'
  rw [Nat.zero_add] at hc
  have hC := hc (flagsOf eff listed) (by simp [flagsOf]) (compat_flags I.closed hni fun o' h e he hb => by rw [ho'] at h; cases h; exact hall e he hb)
  obtain ⟨h, β, X, s, K1, K2⟩ := I.st
  -- edges
  have edge : ∀ (j : Nat) oj, ops[j]? = some oj → i < j → isL listed j → o.apart ops.toArray oj = true := fun j oj hj hij hl =>
    hlex i o ho' j oj hij hj fun e he hb heq => hni (heq ▸ I.closed j oj hj hl e he hb)
  have edge' : ∀ (j : Nat) oj, ops[j]? = some oj → j < i → ¬ isL listed j → oj.apart ops.toArray o = true := fun j oj hj hij hl =>
    hlex j oj hj i o hij ho' fun e he hb heq => hl (heq ▸ hall e he hb)
  -- what is looked at
  let σ₁ := xFold N (ops.take i) (R.take i) σ
  let σ₂ : St := fun t => if t ∈ o.looksAt ops.toArray then σ₁ t else none
  have hF : Fits P h β (HS (flagsOf eff listed)) σ₂ a := by
    intro t x ex
    simp only [σ₂] at ex
    split at ex
    · rename_i hlook
      rcases xFold_get (by simp [hRl]) ex with ⟨j, oj, h1, h2, h3, h4, h5⟩ | ⟨h1, h2⟩
      · have hji : j < i := by have := (List.getElem?_eq_some_iff.1 h1).1; simp at this; omega
        have h1' : ops[j]? = some oj := by rw [List.getElem?_take, if_pos hji] at h1; exact h1
        have h4' : R[j]? = some x := by rw [List.getElem?_take, if_pos hji] at h4; exact h4
        have hjl : isL listed j := by
          by_cases hl : isL listed j
          · exact hl
          · exact absurd hlook ((Oper.apart_spec (edge' j oj h1' hji hl)).1 t h2)
        refine K2 j oj t x h1' hjl h2 h3 h4' fun k ok hk hkl hjk => ?_
        rcases Nat.lt_trichotomy k i with hki | rfl | hki
        · exact h5 k ok (by rw [List.getElem?_take, if_pos hki]; exact hk) hjk
        · exact absurd hkl hni
        · intro hd; exact (Oper.apart_spec (edge k ok hk hki hkl)).2.2 t hd hlook
      · refine K1 t x h2 fun j oj hj hjl => ?_
        rcases Nat.lt_trichotomy j i with hji | rfl | hji
        · exact h1 j oj (by rw [List.getElem?_take, if_pos hji]; exact hj)
        · exact absurd hjl hni
        · left; intro hd; exact (Oper.apart_spec (edge j oj hj hji hjl)).2.2 t hd hlook
    · cases ex
  have hk2 : Knows σ₁ σ₂ o.op.operands.toList := by
    intro t ht x ex
    have : t ∈ o.looksAt ops.toArray := by
      unfold Oper.looksAt; rw [List.mem_append]; left; rw [List.mem_filterMap]; exact ⟨.tmp t, ht, rfl⟩
    simp only [σ₂]; rw [if_pos this]; exact ex
  have hg1 := xGate_gate hC
  have hg2 : gate ops σ₂ o.guard (XOp P T own o.dst σ₁ (HS (flagsOf eff listed)) (fun r' H' => XSame r' H' r (HS (setF eff i (flagsOf eff listed)))) o.op) (XSame (.tup []) (HS (flagsOf eff listed)) r (HS (setF eff i (flagsOf eff listed)))) := by
    unfold gate at hg1 ⊢
    cases hgd : o.guard with
    | none => rw [hgd] at hg1; exact hg1
    | some p =>
      obtain ⟨j, want⟩ := p
      rw [hgd] at hg1
      obtain ⟨d, e1, e2⟩ := bnd_elim hg1
      obtain ⟨x, e3, e4⟩ := bnd_elim e2
      have : d ∈ o.looksAt ops.toArray := by
        unfold Oper.looksAt; rw [List.mem_append]; right; rw [hgd]; simp only [List.getElem?_toArray, e1]; simp
      have e5 : σ₂ d = some x := by simp only [σ₂]; rw [if_pos this]; exact e3
      simp only [e1, bnd_some, e5]; exact e4
  -- the next state
  have next : ∀ (v : Value) h' β' w', Ext h β (HS (flagsOf eff listed)) h' β' (HS (setF eff i (flagsOf eff listed))) → SR P E h' β' (HS (setF eff i (flagsOf eff listed))) w' → Rep P h' β' (HS (setF eff i (flagsOf eff listed))) r v →
      DInv P E N ops eff HS R σ a0 h0 β0 H0 (listed.setIfInBounds i true) (a.put o.dst v) w' := by
    intro v h' β' w' X' s' hrep
    have hsz : a.tmps.size = N := I.keeps.size.trans hN
    refine ⟨by simpa using I.size, fun j oj hj hl e he hb => ?_, ⟨h', β', ?_, ?_, ?_, ?_⟩, ⟨(size_put _ _ _).trans I.keeps.size, (defers_put _ _ _).trans I.keeps.defers⟩⟩
    · rw [isL_set hils] at hl ⊢
      rcases hl with rfl | hl
      · rw [ho'] at hj; cases hj; exact .inr (hall e he hb)
      · exact .inr (I.closed j oj hj hl e he hb)
    · rw [flags_set hils]; exact X.trans X'
    · rw [flags_set hils]; exact s'
    · rw [flags_set hils]
      intro t x ex hno
      obtain ⟨u, g1, g2⟩ := K1 t x ex fun j oj hj hl => hno j oj hj ((isL_set hils).2 (.inr hl))
      refine ⟨u, ?_, X'.rep g2⟩
      have hd := hno i o ho' ((isL_set hils).2 (.inl rfl))
      cases hdst : o.dst with
      | none => exact g1
      | some d =>
        simp only [Act.put]
        by_cases hdt : d = t
        · subst hdt
          rcases hd with hd | hd
          · exact absurd hdst hd
          · rw [Array.setIfInBounds_eq_of_size_le (by omega)]; exact g1
        · rw [Array.getElem?_setIfInBounds_ne hdt]; exact g1
    · rw [flags_set hils]
      intro j oj d x hj hl hd hdN hx hlast
      rw [isL_set hils] at hl
      by_cases hji : j = i
      · subst hji
        rw [ho'] at hj; cases hj
        rw [hr] at hx; cases hx
        exact ⟨v, by rw [hd]; simp [Act.put, hsz, hdN], hrep⟩
      · have hl : isL listed j := hl.resolve_left hji
        obtain ⟨u, g1, g2⟩ := K2 j oj d x hj hl hd hdN hx fun k ok hk hkl hjk => hlast k ok hk ((isL_set hils).2 (.inr hkl)) hjk
        refine ⟨u, ?_, X'.rep g2⟩
        have hne : o.dst ≠ some d := by
          intro hod
          rcases Nat.lt_trichotomy j i with hlt | heq | hlt
          · exact hlast i o ho' ((isL_set hils).2 (.inl rfl)) hlt hod
          · exact hji heq
          · exact (Oper.apart_spec (edge j oj hj hlt hl)).2.1 d hod hd
        cases hdst : o.dst with
        | none => exact g1
        | some d' =>
          simp only [Act.put]
          rw [Array.getElem?_setIfInBounds_ne (fun e => hne (by rw [hdst, e]))]; exact g1
  unfold wpOpIn
  simp only [ho]
  rcases gate_wanted hF hg2 with ⟨hw, hA⟩ | ⟨hw, hB⟩
  · rw [if_pos hw]
    refine AOp.sound (AOp_look hk2 (hA.sound ok)) s hF ?_
    intro r' H' h' β' w' v hk' X' s' hrep
    obtain ⟨e1, e2⟩ := hk'
    subst e1; subst e2
    exact next v h' β' w' X' s' hrep
  · rw [if_neg (by rw [hw]; simp)]
    refine ⟨fun _ _ => trivial, ?_⟩
    obtain ⟨e1, e2⟩ := hB
    refine next undef h β w ?_ ?_ ?_
    · rw [← e2]; exact Ext.refl _ _ _
    · rw [← e2]; exact s
    · rw [← e1]; exact rep_undef

theorem unl_zero {listed : Array Bool} (h : (List.range listed.size).countP (fun j => !listed.getD j false) = 0) {j : Nat} (hj : j < listed.size) : isL listed j := by
  rw [List.countP_eq_zero] at h
  have := h j (by simpa using hj)
  simpa [isL] using this
theorem unl_set {listed : Array Bool} {i : Nat} (hi : i < listed.size) (hn : ¬ isL listed i) :
    (List.range (listed.setIfInBounds i true).size).countP (fun j => !(listed.setIfInBounds i true).getD j false) + 1 = (List.range listed.size).countP (fun j => !listed.getD j false) := by
  have e : ∀ n, n ≤ listed.size → (List.range n).countP (fun j => !(listed.setIfInBounds i true).getD j false) + (if i < n then 1 else 0) = (List.range n).countP (fun j => !listed.getD j false) := by
    intro n
    induction n with
    | zero => intro _; simp
    | succ n ih =>
      intro hn'
      have ih := ih (by omega)
      rw [List.range_succ, List.countP_append, List.countP_append, ← ih]
      by_cases h : i = n
      · subst h
        have h1 : listed.getD i false = false := by unfold isL at hn; simpa using hn
        have h2 : (listed.setIfInBounds i true).getD i false = true := by simp [hi]
        simp only [List.countP_cons, List.countP_nil, h1, h2]
        simp
      · rw [show List.countP (fun j => !(listed.setIfInBounds i true).getD j false) [n] = List.countP (fun j => !listed.getD j false) [n] by simp only [List.countP_cons, List.countP_nil, getD_set_ne false h]]
        split <;> split <;> omega
  have := e listed.size (Nat.le_refl _)
  rw [if_pos hi] at this
  simpa using this

theorem DInv.any {R : List AV} {a0 : Act} {h0 : Nat → Option Obj} {β0 : Nat → Value} {H0 : List Blk} {Q : Exit → Act → World → Prop} (ok : TabOk P T) (hN : a0.tmps.size = N) (hs : Region.lexB .any ops.toArray = true)
    (hchk : ChkAll P T N own ops eff HS 0 ops R σ) (hQ : ∀ listed a w, DInv P E N ops eff HS R σ a0 h0 β0 H0 listed a w → (∀ j, j < ops.length → isL listed j) → Q .normal a w) :
    ∀ (fuel : Nat) (listed : Array Bool) (a : Act) (w : World), (List.range listed.size).countP (fun j => !listed.getD j false) = fuel → DInv P E N ops eff HS R σ a0 h0 β0 H0 listed a w → wpAnyIn (FW ρ) 0 P .any ops.toArray Q fuel listed a w := by
  simp only [Region.lexB, Bool.and_eq_true] at hs
  have hspec := lex_spec (ops := ops.toArray) ops.toArray.size 0 (Array.replicate ops.toArray.size false) (by simp) (fun j => by
    simp only [Array.getD_eq_getD_getElem?, Array.getElem?_replicate]
    split <;> simp_all) (by simp) hs.2
  have hlex : ∀ (i : Nat) o, ops[i]? = some o → ∀ (j : Nat) oj, i < j → ops[j]? = some oj → (∀ e ∈ oj.after, Region.binds .any e = true → e.on ≠ i) → o.apart ops.toArray oj = true :=
    fun i o ho j oj hij hj hno => (hspec i o (Nat.zero_le _) (by simpa using ho)).2 j oj hij (by simpa using hj) hno
  -- who is ready when nobody is
  have hready : ∀ listed a w, DInv P E N ops eff HS R σ a0 h0 β0 H0 listed a w → Region.ready .any ops.toArray listed = [] → ∀ j, j < ops.length → isL listed j := by
    intro listed a w I hr j
    induction j using Nat.strongRecOn with
    | _ j ih =>
      intro hj
      by_cases hl : isL listed j
      · exact hl
      · exfalso
        have : j ∈ Region.ready .any ops.toArray listed := by
          rw [mem_ready]
          refine ⟨?_, ops[j], by simp [hj], fun e he hb => ?_⟩
          · have hjs : j < listed.size := by rw [I.size]; exact hj
            unfold isL at hl; simp [hjs] at hl ⊢; exact hl
          · have h1 := (hspec j ops[j] (Nat.zero_le _) (by simp [hj])).1 e he hb
            exact ih e.on h1 (by omega)
        rw [hr] at this; cases this
  intro fuel
  induction fuel with
  | zero =>
    intro listed a w hc I
    have hall : ∀ j, j < ops.length → isL listed j := fun j hj => unl_zero hc (by rw [I.size]; exact hj)
    refine ⟨?_, hQ listed a w I hall⟩
    cases hr : Region.ready .any ops.toArray listed with
    | nil => rfl
    | cons j l =>
      have : j ∈ Region.ready .any ops.toArray listed := by rw [hr]; simp
      obtain ⟨h1, o, h2, _⟩ := mem_ready.1 this
      have hj : j < ops.length := by have := (Array.getElem?_eq_some_iff.1 h2).1; simpa using this
      have hjs : j < listed.size := by rw [I.size]; exact hj
      have := hall j hj
      unfold isL at this; simp [hjs] at h1 this; rw [h1] at this; cases this
  | succ fuel ih =>
    intro listed a w hc I
    refine ⟨fun hr => hQ listed a w I (hready listed a w I hr), fun i hi => ?_⟩
    obtain ⟨h1, o, h2, _⟩ := mem_ready.1 hi
    have hj : i < ops.length := by have := (Array.getElem?_eq_some_iff.1 h2).1; simpa using this
    have hjs : i < listed.size := by rw [I.size]; exact hj
    have hn : ¬ isL listed i := by unfold isL; simp [hjs] at h1 ⊢; exact h1
    refine wpOpIn_mono (fun a' w' I' => ih _ a' w' ?_ I') (DInv.step ok hN hlex hchk I hi)
    have := unl_set hjs hn
    omega

theorem Walk.draw {id : Nat} {Q : Post} {D : List Nat} (ok : TabOk P T) (hm : P.follows .mixedOrders = true) (own : List Nat) (eff : List Nat) (HS : List Bool → List Blk) (R : List AV) (hs : Region.lexB .any ops.toArray = true)
    (hH : HS (eff.map fun _ => false) = H) (hchk : ChkAll P T N own ops eff HS 0 ops R σ) (hk : Q .normal D (xFold N ops R σ) (HS (eff.map fun j => Nat.blt j ops.length))) : Walk P N ρ (.region id ops.toArray true) Q D σ H := by
  constructor
  intro E h β a w s
  have hfl0 : flagsOf eff (Array.replicate ops.toArray.size false) = eff.map fun _ => false := by
    unfold flagsOf; apply List.map_congr_left; intro j _
    simp only [Array.getD_eq_getD_getElem?, Array.getElem?_replicate]; split <;> rfl
  have hnl : ∀ j, ¬ isL (Array.replicate ops.toArray.size false) j := by
    intro j; unfold isL
    simp only [Array.getD_eq_getD_getElem?, Array.getElem?_replicate]; split <;> simp
  have I0 : DInv P E N ops eff HS R σ a h β H (Array.replicate ops.toArray.size false) a { w with drawn := w.drawn + 1 } := by
    refine ⟨by simp, fun j o _ hl => absurd hl (hnl j), ⟨h, β, ?_, ?_, fun t r e _ => ?_, fun j o d r _ hl => absurd hl (hnl j)⟩, ⟨rfl, rfl⟩⟩
    · rw [hfl0, hH]; exact Ext.refl _ _ _
    · rw [hfl0, hH]; exact s.sr.drew
    · rw [hfl0, hH]; exact s.fits t r e
  have hcnt : (List.range (Array.replicate ops.toArray.size false).size).countP (fun j => !(Array.replicate ops.toArray.size false).getD j false) = ops.toArray.size := by
    rw [List.countP_eq_length.2]
    · simp
    · intro j _; have := hnl j; unfold isL at this; simpa using this
  refine wpIn_region_any hm (DInv.any ok s.size hs hchk (fun listed a' w' I hall => ?_) _ _ a _ hcnt I0)
  obtain ⟨h', β', X, s', K1, K2⟩ := I.st
  have hfl : flagsOf eff listed = eff.map fun j => Nat.blt j ops.length := by
    unfold flagsOf; apply List.map_congr_left; intro j _
    rcases Nat.lt_or_ge j ops.length with hj | hj
    · have := hall j hj; unfold isL at this; rw [this]; symm; rw [Nat.blt_eq]; exact hj
    · have h1 : listed.getD j false = false := by simp [Array.getElem?_eq_none (show listed.size ≤ j by rw [I.size]; exact hj)]
      rw [h1]; cases hb : Nat.blt j ops.length with
      | false => rfl
      | true => rw [Nat.blt_eq] at hb; omega
  rw [hfl] at X s' K1 K2
  refine ⟨D, _, _, h', β', hk, X, s', fun t x ex => ?_, I.keeps.size.trans s.size, by rw [I.keeps.defers]; exact s.df.ext X⟩
  rcases xFold_get hchk.get.1 ex with ⟨j, oj, h1, h2, h3, h4, h5⟩ | ⟨h1, h2⟩
  · exact K2 j oj t x h1 (hall j (List.getElem?_eq_some_iff.1 h1).1) h2 h3 h4 fun k ok hk _ hjk => h5 k ok hk hjk
  · exact K1 t x h2 fun j o hj _ => h1 j o hj
end
end GA
end

section
namespace GA
open Go Go.RowKit
set_option linter.unusedVariables false

structure XAnd (A B : Prop) : Prop where
  l : A
  r : B
def allF : Nat → List (List Bool)
  | 0 => [[]]
  | n + 1 => (allF n).flatMap fun l => [l ++ [false], l ++ [true]]
def sameF : List Bool → List Bool → Bool
  | [], [] => true
  | true :: l, true :: m => sameF l m
  | false :: l, false :: m => sameF l m
  | _, _ => false
theorem sameF_eq : ∀ {l m : List Bool}, sameF l m = true → l = m
  | [], [], _ => rfl
  | true :: l, true :: m, h => by rw [sameF_eq (l := l) (m := m) h]
  | false :: l, false :: m, h => by rw [sameF_eq (l := l) (m := m) h]
  | [], _ :: _, h => by cases h
  | _ :: _, [], h => by simp [sameF] at h
  | true :: _, false :: _, h => by cases h
  | false :: _, true :: _, h => by cases h
theorem allF_mem : ∀ {n : Nat} {fl : List Bool}, fl.length = n → fl ∈ allF n
  | 0, fl, h => by simp [allF, List.eq_nil_of_length_eq_zero h]
  | n + 1, fl, h => by
    have hne : fl ≠ [] := by intro e; rw [e] at h; simp at h
    have h1 : fl.dropLast ++ [fl.getLast hne] = fl := List.dropLast_concat_getLast hne
    have h2 := allF_mem (n := n) (fl := fl.dropLast) (by simp [h])
    simp only [allF, List.mem_flatMap]
    refine ⟨fl.dropLast, h2, ?_⟩
    cases hb : fl.getLast hne with
    | true => rw [hb] at h1; rw [h1]; simp
    | false => rw [hb] at h1; rw [h1]; simp

section
variable (P : Program) (T : Tab) (N : Nat) (own : List Nat) (ops : List Oper) (eff : List Nat) (HS : List Bool → List Blk)
def textF (i : Nat) : List Bool := eff.map fun j => Nat.blt j i
def ChkA : Nat → List Oper → List AV → St → Prop
  | _, [], [], _ => True
  | i, o :: l, r :: R, σ => XAnd (Chk P T own ops eff HS i o σ r (textF eff i)) (ChkA (i + 1) l R (putX N σ o.dst r))
  | _, _, _, _ => False
def ChkF (fl : List Bool) : Nat → List Oper → List AV → St → Prop
  | i, o :: l, r :: R, σ => match compat ops eff i fl && !sameF fl (textF eff i) with
    | true => XAnd (Chk P T own ops eff HS i o σ r fl) (ChkF fl (i + 1) l R (putX N σ o.dst r))
    | false => ChkF fl (i + 1) l R (putX N σ o.dst r)
  | _, _, _, _ => True
def ChkB (R : List AV) (σ : St) : List (List Bool) → Prop
  | [] => True
  | fl :: fls => XAnd (ChkF P T N own ops eff HS fl 0 ops R σ) (ChkB R σ fls)
end
section
variable {P : Program} {T : Tab} {N : Nat} {own : List Nat} {ops : List Oper} {eff : List Nat} {HS : List Bool → List Blk}
theorem ChkF.all : ∀ {l : List Oper} {R : List AV} {i : Nat} {σ : St}, ChkA P T N own ops eff HS i l R σ → (∀ fl, fl.length = eff.length → ChkF P T N own ops eff HS fl i l R σ) → ChkAll P T N own ops eff HS i l R σ
  | [], [], _, _, _, _ => trivial
  | o :: l, r :: R, i, σ, hA, hB => by
    refine ⟨fun fl hf hc => ?_, ChkF.all hA.r fun fl hf => ?_⟩
    · cases hs : sameF fl (textF eff i) with
      | true => rw [sameF_eq hs]; exact hA.l
      | false =>
        have := hB fl hf
        simp only [ChkF, hc, hs] at this
        exact this.l
    · have := hB fl hf
      simp only [ChkF] at this
      split at this
      · exact this.r
      · exact this
  | [], _ :: _, _, _, h, _ => h.elim
  | _ :: _, [], _, _, h, _ => h.elim
theorem ChkB.get {R : List AV} {σ : St} : ∀ {fls : List (List Bool)}, ChkB P T N own ops eff HS R σ fls → ∀ fl ∈ fls, ChkF P T N own ops eff HS fl 0 ops R σ
  | fl :: fls, h, f, hf => by
    rcases List.mem_cons.1 hf with rfl | hf
    · exact h.l
    · exact ChkB.get h.r f hf

def hsC (l : List (List Blk)) (fl : List Bool) : List Blk := match lget l (fl.countP id) with | some H => H | none => []
def bin : List Bool → Nat
  | [] => 0
  | true :: l => 2 * bin l + 1
  | false :: l => 2 * bin l
theorem Walk.drawX {ρ : Option Nat} {id : Nat} {Q : Post} {D : List Nat} {σ : St} {H : List Blk} (ok : TabOk P T) (hm : P.follows .mixedOrders = true) (own : List Nat) (eff : List Nat) (HS : List Bool → List Blk) (R : List AV) (hs : Region.lexB .any ops.toArray = true)
    (hH : HS (eff.map fun _ => false) = H) (hA : ChkA P T N own ops eff HS 0 ops R σ) (hB : ChkB P T N own ops eff HS R σ (allF eff.length)) (hk : Q .normal D (xFold N ops R σ) (HS (eff.map fun j => Nat.blt j ops.length))) : Walk P N ρ (.region id ops.toArray true) Q D σ H :=
  .draw ok hm own eff HS R hs hH (ChkF.all hA fun fl hf => hB.get fl (allF_mem hf)) hk
theorem ChkA.go {i : Nat} {l : List Oper} {R : List AV} {σ : St} (h : ChkA P T N own ops eff HS i l R σ) : ChkA P T N own ops eff HS i l R σ := h
theorem ChkF.go {fl : List Bool} {i : Nat} {l : List Oper} {R : List AV} {σ : St} (h : ChkF P T N own ops eff HS fl i l R σ) : ChkF P T N own ops eff HS fl i l R σ := h
theorem ChkB.go {R : List AV} {σ : St} {fls : List (List Bool)} (h : ChkB P T N own ops eff HS R σ fls) : ChkB P T N own ops eff HS R σ fls := h
theorem Chk.go {i : Nat} {o : Oper} {σ : St} {r : AV} {fl : List Bool} (h : Chk P T own ops eff HS i o σ r fl) : Chk P T own ops eff HS i o σ r fl := h
end
end GA
end

section
namespace GA
open Go Go.RowKit Go.Proofs
set_option pp.deepTerms true
set_option maxRecDepth 8000
set_option linter.unusedVariables false
theorem mixed_ok : Try.prog.follows .mixedOrders = true := by kernel_rfl

theorem find_none {α : Type} {p : α → Bool} {xs : List α} {d : α} (h : ∀ j, j < xs.length → p (xs.getD j d) = false) : xs.findIdx? p = none := by
  rw [List.findIdx?_eq_none_iff]; intro x hx
  obtain ⟨j, hj, rfl⟩ := List.mem_iff_getElem.1 hx
  have := h j hj; rwa [List.getD_eq_getElem?_getD, List.getElem?_eq_getElem hj] at this
theorem find_some {α : Type} {p : α → Bool} {xs : List α} {d : α} {i : Nat} (hi : i < xs.length) (hp : p (xs.getD i d) = true) (h : ∀ j, j < i → p (xs.getD j d) = false) : xs.findIdx? p = some i := by
  rw [List.findIdx?_eq_some_iff_getElem]
  refine ⟨hi, by rwa [List.getD_eq_getElem?_getD, List.getElem?_eq_getElem hi] at hp, fun j hj => ?_⟩
  have := h j hj; rw [List.getD_eq_getElem?_getD, List.getElem?_eq_getElem (by omega)] at this; simpa using this
theorem getD_mem {α : Type} {xs : List α} {d : α} {i : Nat} (hi : i < xs.length) : xs.getD i d ∈ xs := by
  rw [List.getD_eq_getElem?_getD, List.getElem?_eq_getElem hi]; exact List.getElem_mem hi
def idxR {α : Type} (p : α → Bool) (xs : List α) : Int := match xs.findIdx? p with | some i => i | none => -1
theorem idxR_pos {α : Type} {p : α → Bool} {xs : List α} : (0 ≤ idxR p xs) ↔ xs.any p = true := by
  unfold idxR
  cases h : xs.findIdx? p with
  | none => rw [List.findIdx?_eq_none_iff] at h; simp; intro x hx; simpa using h x hx
  | some i =>
    rw [List.findIdx?_eq_some_iff_getElem] at h; obtain ⟨h1, h2, _⟩ := h
    simp; exact ⟨_, List.getElem_mem h1, h2⟩

def offB (n lo hi : Int) : Bool := decide (n < lo) || decide (hi < n)
def inB (n lo hi : Int) : Bool := decide (lo ≤ n) && decide (n ≤ hi)
theorem off_c (n lo hi : Int) : Comp Try.prog 90 [.int .i64 n, .int .i64 lo, .int .i64 hi] (.bool (offB n lo hi)) := by
  refine Comp.body (T := tab) (res := [.tmp 6]) tab_ok [] Try.func90 rfl (by kernel_rfl) Try.ntmps90 rfl (by simp only [List.length_cons, List.length_nil]; decide) (by rfl) ?_; conv => whnf
  repeat' first | ((with_reducible first | apply XBr.tt | apply XBr.ff | apply Chk.go | apply ChkA.go | apply ChkF.go | apply ChkB.go | apply XArr.pim0 | apply XArr.pim1); conv => whnf) | (with_reducible apply XBr.not) | ((with_reducible apply XBr.dec) <;> (intro h; first | (exfalso; omega) | ((try simp only [List.length_map] at h); first | (exfalso; omega) | (conv => whnf)))) | ((with_reducible first | apply XBr.beq | apply XBr.bne) <;> (intro h; first | (exfalso; omega) | (conv => whnf))) | ((with_reducible refine XInt.i64 (by omega) (by omega) ?_); conv => whnf) | ((with_reducible refine XHold.mk ?_ ?_); (first | omega | rfl | decide | exact ⟨rfl, by decide, rfl⟩ | exact wideI _ | exact widePr _ | exact wideSk _ | (unfold Room; constructor <;> ((try simp) <;> omega)) | exact ⟨rfl, by simp only [List.length_map], by unfold Room; constructor <;> ((try simp) <;> omega)⟩ | exact ⟨by omega, by omega, by unfold Room; constructor <;> ((try simp) <;> omega)⟩); conv => whnf) | ((first | ((with_reducible refine XIx.nat ?_ ?_ ?_); omega; (intro _; rfl)) | ((with_reducible refine XIx.map ?_ ?_ ?_ ?_); omega; omega; (intro _; rfl))); conv => whnf) | (with_reducible apply XAnd.mk) | (exact XSame.mk rfl rfl) | (exact XSame.mk (by first | rfl | (simp only [List.map_append, List.length_append, List.length_map]; done) | (simp only [List.map_append, List.length_append, List.length_map]; rfl)) (by first | rfl | (simp only [List.map_append]; done) | (simp only [List.map_append]; rfl))) | (with_reducible exact trivial) | ((first | (with_reducible refine xdrop_app (by rw [List.length_map]; omega) ?_) | (with_reducible refine XDrop.desk (by assumption) ?_) | (with_reducible first | refine XArr.ints (by omega) (by omega) (by omega) ?_ | refine XArr.intsA (by omega) (by omega) (by omega) ?_) | ((with_reducible first | refine XArr.nats ?_ ?_ ?_ | refine XArr.natsA ?_ ?_ ?_ | refine XArr.ptr ?_ ?_ ?_); omega; omega)); conv => whnf) | ((with_reducible apply XBr.mk') <;> (intro h; conv => whnf))
  all_goals (refine XOut.bool ?_; rw [Bool.eq_iff_iff]; simp [offB]; try omega)
theorem in_c (n lo hi : Int) : Comp Try.prog 92 [.int .i64 n, .int .i64 lo, .int .i64 hi] (.bool (inB n lo hi)) := by
  refine Comp.body (T := tab) (res := [.tmp 6]) tab_ok [] Try.func92 rfl (by kernel_rfl) Try.ntmps92 rfl (by simp only [List.length_cons, List.length_nil]; decide) (by rfl) ?_; conv => whnf
  repeat' first | ((with_reducible first | apply XBr.tt | apply XBr.ff | apply Chk.go | apply ChkA.go | apply ChkF.go | apply ChkB.go | apply XArr.pim0 | apply XArr.pim1); conv => whnf) | (with_reducible apply XBr.not) | ((with_reducible apply XBr.dec) <;> (intro h; first | (exfalso; omega) | ((try simp only [List.length_map] at h); first | (exfalso; omega) | (conv => whnf)))) | ((with_reducible first | apply XBr.beq | apply XBr.bne) <;> (intro h; first | (exfalso; omega) | (conv => whnf))) | ((with_reducible refine XInt.i64 (by omega) (by omega) ?_); conv => whnf) | ((with_reducible refine XHold.mk ?_ ?_); (first | omega | rfl | decide | exact ⟨rfl, by decide, rfl⟩ | exact wideI _ | exact widePr _ | exact wideSk _ | (unfold Room; constructor <;> ((try simp) <;> omega)) | exact ⟨rfl, by simp only [List.length_map], by unfold Room; constructor <;> ((try simp) <;> omega)⟩ | exact ⟨by omega, by omega, by unfold Room; constructor <;> ((try simp) <;> omega)⟩); conv => whnf) | ((first | ((with_reducible refine XIx.nat ?_ ?_ ?_); omega; (intro _; rfl)) | ((with_reducible refine XIx.map ?_ ?_ ?_ ?_); omega; omega; (intro _; rfl))); conv => whnf) | (with_reducible apply XAnd.mk) | (exact XSame.mk rfl rfl) | (exact XSame.mk (by first | rfl | (simp only [List.map_append, List.length_append, List.length_map]; done) | (simp only [List.map_append, List.length_append, List.length_map]; rfl)) (by first | rfl | (simp only [List.map_append]; done) | (simp only [List.map_append]; rfl))) | (with_reducible exact trivial) | ((first | (with_reducible refine xdrop_app (by rw [List.length_map]; omega) ?_) | (with_reducible refine XDrop.desk (by assumption) ?_) | (with_reducible first | refine XArr.ints (by omega) (by omega) (by omega) ?_ | refine XArr.intsA (by omega) (by omega) (by omega) ?_) | ((with_reducible first | refine XArr.nats ?_ ?_ ?_ | refine XArr.natsA ?_ ?_ ?_ | refine XArr.ptr ?_ ?_ ?_); omega; omega)); conv => whnf) | ((with_reducible apply XBr.mk') <;> (intro h; conv => whnf))
  all_goals (refine XOut.bool ?_; rw [Bool.eq_iff_iff]; simp [inB]; try omega)

theorem idxf_int (nl : Bool) (xs : List Int) (g : FuncId) (caps : List AV) (p : Int → Bool) (hl : lowL 0 caps = true) (hx : xs.length ≤ 100000) (hp : ∀ x ∈ xs, Comp Try.prog g (.int .i64 x :: caps) (.bool (p x))) :
    Comp Try.prog 97 [.sl nl (ints xs), .fn g caps] (.int .i64 (idxR p xs)) := by
  refine Comp.body (T := tab) (res := [.tmp 4]) tab_ok [] Try.func97 rfl (by kernel_rfl) Try.ntmps97 rfl (by simp only [List.length_cons, List.length_nil]; decide) (by simp only [lowL, AV.low, lowI, hl]; rfl) ?_; conv => whnf
  refine Walk.loop tab_ok [] (fun i : Nat => i ≤ xs.length ∧ ∀ j, j < i → p (xs.getD j default) = false) (fun i => [(0, .sl nl (ints xs)), (1, .fn g caps), (7, .int .i64 xs.length), (8, .int .i64 i)]) (fun _ => []) (fun i => xs.length - i) 0 ⟨by omega, by omega⟩ rfl ⟨rfl, rfl, by simp only [List.length_map]; rfl, rfl, trivial⟩ ?_
  rintro i ⟨h2, h3⟩
  conv => whnf
  repeat' first | ((with_reducible first | apply XBr.tt | apply XBr.ff | apply Chk.go | apply ChkA.go | apply ChkF.go | apply ChkB.go | apply XArr.pim0 | apply XArr.pim1); conv => whnf) | (with_reducible apply XBr.not) | ((with_reducible apply XBr.dec) <;> (intro h; first | (exfalso; omega) | ((try simp only [List.length_map] at h); first | (exfalso; omega) | (conv => whnf)))) | ((with_reducible first | apply XBr.beq | apply XBr.bne) <;> (intro h; first | (exfalso; omega) | (conv => whnf))) | ((with_reducible refine XInt.i64 (by omega) (by omega) ?_); conv => whnf) | ((with_reducible refine XHold.mk ?_ ?_); (first | omega | rfl | decide | exact ⟨rfl, by decide, rfl⟩ | exact wideI _ | exact widePr _ | exact wideSk _ | (unfold Room; constructor <;> ((try simp) <;> omega)) | exact ⟨rfl, by simp only [List.length_map], by unfold Room; constructor <;> ((try simp) <;> omega)⟩ | exact ⟨by omega, by omega, by unfold Room; constructor <;> ((try simp) <;> omega)⟩); conv => whnf) | ((first | ((with_reducible refine XIx.nat ?_ ?_ ?_); omega; (intro _; rfl)) | ((with_reducible refine XIx.map ?_ ?_ ?_ ?_); omega; omega; (intro _; rfl))); conv => whnf) | (with_reducible apply XAnd.mk) | (exact XSame.mk rfl rfl) | (exact XSame.mk (by first | rfl | (simp only [List.map_append, List.length_append, List.length_map]; done) | (simp only [List.map_append, List.length_append, List.length_map]; rfl)) (by first | rfl | (simp only [List.map_append]; done) | (simp only [List.map_append]; rfl))) | (with_reducible exact trivial) | ((first | (with_reducible refine xdrop_app (by rw [List.length_map]; omega) ?_) | (with_reducible refine XDrop.desk (by assumption) ?_) | (with_reducible first | refine XArr.ints (by omega) (by omega) (by omega) ?_ | refine XArr.intsA (by omega) (by omega) (by omega) ?_) | ((with_reducible first | refine XArr.nats ?_ ?_ ?_ | refine XArr.natsA ?_ ?_ ?_ | refine XArr.ptr ?_ ?_ ?_); omega; omega)); conv => whnf) | ((with_reducible apply XBr.mk') <;> (intro h; conv => whnf))
  · refine XCall.ret (hp _ (getD_mem (i := i) (d := default) (by omega))) ?_
    conv => whnf
    refine XBr.mk' ?_ ?_ <;> intro h4 <;> (conv => whnf)
    · refine XOut.int ?_
      simp only [idxR, find_some (d := default) (i := i) (by omega) h4 h3]
    · skip
      repeat' first | ((with_reducible first | apply XBr.tt | apply XBr.ff | apply Chk.go | apply ChkA.go | apply ChkF.go | apply ChkB.go | apply XArr.pim0 | apply XArr.pim1); conv => whnf) | (with_reducible apply XBr.not) | ((with_reducible apply XBr.dec) <;> (intro h; first | (exfalso; omega) | ((try simp only [List.length_map] at h); first | (exfalso; omega) | (conv => whnf)))) | ((with_reducible first | apply XBr.beq | apply XBr.bne) <;> (intro h; first | (exfalso; omega) | (conv => whnf))) | ((with_reducible refine XInt.i64 (by omega) (by omega) ?_); conv => whnf) | ((with_reducible refine XHold.mk ?_ ?_); (first | omega | rfl | decide | exact ⟨rfl, by decide, rfl⟩ | exact wideI _ | exact widePr _ | exact wideSk _ | (unfold Room; constructor <;> ((try simp) <;> omega)) | exact ⟨rfl, by simp only [List.length_map], by unfold Room; constructor <;> ((try simp) <;> omega)⟩ | exact ⟨by omega, by omega, by unfold Room; constructor <;> ((try simp) <;> omega)⟩); conv => whnf) | ((first | ((with_reducible refine XIx.nat ?_ ?_ ?_); omega; (intro _; rfl)) | ((with_reducible refine XIx.map ?_ ?_ ?_ ?_); omega; omega; (intro _; rfl))); conv => whnf) | (with_reducible apply XAnd.mk) | (exact XSame.mk rfl rfl) | (exact XSame.mk (by first | rfl | (simp only [List.map_append, List.length_append, List.length_map]; done) | (simp only [List.map_append, List.length_append, List.length_map]; rfl)) (by first | rfl | (simp only [List.map_append]; done) | (simp only [List.map_append]; rfl))) | (with_reducible exact trivial) | ((first | (with_reducible refine xdrop_app (by rw [List.length_map]; omega) ?_) | (with_reducible refine XDrop.desk (by assumption) ?_) | (with_reducible first | refine XArr.ints (by omega) (by omega) (by omega) ?_ | refine XArr.intsA (by omega) (by omega) (by omega) ?_) | ((with_reducible first | refine XArr.nats ?_ ?_ ?_ | refine XArr.natsA ?_ ?_ ?_ | refine XArr.ptr ?_ ?_ ?_); omega; omega)); conv => whnf) | ((with_reducible apply XBr.mk') <;> (intro h; conv => whnf))
      refine XAgain.go (i + 1) ⟨by omega, fun j hj => ?_⟩ (by omega) rfl ⟨rfl, rfl, rfl, rfl, trivial⟩
      by_cases hji : j = i
      · subst hji; exact h4
      · exact h3 j (by omega)
  · refine XOut.int ?_
    simp only [idxR, find_none (d := default) fun j hj => h3 j (by omega)]
theorem contf_int (nl : Bool) (xs : List Int) (g : FuncId) (caps : List AV) (p : Int → Bool) (hl : lowL 0 caps = true) (hx : xs.length ≤ 100000) (hp : ∀ x ∈ xs, Comp Try.prog g (.int .i64 x :: caps) (.bool (p x))) :
    Comp Try.prog 138 [.sl nl (ints xs), .fn g caps] (.bool (xs.any p)) := by
  refine Comp.body (T := tab) (res := [.tmp 4]) tab_ok [] Try.func138 rfl (by kernel_rfl) Try.ntmps138 rfl (by simp only [List.length_cons, List.length_nil]; decide) (by simp only [lowL, AV.low, lowI, hl]; rfl) ?_; conv => whnf
  refine XCall.ret (idxf_int nl xs g caps p hl hx hp) ?_
  conv => whnf
  refine XOut.bool ?_
  rw [Bool.eq_iff_iff, decide_eq_true_eq]; exact idxR_pos
theorem every1_int (x : Int) (g : FuncId) (caps : List AV) (p : Int → Bool) (hl : lowL 0 caps = true) (hp : Comp Try.prog g (.int .i64 x :: caps) (.bool (p x))) :
    Comp Try.prog 139 [.int .i64 x, .pim [.fn g caps]] (.bool (!p x)) := by
  refine Comp.body (T := tab) (res := [.tmp 3]) tab_ok [] Try.func139 rfl (by kernel_rfl) Try.ntmps139 rfl (by simp only [List.length_cons, List.length_nil]; decide) (by simp only [lowL, AV.low, hl]; rfl) ?_; conv => whnf
  refine XCall.ret hp ?_
  conv => whnf
  exact XOut.bool rfl
theorem every_int (nl : Bool) (xs : List Int) (g : FuncId) (caps : List AV) (p : Int → Bool) (hl : lowL 0 caps = true) (hx : xs.length ≤ 100000) (hp : ∀ x ∈ xs, Comp Try.prog g (.int .i64 x :: caps) (.bool (p x))) :
    Comp Try.prog 99 [.sl nl (ints xs), .fn g caps] (.bool (xs.all p)) := by
  refine Comp.body (T := tab) (res := [.tmp 4]) tab_ok [] Try.func99 rfl (by kernel_rfl) Try.ntmps99 rfl (by simp only [List.length_cons, List.length_nil]; decide) (by simp only [lowL, AV.low, lowI, hl]; rfl) ?_; conv => whnf
  refine XCall.ret (contf_int nl xs 139 [.pim [.fn g caps]] (fun x => !p x) (by simp only [lowL, AV.low, hl]; rfl) hx fun x hm => every1_int x g caps p hl (hp x hm)) ?_
  conv => whnf
  refine XOut.bool ?_
  rw [List.not_any_eq_all_not]; simp
theorem riddled1_c (x : Int) : Comp Try.prog 136 [.int .i64 x] (.bool (inB x 1 40)) := by
  refine Comp.body (T := tab) (res := [.tmp 2]) tab_ok [] Try.func136 rfl (by kernel_rfl) Try.ntmps136 rfl (by simp only [List.length_cons, List.length_nil]; decide) (by rfl) ?_; conv => whnf
  refine XCall.ret (in_c _ _ _) ?_
  conv => whnf
  exact XOut.bool rfl
def riddledR (xs : List Int) (g : Int) : Int := if 100 < xs.length then 2 else if xs.all (inB · 1 40) && inB g 1 40 then 0 else 3
theorem riddled_c (nl : Bool) (xs : List Int) (g : Int) (hx : xs.length ≤ 100000) : Comp Try.prog 89 [.sl nl (ints xs), .int .i64 g] (.int .i64 (riddledR xs g)) := by
  refine Comp.body (T := tab) (res := [.tmp 4]) tab_ok [] Try.func89 rfl (by kernel_rfl) Try.ntmps89 rfl (by simp only [List.length_cons, List.length_nil]; decide) (by simp only [lowL, AV.low, lowI]; rfl) ?_; conv => whnf
  repeat' first | ((with_reducible first | apply XBr.tt | apply XBr.ff | apply Chk.go | apply ChkA.go | apply ChkF.go | apply ChkB.go | apply XArr.pim0 | apply XArr.pim1); conv => whnf) | (with_reducible apply XBr.not) | ((with_reducible apply XBr.dec) <;> (intro h; first | (exfalso; omega) | ((try simp only [List.length_map] at h); first | (exfalso; omega) | (conv => whnf)))) | ((with_reducible first | apply XBr.beq | apply XBr.bne) <;> (intro h; first | (exfalso; omega) | (conv => whnf))) | ((with_reducible refine XInt.i64 (by omega) (by omega) ?_); conv => whnf) | ((with_reducible refine XHold.mk ?_ ?_); (first | omega | rfl | decide | exact ⟨rfl, by decide, rfl⟩ | exact wideI _ | exact widePr _ | exact wideSk _ | (unfold Room; constructor <;> ((try simp) <;> omega)) | exact ⟨rfl, by simp only [List.length_map], by unfold Room; constructor <;> ((try simp) <;> omega)⟩ | exact ⟨by omega, by omega, by unfold Room; constructor <;> ((try simp) <;> omega)⟩); conv => whnf) | ((first | ((with_reducible refine XIx.nat ?_ ?_ ?_); omega; (intro _; rfl)) | ((with_reducible refine XIx.map ?_ ?_ ?_ ?_); omega; omega; (intro _; rfl))); conv => whnf) | (with_reducible apply XAnd.mk) | (exact XSame.mk rfl rfl) | (exact XSame.mk (by first | rfl | (simp only [List.map_append, List.length_append, List.length_map]; done) | (simp only [List.map_append, List.length_append, List.length_map]; rfl)) (by first | rfl | (simp only [List.map_append]; done) | (simp only [List.map_append]; rfl))) | (with_reducible exact trivial) | ((first | (with_reducible refine xdrop_app (by rw [List.length_map]; omega) ?_) | (with_reducible refine XDrop.desk (by assumption) ?_) | (with_reducible first | refine XArr.ints (by omega) (by omega) (by omega) ?_ | refine XArr.intsA (by omega) (by omega) (by omega) ?_) | ((with_reducible first | refine XArr.nats ?_ ?_ ?_ | refine XArr.natsA ?_ ?_ ?_ | refine XArr.ptr ?_ ?_ ?_); omega; omega)); conv => whnf) | ((with_reducible apply XBr.mk') <;> (intro h; conv => whnf))
  · refine XOut.int ?_
    unfold riddledR; rw [if_pos (by omega)]
  refine XCall.ret (every_int nl xs 136 [] (inB · 1 40) rfl hx fun x _ => riddled1_c x) ?_
  conv => whnf
  refine XBr.not (XBr.mk' ?_ ?_) <;> intro h4 <;> (conv => whnf)
  · skip
    repeat' first | ((with_reducible first | apply XBr.tt | apply XBr.ff | apply Chk.go | apply ChkA.go | apply ChkF.go | apply ChkB.go | apply XArr.pim0 | apply XArr.pim1); conv => whnf) | (with_reducible apply XBr.not) | ((with_reducible apply XBr.dec) <;> (intro h; first | (exfalso; omega) | ((try simp only [List.length_map] at h); first | (exfalso; omega) | (conv => whnf)))) | ((with_reducible first | apply XBr.beq | apply XBr.bne) <;> (intro h; first | (exfalso; omega) | (conv => whnf))) | ((with_reducible refine XInt.i64 (by omega) (by omega) ?_); conv => whnf) | ((with_reducible refine XHold.mk ?_ ?_); (first | omega | rfl | decide | exact ⟨rfl, by decide, rfl⟩ | exact wideI _ | exact widePr _ | exact wideSk _ | (unfold Room; constructor <;> ((try simp) <;> omega)) | exact ⟨rfl, by simp only [List.length_map], by unfold Room; constructor <;> ((try simp) <;> omega)⟩ | exact ⟨by omega, by omega, by unfold Room; constructor <;> ((try simp) <;> omega)⟩); conv => whnf) | ((first | ((with_reducible refine XIx.nat ?_ ?_ ?_); omega; (intro _; rfl)) | ((with_reducible refine XIx.map ?_ ?_ ?_ ?_); omega; omega; (intro _; rfl))); conv => whnf) | (with_reducible apply XAnd.mk) | (exact XSame.mk rfl rfl) | (exact XSame.mk (by first | rfl | (simp only [List.map_append, List.length_append, List.length_map]; done) | (simp only [List.map_append, List.length_append, List.length_map]; rfl)) (by first | rfl | (simp only [List.map_append]; done) | (simp only [List.map_append]; rfl))) | (with_reducible exact trivial) | ((first | (with_reducible refine xdrop_app (by rw [List.length_map]; omega) ?_) | (with_reducible refine XDrop.desk (by assumption) ?_) | (with_reducible first | refine XArr.ints (by omega) (by omega) (by omega) ?_ | refine XArr.intsA (by omega) (by omega) (by omega) ?_) | ((with_reducible first | refine XArr.nats ?_ ?_ ?_ | refine XArr.natsA ?_ ?_ ?_ | refine XArr.ptr ?_ ?_ ?_); omega; omega)); conv => whnf) | ((with_reducible apply XBr.mk') <;> (intro h; conv => whnf))
    refine XCall.ret (riddled1_c _) ?_
    conv => whnf
    repeat' first | ((with_reducible first | apply XBr.tt | apply XBr.ff | apply Chk.go | apply ChkA.go | apply ChkF.go | apply ChkB.go | apply XArr.pim0 | apply XArr.pim1); conv => whnf) | (with_reducible apply XBr.not) | ((with_reducible apply XBr.dec) <;> (intro h; first | (exfalso; omega) | ((try simp only [List.length_map] at h); first | (exfalso; omega) | (conv => whnf)))) | ((with_reducible first | apply XBr.beq | apply XBr.bne) <;> (intro h; first | (exfalso; omega) | (conv => whnf))) | ((with_reducible refine XInt.i64 (by omega) (by omega) ?_); conv => whnf) | ((with_reducible refine XHold.mk ?_ ?_); (first | omega | rfl | decide | exact ⟨rfl, by decide, rfl⟩ | exact wideI _ | exact widePr _ | exact wideSk _ | (unfold Room; constructor <;> ((try simp) <;> omega)) | exact ⟨rfl, by simp only [List.length_map], by unfold Room; constructor <;> ((try simp) <;> omega)⟩ | exact ⟨by omega, by omega, by unfold Room; constructor <;> ((try simp) <;> omega)⟩); conv => whnf) | ((first | ((with_reducible refine XIx.nat ?_ ?_ ?_); omega; (intro _; rfl)) | ((with_reducible refine XIx.map ?_ ?_ ?_ ?_); omega; omega; (intro _; rfl))); conv => whnf) | (with_reducible apply XAnd.mk) | (exact XSame.mk rfl rfl) | (exact XSame.mk (by first | rfl | (simp only [List.map_append, List.length_append, List.length_map]; done) | (simp only [List.map_append, List.length_append, List.length_map]; rfl)) (by first | rfl | (simp only [List.map_append]; done) | (simp only [List.map_append]; rfl))) | (with_reducible exact trivial) | ((first | (with_reducible refine xdrop_app (by rw [List.length_map]; omega) ?_) | (with_reducible refine XDrop.desk (by assumption) ?_) | (with_reducible first | refine XArr.ints (by omega) (by omega) (by omega) ?_ | refine XArr.intsA (by omega) (by omega) (by omega) ?_) | ((with_reducible first | refine XArr.nats ?_ ?_ ?_ | refine XArr.natsA ?_ ?_ ?_ | refine XArr.ptr ?_ ?_ ?_); omega; omega)); conv => whnf) | ((with_reducible apply XBr.mk') <;> (intro h; conv => whnf))
    · refine XOut.int ?_
      unfold riddledR; rw [if_neg (by omega)]; simp [h4, h]
    · refine XOut.int ?_
      unfold riddledR; rw [if_neg (by omega)]; simp [h4, h]
  · skip
    repeat' first | ((with_reducible first | apply XBr.tt | apply XBr.ff | apply Chk.go | apply ChkA.go | apply ChkF.go | apply ChkB.go | apply XArr.pim0 | apply XArr.pim1); conv => whnf) | (with_reducible apply XBr.not) | ((with_reducible apply XBr.dec) <;> (intro h; first | (exfalso; omega) | ((try simp only [List.length_map] at h); first | (exfalso; omega) | (conv => whnf)))) | ((with_reducible first | apply XBr.beq | apply XBr.bne) <;> (intro h; first | (exfalso; omega) | (conv => whnf))) | ((with_reducible refine XInt.i64 (by omega) (by omega) ?_); conv => whnf) | ((with_reducible refine XHold.mk ?_ ?_); (first | omega | rfl | decide | exact ⟨rfl, by decide, rfl⟩ | exact wideI _ | exact widePr _ | exact wideSk _ | (unfold Room; constructor <;> ((try simp) <;> omega)) | exact ⟨rfl, by simp only [List.length_map], by unfold Room; constructor <;> ((try simp) <;> omega)⟩ | exact ⟨by omega, by omega, by unfold Room; constructor <;> ((try simp) <;> omega)⟩); conv => whnf) | ((first | ((with_reducible refine XIx.nat ?_ ?_ ?_); omega; (intro _; rfl)) | ((with_reducible refine XIx.map ?_ ?_ ?_ ?_); omega; omega; (intro _; rfl))); conv => whnf) | (with_reducible apply XAnd.mk) | (exact XSame.mk rfl rfl) | (exact XSame.mk (by first | rfl | (simp only [List.map_append, List.length_append, List.length_map]; done) | (simp only [List.map_append, List.length_append, List.length_map]; rfl)) (by first | rfl | (simp only [List.map_append]; done) | (simp only [List.map_append]; rfl))) | (with_reducible exact trivial) | ((first | (with_reducible refine xdrop_app (by rw [List.length_map]; omega) ?_) | (with_reducible refine XDrop.desk (by assumption) ?_) | (with_reducible first | refine XArr.ints (by omega) (by omega) (by omega) ?_ | refine XArr.intsA (by omega) (by omega) (by omega) ?_) | ((with_reducible first | refine XArr.nats ?_ ?_ ?_ | refine XArr.natsA ?_ ?_ ?_ | refine XArr.ptr ?_ ?_ ?_); omega; omega)); conv => whnf) | ((with_reducible apply XBr.mk') <;> (intro h; conv => whnf))
    refine XOut.int ?_
    unfold riddledR; rw [if_neg (by omega)]; simp [h4]
end GA
end

section
namespace GA
open Go Go.RowKit Go.Proofs
set_option pp.deepTerms true
set_option maxRecDepth 8000
set_option linter.unusedVariables false

theorem eq_of_getD {α : Type} {xs ys : List α} {d : α} (hl : xs.length = ys.length) (h : ∀ j, j < xs.length → xs.getD j d = ys.getD j d) : xs = ys := by
  apply List.ext_getElem hl
  intro j h1 h2
  have := h j h1
  rwa [List.getD_eq_getElem?_getD, List.getD_eq_getElem?_getD, List.getElem?_eq_getElem h1, List.getElem?_eq_getElem h2] at this

theorem equal_int (n1 n2 : Bool) (xs ys : List Int) (hx : xs.length ≤ 100000) : Comp Try.prog 91 [.sl n1 (ints xs), .sl n2 (ints ys)] (.bool (xs == ys)) := by
  refine Comp.body (T := tab) (res := [.tmp 4]) tab_ok [] Try.func91 rfl (by kernel_rfl) Try.ntmps91 rfl (by simp only [List.length_cons, List.length_nil]; decide) (by simp only [lowL, AV.low, lowI]; rfl) ?_; conv => whnf
  repeat' first | ((with_reducible first | apply XBr.tt | apply XBr.ff | apply Chk.go | apply ChkA.go | apply ChkF.go | apply ChkB.go | apply XArr.pim0 | apply XArr.pim1); conv => whnf) | (with_reducible apply XBr.not) | ((with_reducible apply XBr.dec) <;> (intro h; first | (exfalso; omega) | ((try simp only [List.length_map] at h); first | (exfalso; omega) | (conv => whnf)))) | ((with_reducible first | apply XBr.beq | apply XBr.bne) <;> (intro h; first | (exfalso; omega) | (conv => whnf))) | ((with_reducible refine XInt.i64 (by omega) (by omega) ?_); conv => whnf) | ((with_reducible refine XHold.mk ?_ ?_); (first | omega | rfl | decide | exact ⟨rfl, by decide, rfl⟩ | exact wideI _ | exact widePr _ | exact wideSk _ | (unfold Room; constructor <;> ((try simp) <;> omega)) | exact ⟨rfl, by simp only [List.length_map], by unfold Room; constructor <;> ((try simp) <;> omega)⟩ | exact ⟨by omega, by omega, by unfold Room; constructor <;> ((try simp) <;> omega)⟩); conv => whnf) | ((first | ((with_reducible refine XIx.nat ?_ ?_ ?_); omega; (intro _; rfl)) | ((with_reducible refine XIx.map ?_ ?_ ?_ ?_); omega; omega; (intro _; rfl))); conv => whnf) | (with_reducible apply XAnd.mk) | (exact XSame.mk rfl rfl) | (exact XSame.mk (by first | rfl | (simp only [List.map_append, List.length_append, List.length_map]; done) | (simp only [List.map_append, List.length_append, List.length_map]; rfl)) (by first | rfl | (simp only [List.map_append]; done) | (simp only [List.map_append]; rfl))) | (with_reducible exact trivial) | ((first | (with_reducible refine xdrop_app (by rw [List.length_map]; omega) ?_) | (with_reducible refine XDrop.desk (by assumption) ?_) | (with_reducible first | refine XArr.ints (by omega) (by omega) (by omega) ?_ | refine XArr.intsA (by omega) (by omega) (by omega) ?_) | ((with_reducible first | refine XArr.nats ?_ ?_ ?_ | refine XArr.natsA ?_ ?_ ?_ | refine XArr.ptr ?_ ?_ ?_); omega; omega)); conv => whnf) | ((with_reducible apply XBr.mk') <;> (intro h; conv => whnf))
  · refine XOut.bool ?_
    rw [Bool.eq_iff_iff]; simp; intro e; subst e; simp at h
  have hl : (xs.length : Int) = ys.length := by simpa using h
  refine Walk.loop tab_ok [] (fun i : Nat => i ≤ xs.length ∧ ∀ j, j < i → xs.getD j default = ys.getD j default) (fun i => [(0, .sl n1 (ints xs)), (1, .sl n2 (ints ys)), (12, .int .i64 xs.length), (13, .int .i64 i)]) (fun _ => []) (fun i => xs.length - i) 0 ⟨by omega, by omega⟩ rfl ⟨rfl, rfl, by simp only [List.length_map]; rfl, rfl, trivial⟩ ?_
  rintro i ⟨h2, h3⟩
  conv => whnf
  repeat' first | ((with_reducible first | apply XBr.tt | apply XBr.ff | apply Chk.go | apply ChkA.go | apply ChkF.go | apply ChkB.go | apply XArr.pim0 | apply XArr.pim1); conv => whnf) | (with_reducible apply XBr.not) | ((with_reducible apply XBr.dec) <;> (intro h; first | (exfalso; omega) | ((try simp only [List.length_map] at h); first | (exfalso; omega) | (conv => whnf)))) | ((with_reducible first | apply XBr.beq | apply XBr.bne) <;> (intro h; first | (exfalso; omega) | (conv => whnf))) | ((with_reducible refine XInt.i64 (by omega) (by omega) ?_); conv => whnf) | ((with_reducible refine XHold.mk ?_ ?_); (first | omega | rfl | decide | exact ⟨rfl, by decide, rfl⟩ | exact wideI _ | exact widePr _ | exact wideSk _ | (unfold Room; constructor <;> ((try simp) <;> omega)) | exact ⟨rfl, by simp only [List.length_map], by unfold Room; constructor <;> ((try simp) <;> omega)⟩ | exact ⟨by omega, by omega, by unfold Room; constructor <;> ((try simp) <;> omega)⟩); conv => whnf) | ((first | ((with_reducible refine XIx.nat ?_ ?_ ?_); omega; (intro _; rfl)) | ((with_reducible refine XIx.map ?_ ?_ ?_ ?_); omega; omega; (intro _; rfl))); conv => whnf) | (with_reducible apply XAnd.mk) | (exact XSame.mk rfl rfl) | (exact XSame.mk (by first | rfl | (simp only [List.map_append, List.length_append, List.length_map]; done) | (simp only [List.map_append, List.length_append, List.length_map]; rfl)) (by first | rfl | (simp only [List.map_append]; done) | (simp only [List.map_append]; rfl))) | (with_reducible exact trivial) | ((first | (with_reducible refine xdrop_app (by rw [List.length_map]; omega) ?_) | (with_reducible refine XDrop.desk (by assumption) ?_) | (with_reducible first | refine XArr.ints (by omega) (by omega) (by omega) ?_ | refine XArr.intsA (by omega) (by omega) (by omega) ?_) | ((with_reducible first | refine XArr.nats ?_ ?_ ?_ | refine XArr.natsA ?_ ?_ ?_ | refine XArr.ptr ?_ ?_ ?_); omega; omega)); conv => whnf) | ((with_reducible apply XBr.mk') <;> (intro h; conv => whnf))
  · apply Walk.drawX tab_ok mixed_ok [] [] (fun _ => []) [_, _, _, _, _, _, _, _, _] (by kernel_rfl) rfl
    · skip
      repeat' first | ((with_reducible first | apply XBr.tt | apply XBr.ff | apply Chk.go | apply ChkA.go | apply ChkF.go | apply ChkB.go | apply XArr.pim0 | apply XArr.pim1); conv => whnf) | (with_reducible apply XBr.not) | ((with_reducible apply XBr.dec) <;> (intro h; first | (exfalso; omega) | ((try simp only [List.length_map] at h); first | (exfalso; omega) | (conv => whnf)))) | ((with_reducible first | apply XBr.beq | apply XBr.bne) <;> (intro h; first | (exfalso; omega) | (conv => whnf))) | ((with_reducible refine XInt.i64 (by omega) (by omega) ?_); conv => whnf) | ((with_reducible refine XHold.mk ?_ ?_); (first | omega | rfl | decide | exact ⟨rfl, by decide, rfl⟩ | exact wideI _ | exact widePr _ | exact wideSk _ | (unfold Room; constructor <;> ((try simp) <;> omega)) | exact ⟨rfl, by simp only [List.length_map], by unfold Room; constructor <;> ((try simp) <;> omega)⟩ | exact ⟨by omega, by omega, by unfold Room; constructor <;> ((try simp) <;> omega)⟩); conv => whnf) | ((first | ((with_reducible refine XIx.nat ?_ ?_ ?_); omega; (intro _; rfl)) | ((with_reducible refine XIx.map ?_ ?_ ?_ ?_); omega; omega; (intro _; rfl))); conv => whnf) | (with_reducible apply XAnd.mk) | (exact XSame.mk rfl rfl) | (exact XSame.mk (by first | rfl | (simp only [List.map_append, List.length_append, List.length_map]; done) | (simp only [List.map_append, List.length_append, List.length_map]; rfl)) (by first | rfl | (simp only [List.map_append]; done) | (simp only [List.map_append]; rfl))) | (with_reducible exact trivial) | ((first | (with_reducible refine xdrop_app (by rw [List.length_map]; omega) ?_) | (with_reducible refine XDrop.desk (by assumption) ?_) | (with_reducible first | refine XArr.ints (by omega) (by omega) (by omega) ?_ | refine XArr.intsA (by omega) (by omega) (by omega) ?_) | ((with_reducible first | refine XArr.nats ?_ ?_ ?_ | refine XArr.natsA ?_ ?_ ?_ | refine XArr.ptr ?_ ?_ ?_); omega; omega)); conv => whnf) | ((with_reducible apply XBr.mk') <;> (intro h; conv => whnf))
    · skip
      repeat' first | ((with_reducible first | apply XBr.tt | apply XBr.ff | apply Chk.go | apply ChkA.go | apply ChkF.go | apply ChkB.go | apply XArr.pim0 | apply XArr.pim1); conv => whnf) | (with_reducible apply XBr.not) | ((with_reducible apply XBr.dec) <;> (intro h; first | (exfalso; omega) | ((try simp only [List.length_map] at h); first | (exfalso; omega) | (conv => whnf)))) | ((with_reducible first | apply XBr.beq | apply XBr.bne) <;> (intro h; first | (exfalso; omega) | (conv => whnf))) | ((with_reducible refine XInt.i64 (by omega) (by omega) ?_); conv => whnf) | ((with_reducible refine XHold.mk ?_ ?_); (first | omega | rfl | decide | exact ⟨rfl, by decide, rfl⟩ | exact wideI _ | exact widePr _ | exact wideSk _ | (unfold Room; constructor <;> ((try simp) <;> omega)) | exact ⟨rfl, by simp only [List.length_map], by unfold Room; constructor <;> ((try simp) <;> omega)⟩ | exact ⟨by omega, by omega, by unfold Room; constructor <;> ((try simp) <;> omega)⟩); conv => whnf) | ((first | ((with_reducible refine XIx.nat ?_ ?_ ?_); omega; (intro _; rfl)) | ((with_reducible refine XIx.map ?_ ?_ ?_ ?_); omega; omega; (intro _; rfl))); conv => whnf) | (with_reducible apply XAnd.mk) | (exact XSame.mk rfl rfl) | (exact XSame.mk (by first | rfl | (simp only [List.map_append, List.length_append, List.length_map]; done) | (simp only [List.map_append, List.length_append, List.length_map]; rfl)) (by first | rfl | (simp only [List.map_append]; done) | (simp only [List.map_append]; rfl))) | (with_reducible exact trivial) | ((first | (with_reducible refine xdrop_app (by rw [List.length_map]; omega) ?_) | (with_reducible refine XDrop.desk (by assumption) ?_) | (with_reducible first | refine XArr.ints (by omega) (by omega) (by omega) ?_ | refine XArr.intsA (by omega) (by omega) (by omega) ?_) | ((with_reducible first | refine XArr.nats ?_ ?_ ?_ | refine XArr.natsA ?_ ?_ ?_ | refine XArr.ptr ?_ ?_ ?_); omega; omega)); conv => whnf) | ((with_reducible apply XBr.mk') <;> (intro h; conv => whnf))
    · conv => whnf
      repeat' first | ((with_reducible first | apply XBr.tt | apply XBr.ff | apply Chk.go | apply ChkA.go | apply ChkF.go | apply ChkB.go | apply XArr.pim0 | apply XArr.pim1); conv => whnf) | (with_reducible apply XBr.not) | ((with_reducible apply XBr.dec) <;> (intro h; first | (exfalso; omega) | ((try simp only [List.length_map] at h); first | (exfalso; omega) | (conv => whnf)))) | ((with_reducible first | apply XBr.beq | apply XBr.bne) <;> (intro h; first | (exfalso; omega) | (conv => whnf))) | ((with_reducible refine XInt.i64 (by omega) (by omega) ?_); conv => whnf) | ((with_reducible refine XHold.mk ?_ ?_); (first | omega | rfl | decide | exact ⟨rfl, by decide, rfl⟩ | exact wideI _ | exact widePr _ | exact wideSk _ | (unfold Room; constructor <;> ((try simp) <;> omega)) | exact ⟨rfl, by simp only [List.length_map], by unfold Room; constructor <;> ((try simp) <;> omega)⟩ | exact ⟨by omega, by omega, by unfold Room; constructor <;> ((try simp) <;> omega)⟩); conv => whnf) | ((first | ((with_reducible refine XIx.nat ?_ ?_ ?_); omega; (intro _; rfl)) | ((with_reducible refine XIx.map ?_ ?_ ?_ ?_); omega; omega; (intro _; rfl))); conv => whnf) | (with_reducible apply XAnd.mk) | (exact XSame.mk rfl rfl) | (exact XSame.mk (by first | rfl | (simp only [List.map_append, List.length_append, List.length_map]; done) | (simp only [List.map_append, List.length_append, List.length_map]; rfl)) (by first | rfl | (simp only [List.map_append]; done) | (simp only [List.map_append]; rfl))) | (with_reducible exact trivial) | ((first | (with_reducible refine xdrop_app (by rw [List.length_map]; omega) ?_) | (with_reducible refine XDrop.desk (by assumption) ?_) | (with_reducible first | refine XArr.ints (by omega) (by omega) (by omega) ?_ | refine XArr.intsA (by omega) (by omega) (by omega) ?_) | ((with_reducible first | refine XArr.nats ?_ ?_ ?_ | refine XArr.natsA ?_ ?_ ?_ | refine XArr.ptr ?_ ?_ ?_); omega; omega)); conv => whnf) | ((with_reducible apply XBr.mk') <;> (intro h; conv => whnf))
      · refine XOut.bool ?_
        rw [Bool.eq_iff_iff]; simp
        intro e; subst e; exact h rfl
      · refine XAgain.go (i + 1) ⟨by omega, fun j hj => ?_⟩ (by omega) rfl ⟨rfl, rfl, rfl, rfl, trivial⟩
        by_cases hji : j = i
        · subst hji; exact h
        · exact h3 j (by omega)
  · refine XOut.bool ?_
    have := eq_of_getD (by omega) fun j hj => h3 j (by omega)
    rw [this]; simp
theorem eq_int (n1 n2 : Bool) (xs ys : List Int) (hx : xs.length ≤ 100000) : Comp Try.prog 30 [.sl n1 (ints xs), .sl n2 (ints ys)] (.bool (xs == ys)) := by
  refine Comp.body (T := tab) (res := [.tmp 4]) tab_ok [] Try.func30 rfl (by kernel_rfl) Try.ntmps30 rfl (by simp only [List.length_cons, List.length_nil]; decide) (by simp only [lowL, AV.low, lowI]; rfl) ?_; conv => whnf
  refine XCall.ret (equal_int n1 n2 xs ys hx) ?_
  conv => whnf
  exact XOut.bool rfl

theorem dup_int (nl : Bool) (xs : List Int) (hx : xs.length ≤ 100000) : Comp Try.prog 26 [.sl nl (ints xs)] (.sl false (ints xs)) := by
  refine Comp.body (T := tab) (res := [.tmp 2]) tab_ok [] Try.func26 rfl (by kernel_rfl) Try.ntmps26 rfl (by simp only [List.length_cons, List.length_nil]; decide) (by simp only [lowL, AV.low, lowI]; rfl) ?_; conv => whnf
  refine XHold.mk ⟨by omega, by simp, by unfold Room; simp; omega⟩ ?_
  conv => whnf
  refine XHold.mk (wideI xs) ?_
  conv => whnf
  refine XHold.mk ⟨rfl, rfl, by unfold Room; simp; omega⟩ ?_
  conv => whnf
  exact ⟨Froz.grow rfl (by simp) (lowI xs)⟩

def keptL (xs : List Int) (g : Int) : List Int := xs.filter fun x => decide (g ≤ x)
def thruL (xs : List Int) (g : Int) : List Int := xs.filter fun x => decide (x < g)
theorem kept_next {xs : List Int} {g : Int} {i : Nat} (h : i < xs.length) : keptL (xs.take (i + 1)) g = if g ≤ xs.getD i default then keptL (xs.take i) g ++ [xs.getD i default] else keptL (xs.take i) g := by
  unfold keptL; rw [take_next h, List.filter_append]
  by_cases hg : g ≤ xs.getD i default
  · rw [if_pos hg, List.filter_cons_of_pos (by simpa only [decide_eq_true_eq] using hg)]; rfl
  · rw [if_neg hg, List.filter_cons_of_neg (by simpa only [decide_eq_true_eq] using hg)]; simp only [List.filter_nil, List.append_nil]
theorem thru_next {xs : List Int} {g : Int} {i : Nat} (h : i < xs.length) : thruL (xs.take (i + 1)) g = if xs.getD i default < g then thruL (xs.take i) g ++ [xs.getD i default] else thruL (xs.take i) g := by
  unfold thruL; rw [take_next h, List.filter_append]
  by_cases hg : xs.getD i default < g
  · rw [if_pos hg, List.filter_cons_of_pos (by simpa only [decide_eq_true_eq] using hg)]; rfl
  · rw [if_neg hg, List.filter_cons_of_neg (by simpa only [decide_eq_true_eq] using hg)]; simp only [List.filter_nil, List.append_nil]
theorem kept_le (xs : List Int) (g : Int) (i : Nat) : (keptL (xs.take i) g).length ≤ xs.length := by
  have h1 := List.length_filter_le (fun x => decide (g ≤ x)) (xs.take i)
  have h2 : (xs.take i).length = min i xs.length := List.length_take
  unfold keptL; omega
theorem thru_le (xs : List Int) (g : Int) (i : Nat) : (thruL (xs.take i) g).length ≤ xs.length := by
  have h1 := List.length_filter_le (fun x => decide (x < g)) (xs.take i)
  have h2 : (xs.take i).length = min i xs.length := List.length_take
  unfold thruL; omega
def slA (xs : List Int) : AV := .sl xs.isEmpty (ints xs)
def riddleA (xs : List Int) (g : Int) : AV := .tup [slA (keptL xs g), slA (thruL xs g), .int .i64 0]
def riddleR (xs : List Int) (g : Int) : AV := if riddledR xs g = 0 then riddleA xs g else .tup [.sl true [], .sl true [], .int .i64 (riddledR xs g)]

theorem riddle_c (nl : Bool) (xs : List Int) (g : Int) (hx : xs.length ≤ 100000) : Comp Try.prog 27 [.sl nl (ints xs), .int .i64 g] (riddleR xs g) := by
  refine Comp.body (T := tab) (res := [.tmp 4, .tmp 5, .tmp 6]) tab_ok [] Try.func27 rfl (by kernel_rfl) Try.ntmps27 rfl (by simp only [List.length_cons, List.length_nil]; decide) (by simp only [lowL, AV.low, lowI]; rfl) ?_; conv => whnf
  refine XCall.ret (riddled_c nl xs g hx) ?_
  conv => whnf
  repeat' first | ((with_reducible first | apply XBr.tt | apply XBr.ff | apply Chk.go | apply ChkA.go | apply ChkF.go | apply ChkB.go | apply XArr.pim0 | apply XArr.pim1); conv => whnf) | (with_reducible apply XBr.not) | ((with_reducible apply XBr.dec) <;> (intro h; first | (exfalso; omega) | ((try simp only [List.length_map] at h); first | (exfalso; omega) | (conv => whnf)))) | ((with_reducible first | apply XBr.beq | apply XBr.bne) <;> (intro h; first | (exfalso; omega) | (conv => whnf))) | ((with_reducible refine XInt.i64 (by omega) (by omega) ?_); conv => whnf) | ((with_reducible refine XHold.mk ?_ ?_); (first | omega | rfl | decide | exact ⟨rfl, by decide, rfl⟩ | exact wideI _ | exact widePr _ | exact wideSk _ | (unfold Room; constructor <;> ((try simp) <;> omega)) | exact ⟨rfl, by simp only [List.length_map], by unfold Room; constructor <;> ((try simp) <;> omega)⟩ | exact ⟨by omega, by omega, by unfold Room; constructor <;> ((try simp) <;> omega)⟩); conv => whnf) | ((first | ((with_reducible refine XIx.nat ?_ ?_ ?_); omega; (intro _; rfl)) | ((with_reducible refine XIx.map ?_ ?_ ?_ ?_); omega; omega; (intro _; rfl))); conv => whnf) | (with_reducible apply XAnd.mk) | (exact XSame.mk rfl rfl) | (exact XSame.mk (by first | rfl | (simp only [List.map_append, List.length_append, List.length_map]; done) | (simp only [List.map_append, List.length_append, List.length_map]; rfl)) (by first | rfl | (simp only [List.map_append]; done) | (simp only [List.map_append]; rfl))) | (with_reducible exact trivial) | ((first | (with_reducible refine xdrop_app (by rw [List.length_map]; omega) ?_) | (with_reducible refine XDrop.desk (by assumption) ?_) | (with_reducible first | refine XArr.ints (by omega) (by omega) (by omega) ?_ | refine XArr.intsA (by omega) (by omega) (by omega) ?_) | ((with_reducible first | refine XArr.nats ?_ ?_ ?_ | refine XArr.natsA ?_ ?_ ?_ | refine XArr.ptr ?_ ?_ ?_); omega; omega)); conv => whnf) | ((with_reducible apply XBr.mk') <;> (intro h; conv => whnf))
  · refine ⟨?_⟩
    unfold riddleR; rw [if_neg h]
    exact Froz.low rfl
  · refine Walk.nilgr 4 3 rfl (Walk.nilgr 5 3 rfl ?_)
    refine Walk.loop tab_ok [] (fun i : Nat => i ≤ xs.length) (fun i => [(0, .sl nl (ints xs)), (1, .int .i64 g), (16, .sl nl (ints xs)), (17, .int .i64 xs.length), (18, .int .i64 i), (4, .gr 0 (keptL (xs.take i) g).length), (5, .gr 1 (thruL (xs.take i) g).length)])
      (fun i => [.grow 3 (keptL (xs.take i) g).isEmpty (ints (keptL (xs.take i) g)), .grow 3 (thruL (xs.take i) g).isEmpty (ints (thruL (xs.take i) g))]) (fun i => xs.length - i) 0 (by omega) rfl ⟨rfl, rfl, rfl, by simp only [List.length_map]; rfl, rfl, rfl, rfl, trivial⟩ ?_
    intro i h2
    have hk := kept_le xs g i
    have ht := thru_le xs g i
    conv => whnf
    repeat' first | ((with_reducible first | apply XBr.tt | apply XBr.ff | apply Chk.go | apply ChkA.go | apply ChkF.go | apply ChkB.go | apply XArr.pim0 | apply XArr.pim1); conv => whnf) | (with_reducible apply XBr.not) | ((with_reducible apply XBr.dec) <;> (intro h; first | (exfalso; omega) | ((try simp only [List.length_map] at h); first | (exfalso; omega) | (conv => whnf)))) | ((with_reducible first | apply XBr.beq | apply XBr.bne) <;> (intro h; first | (exfalso; omega) | (conv => whnf))) | ((with_reducible refine XInt.i64 (by omega) (by omega) ?_); conv => whnf) | ((with_reducible refine XHold.mk ?_ ?_); (first | omega | rfl | decide | exact ⟨rfl, by decide, rfl⟩ | exact wideI _ | exact widePr _ | exact wideSk _ | (unfold Room; constructor <;> ((try simp) <;> omega)) | exact ⟨rfl, by simp only [List.length_map], by unfold Room; constructor <;> ((try simp) <;> omega)⟩ | exact ⟨by omega, by omega, by unfold Room; constructor <;> ((try simp) <;> omega)⟩); conv => whnf) | ((first | ((with_reducible refine XIx.nat ?_ ?_ ?_); omega; (intro _; rfl)) | ((with_reducible refine XIx.map ?_ ?_ ?_ ?_); omega; omega; (intro _; rfl))); conv => whnf) | (with_reducible apply XAnd.mk) | (exact XSame.mk rfl rfl) | (exact XSame.mk (by first | rfl | (simp only [List.map_append, List.length_append, List.length_map]; done) | (simp only [List.map_append, List.length_append, List.length_map]; rfl)) (by first | rfl | (simp only [List.map_append]; done) | (simp only [List.map_append]; rfl))) | (with_reducible exact trivial) | ((first | (with_reducible refine xdrop_app (by rw [List.length_map]; omega) ?_) | (with_reducible refine XDrop.desk (by assumption) ?_) | (with_reducible first | refine XArr.ints (by omega) (by omega) (by omega) ?_ | refine XArr.intsA (by omega) (by omega) (by omega) ?_) | ((with_reducible first | refine XArr.nats ?_ ?_ ?_ | refine XArr.natsA ?_ ?_ ?_ | refine XArr.ptr ?_ ?_ ?_); omega; omega)); conv => whnf) | ((with_reducible apply XBr.mk') <;> (intro h; conv => whnf))
    · refine XAgain.go (i + 1) (by omega) (by omega) ?_ ⟨rfl, rfl, rfl, rfl, rfl, ?_, ?_, trivial⟩
      · simp only [kept_next (show i < xs.length by omega), thru_next (show i < xs.length by omega), if_pos h, if_neg (show ¬ xs.getD i default < g by omega), List.map_append]
        simp
      · simp only [kept_next (show i < xs.length by omega), if_pos h, List.length_append]; rfl
      · simp only [thru_next (show i < xs.length by omega), if_neg (show ¬ xs.getD i default < g by omega)]; rfl
    · refine XAgain.go (i + 1) (by omega) (by omega) ?_ ⟨rfl, rfl, rfl, rfl, rfl, ?_, ?_, trivial⟩
      · simp only [kept_next (show i < xs.length by omega), thru_next (show i < xs.length by omega), if_neg h, if_pos (show xs.getD i default < g by omega), List.map_append]
        simp
      · simp only [kept_next (show i < xs.length by omega), if_neg h]; rfl
      · simp only [thru_next (show i < xs.length by omega), if_pos (show xs.getD i default < g by omega), List.length_append]; rfl
    · have hi : i = xs.length := by omega
      subst hi
      rw [List.take_length]
      refine ⟨?_⟩
      unfold riddleR; rw [if_pos (by assumption)]
      exact Froz.tup (.cons (Froz.grow rfl (by simp) (lowI _)) (.cons (Froz.grow rfl (by simp) (lowI _)) (.cons (Froz.low rfl) .nil)))
end GA
end

section
namespace GA
open Go Go.RowKit Go.Proofs
set_option pp.deepTerms true
set_option maxRecDepth 8000
set_option linter.unusedVariables false
set_option linter.unusedSimpArgs false

structure Sk where
  m : Int
  o : Int
  deriving Inhabited, DecidableEq
def skA (s : Sk) : AV := .agg [.int .i64 s.m, .int .i64 s.o]
def prA (p : Int × Int) : AV := .agg [.int .i64 p.1, .int .i64 p.2]
theorem skL {n : Nat} (s : Sk) : (skA s).low n = true := rfl
theorem prL {n : Nat} (p : Int × Int) : (prA p).low n = true := rfl
theorem lowSk {n : Nat} (xs : List Sk) : lowL n (xs.map skA) = true := lowL_map (fun _ => rfl) xs
theorem lowPr {n : Nat} (xs : List (Int × Int)) : lowL n (xs.map prA) = true := lowL_map (fun _ => rfl) xs
theorem wideSk (xs : List Sk) : wide 2 (xs.map skA) = true := wide_map (f := skA) (n := 2) (fun _ => rfl) (fun _ => rfl) xs
theorem widePr (xs : List (Int × Int)) : wide 2 (xs.map prA) = true := wide_map (f := prA) (n := 2) (fun _ => rfl) (fun _ => rfl) xs


theorem idxf_sk (nl : Bool) (xs : List (Sk)) (g : FuncId) (caps : List AV) (p : Sk → Bool) (hl : lowL 0 caps = true) (hx : xs.length ≤ 100000) (hp : ∀ x ∈ xs, Comp Try.prog g (skA x :: caps) (.bool (p x))) :
    Comp Try.prog 154 [.sl nl (xs.map skA), .fn g caps] (.int .i64 (idxR p xs)) := by
  refine Comp.body (T := tab) (res := [.tmp 4]) tab_ok [] Try.func154 rfl (by kernel_rfl) Try.ntmps154 rfl (by simp only [List.length_cons, List.length_nil]; decide) (by simp only [lowL, AV.low, lowSk, hl]; rfl) ?_; conv => whnf
  refine Walk.loop tab_ok [] (fun i : Nat => i ≤ xs.length ∧ ∀ j, j < i → p (xs.getD j default) = false) (fun i => [(0, .sl nl (xs.map skA)), (1, .fn g caps), (7, .int .i64 xs.length), (8, .int .i64 i)]) (fun _ => []) (fun i => xs.length - i) 0 ⟨by omega, by omega⟩ rfl ⟨rfl, rfl, by simp only [List.length_map]; rfl, rfl, trivial⟩ ?_
  rintro i ⟨h2, h3⟩
  conv => whnf
  repeat' first | ((with_reducible first | apply XBr.tt | apply XBr.ff | apply Chk.go | apply ChkA.go | apply ChkF.go | apply ChkB.go | apply XArr.pim0 | apply XArr.pim1); conv => whnf) | (with_reducible apply XBr.not) | ((with_reducible apply XBr.dec) <;> (intro h; first | (exfalso; omega) | ((try simp only [List.length_map] at h); first | (exfalso; omega) | (conv => whnf)))) | ((with_reducible first | apply XBr.beq | apply XBr.bne) <;> (intro h; first | (exfalso; omega) | (conv => whnf))) | ((with_reducible refine XInt.i64 (by omega) (by omega) ?_); conv => whnf) | ((with_reducible refine XHold.mk ?_ ?_); (first | omega | rfl | decide | exact ⟨rfl, by decide, rfl⟩ | exact wideI _ | exact widePr _ | exact wideSk _ | (unfold Room; constructor <;> ((try simp) <;> omega)) | exact ⟨rfl, by simp only [List.length_map], by unfold Room; constructor <;> ((try simp) <;> omega)⟩ | exact ⟨by omega, by omega, by unfold Room; constructor <;> ((try simp) <;> omega)⟩); conv => whnf) | ((first | ((with_reducible refine XIx.nat ?_ ?_ ?_); omega; (intro _; rfl)) | ((with_reducible refine XIx.map ?_ ?_ ?_ ?_); omega; omega; (intro _; rfl))); conv => whnf) | (with_reducible apply XAnd.mk) | (exact XSame.mk rfl rfl) | (exact XSame.mk (by first | rfl | (simp only [List.map_append, List.length_append, List.length_map]; done) | (simp only [List.map_append, List.length_append, List.length_map]; rfl)) (by first | rfl | (simp only [List.map_append]; done) | (simp only [List.map_append]; rfl))) | (with_reducible exact trivial) | ((first | (with_reducible refine xdrop_app (by rw [List.length_map]; omega) ?_) | (with_reducible refine XDrop.desk (by assumption) ?_) | (with_reducible first | refine XArr.ints (by omega) (by omega) (by omega) ?_ | refine XArr.intsA (by omega) (by omega) (by omega) ?_) | ((with_reducible first | refine XArr.nats ?_ ?_ ?_ | refine XArr.natsA ?_ ?_ ?_ | refine XArr.ptr ?_ ?_ ?_); omega; omega)); conv => whnf) | ((with_reducible apply XBr.mk') <;> (intro h; conv => whnf))
  · refine XCall.ret (hp _ (getD_mem (i := i) (d := default) (by omega))) ?_
    conv => whnf
    refine XBr.mk' ?_ ?_ <;> intro h4 <;> (conv => whnf)
    · refine XOut.int ?_
      simp only [idxR, find_some (d := default) (i := i) (by omega) h4 h3]
    · skip
      repeat' first | ((with_reducible first | apply XBr.tt | apply XBr.ff | apply Chk.go | apply ChkA.go | apply ChkF.go | apply ChkB.go | apply XArr.pim0 | apply XArr.pim1); conv => whnf) | (with_reducible apply XBr.not) | ((with_reducible apply XBr.dec) <;> (intro h; first | (exfalso; omega) | ((try simp only [List.length_map] at h); first | (exfalso; omega) | (conv => whnf)))) | ((with_reducible first | apply XBr.beq | apply XBr.bne) <;> (intro h; first | (exfalso; omega) | (conv => whnf))) | ((with_reducible refine XInt.i64 (by omega) (by omega) ?_); conv => whnf) | ((with_reducible refine XHold.mk ?_ ?_); (first | omega | rfl | decide | exact ⟨rfl, by decide, rfl⟩ | exact wideI _ | exact widePr _ | exact wideSk _ | (unfold Room; constructor <;> ((try simp) <;> omega)) | exact ⟨rfl, by simp only [List.length_map], by unfold Room; constructor <;> ((try simp) <;> omega)⟩ | exact ⟨by omega, by omega, by unfold Room; constructor <;> ((try simp) <;> omega)⟩); conv => whnf) | ((first | ((with_reducible refine XIx.nat ?_ ?_ ?_); omega; (intro _; rfl)) | ((with_reducible refine XIx.map ?_ ?_ ?_ ?_); omega; omega; (intro _; rfl))); conv => whnf) | (with_reducible apply XAnd.mk) | (exact XSame.mk rfl rfl) | (exact XSame.mk (by first | rfl | (simp only [List.map_append, List.length_append, List.length_map]; done) | (simp only [List.map_append, List.length_append, List.length_map]; rfl)) (by first | rfl | (simp only [List.map_append]; done) | (simp only [List.map_append]; rfl))) | (with_reducible exact trivial) | ((first | (with_reducible refine xdrop_app (by rw [List.length_map]; omega) ?_) | (with_reducible refine XDrop.desk (by assumption) ?_) | (with_reducible first | refine XArr.ints (by omega) (by omega) (by omega) ?_ | refine XArr.intsA (by omega) (by omega) (by omega) ?_) | ((with_reducible first | refine XArr.nats ?_ ?_ ?_ | refine XArr.natsA ?_ ?_ ?_ | refine XArr.ptr ?_ ?_ ?_); omega; omega)); conv => whnf) | ((with_reducible apply XBr.mk') <;> (intro h; conv => whnf))
      refine XAgain.go (i + 1) ⟨by omega, fun j hj => ?_⟩ (by omega) rfl ⟨rfl, rfl, rfl, rfl, trivial⟩
      by_cases hji : j = i
      · subst hji; exact h4
      · exact h3 j (by omega)
  · refine XOut.int ?_
    simp only [idxR, find_none (d := default) fun j hj => h3 j (by omega)]
theorem contf_sk (nl : Bool) (xs : List (Sk)) (g : FuncId) (caps : List AV) (p : Sk → Bool) (hl : lowL 0 caps = true) (hx : xs.length ≤ 100000) (hp : ∀ x ∈ xs, Comp Try.prog g (skA x :: caps) (.bool (p x))) :
    Comp Try.prog 142 [.sl nl (xs.map skA), .fn g caps] (.bool (xs.any p)) := by
  refine Comp.body (T := tab) (res := [.tmp 4]) tab_ok [] Try.func142 rfl (by kernel_rfl) Try.ntmps142 rfl (by simp only [List.length_cons, List.length_nil]; decide) (by simp only [lowL, AV.low, lowSk, hl]; rfl) ?_; conv => whnf
  refine XCall.ret (idxf_sk nl xs g caps p hl hx hp) ?_
  conv => whnf
  refine XOut.bool ?_
  rw [Bool.eq_iff_iff, decide_eq_true_eq]; exact idxR_pos
theorem every1_sk (x : Sk) (g : FuncId) (caps : List AV) (p : Sk → Bool) (hl : lowL 0 caps = true) (hp : Comp Try.prog g (skA x :: caps) (.bool (p x))) :
    Comp Try.prog 143 [skA x, .pim [.fn g caps]] (.bool (!p x)) := by
  refine Comp.body (T := tab) (res := [.tmp 3]) tab_ok [] Try.func143 rfl (by kernel_rfl) Try.ntmps143 rfl (by simp only [List.length_cons, List.length_nil]; decide) (by simp only [lowL, AV.low, skL, hl]; rfl) ?_; conv => whnf
  refine XCall.ret hp ?_
  conv => whnf
  exact XOut.bool rfl
theorem every_sk (nl : Bool) (xs : List (Sk)) (g : FuncId) (caps : List AV) (p : Sk → Bool) (hl : lowL 0 caps = true) (hx : xs.length ≤ 100000) (hp : ∀ x ∈ xs, Comp Try.prog g (skA x :: caps) (.bool (p x))) :
    Comp Try.prog 105 [.sl nl (xs.map skA), .fn g caps] (.bool (xs.all p)) := by
  refine Comp.body (T := tab) (res := [.tmp 4]) tab_ok [] Try.func105 rfl (by kernel_rfl) Try.ntmps105 rfl (by simp only [List.length_cons, List.length_nil]; decide) (by simp only [lowL, AV.low, lowSk, hl]; rfl) ?_; conv => whnf
  refine XCall.ret (contf_sk nl xs 143 [.pim [.fn g caps]] (fun x => !p x) (by simp only [lowL, AV.low, hl]; rfl) hx fun x hm => every1_sk x g caps p hl (hp x hm)) ?_
  conv => whnf
  refine XOut.bool ?_
  rw [List.not_any_eq_all_not]; simp


theorem idxf_pr (nl : Bool) (xs : List (Int × Int)) (g : FuncId) (caps : List AV) (p : Int × Int → Bool) (hl : lowL 0 caps = true) (hx : xs.length ≤ 100000) (hp : ∀ x ∈ xs, Comp Try.prog g (prA x :: caps) (.bool (p x))) :
    Comp Try.prog 129 [.sl nl (xs.map prA), .fn g caps] (.int .i64 (idxR p xs)) := by
  refine Comp.body (T := tab) (res := [.tmp 4]) tab_ok [] Try.func129 rfl (by kernel_rfl) Try.ntmps129 rfl (by simp only [List.length_cons, List.length_nil]; decide) (by simp only [lowL, AV.low, lowPr, hl]; rfl) ?_; conv => whnf
  refine Walk.loop tab_ok [] (fun i : Nat => i ≤ xs.length ∧ ∀ j, j < i → p (xs.getD j default) = false) (fun i => [(0, .sl nl (xs.map prA)), (1, .fn g caps), (7, .int .i64 xs.length), (8, .int .i64 i)]) (fun _ => []) (fun i => xs.length - i) 0 ⟨by omega, by omega⟩ rfl ⟨rfl, rfl, by simp only [List.length_map]; rfl, rfl, trivial⟩ ?_
  rintro i ⟨h2, h3⟩
  conv => whnf
  repeat' first | ((with_reducible first | apply XBr.tt | apply XBr.ff | apply Chk.go | apply ChkA.go | apply ChkF.go | apply ChkB.go | apply XArr.pim0 | apply XArr.pim1); conv => whnf) | (with_reducible apply XBr.not) | ((with_reducible apply XBr.dec) <;> (intro h; first | (exfalso; omega) | ((try simp only [List.length_map] at h); first | (exfalso; omega) | (conv => whnf)))) | ((with_reducible first | apply XBr.beq | apply XBr.bne) <;> (intro h; first | (exfalso; omega) | (conv => whnf))) | ((with_reducible refine XInt.i64 (by omega) (by omega) ?_); conv => whnf) | ((with_reducible refine XHold.mk ?_ ?_); (first | omega | rfl | decide | exact ⟨rfl, by decide, rfl⟩ | exact wideI _ | exact widePr _ | exact wideSk _ | (unfold Room; constructor <;> ((try simp) <;> omega)) | exact ⟨rfl, by simp only [List.length_map], by unfold Room; constructor <;> ((try simp) <;> omega)⟩ | exact ⟨by omega, by omega, by unfold Room; constructor <;> ((try simp) <;> omega)⟩); conv => whnf) | ((first | ((with_reducible refine XIx.nat ?_ ?_ ?_); omega; (intro _; rfl)) | ((with_reducible refine XIx.map ?_ ?_ ?_ ?_); omega; omega; (intro _; rfl))); conv => whnf) | (with_reducible apply XAnd.mk) | (exact XSame.mk rfl rfl) | (exact XSame.mk (by first | rfl | (simp only [List.map_append, List.length_append, List.length_map]; done) | (simp only [List.map_append, List.length_append, List.length_map]; rfl)) (by first | rfl | (simp only [List.map_append]; done) | (simp only [List.map_append]; rfl))) | (with_reducible exact trivial) | ((first | (with_reducible refine xdrop_app (by rw [List.length_map]; omega) ?_) | (with_reducible refine XDrop.desk (by assumption) ?_) | (with_reducible first | refine XArr.ints (by omega) (by omega) (by omega) ?_ | refine XArr.intsA (by omega) (by omega) (by omega) ?_) | ((with_reducible first | refine XArr.nats ?_ ?_ ?_ | refine XArr.natsA ?_ ?_ ?_ | refine XArr.ptr ?_ ?_ ?_); omega; omega)); conv => whnf) | ((with_reducible apply XBr.mk') <;> (intro h; conv => whnf))
  · refine XCall.ret (hp _ (getD_mem (i := i) (d := default) (by omega))) ?_
    conv => whnf
    refine XBr.mk' ?_ ?_ <;> intro h4 <;> (conv => whnf)
    · refine XOut.int ?_
      simp only [idxR, find_some (d := default) (i := i) (by omega) h4 h3]
    · skip
      repeat' first | ((with_reducible first | apply XBr.tt | apply XBr.ff | apply Chk.go | apply ChkA.go | apply ChkF.go | apply ChkB.go | apply XArr.pim0 | apply XArr.pim1); conv => whnf) | (with_reducible apply XBr.not) | ((with_reducible apply XBr.dec) <;> (intro h; first | (exfalso; omega) | ((try simp only [List.length_map] at h); first | (exfalso; omega) | (conv => whnf)))) | ((with_reducible first | apply XBr.beq | apply XBr.bne) <;> (intro h; first | (exfalso; omega) | (conv => whnf))) | ((with_reducible refine XInt.i64 (by omega) (by omega) ?_); conv => whnf) | ((with_reducible refine XHold.mk ?_ ?_); (first | omega | rfl | decide | exact ⟨rfl, by decide, rfl⟩ | exact wideI _ | exact widePr _ | exact wideSk _ | (unfold Room; constructor <;> ((try simp) <;> omega)) | exact ⟨rfl, by simp only [List.length_map], by unfold Room; constructor <;> ((try simp) <;> omega)⟩ | exact ⟨by omega, by omega, by unfold Room; constructor <;> ((try simp) <;> omega)⟩); conv => whnf) | ((first | ((with_reducible refine XIx.nat ?_ ?_ ?_); omega; (intro _; rfl)) | ((with_reducible refine XIx.map ?_ ?_ ?_ ?_); omega; omega; (intro _; rfl))); conv => whnf) | (with_reducible apply XAnd.mk) | (exact XSame.mk rfl rfl) | (exact XSame.mk (by first | rfl | (simp only [List.map_append, List.length_append, List.length_map]; done) | (simp only [List.map_append, List.length_append, List.length_map]; rfl)) (by first | rfl | (simp only [List.map_append]; done) | (simp only [List.map_append]; rfl))) | (with_reducible exact trivial) | ((first | (with_reducible refine xdrop_app (by rw [List.length_map]; omega) ?_) | (with_reducible refine XDrop.desk (by assumption) ?_) | (with_reducible first | refine XArr.ints (by omega) (by omega) (by omega) ?_ | refine XArr.intsA (by omega) (by omega) (by omega) ?_) | ((with_reducible first | refine XArr.nats ?_ ?_ ?_ | refine XArr.natsA ?_ ?_ ?_ | refine XArr.ptr ?_ ?_ ?_); omega; omega)); conv => whnf) | ((with_reducible apply XBr.mk') <;> (intro h; conv => whnf))
      refine XAgain.go (i + 1) ⟨by omega, fun j hj => ?_⟩ (by omega) rfl ⟨rfl, rfl, rfl, rfl, trivial⟩
      by_cases hji : j = i
      · subst hji; exact h4
      · exact h3 j (by omega)
  · refine XOut.int ?_
    simp only [idxR, find_none (d := default) fun j hj => h3 j (by omega)]
theorem contf_pr (nl : Bool) (xs : List (Int × Int)) (g : FuncId) (caps : List AV) (p : Int × Int → Bool) (hl : lowL 0 caps = true) (hx : xs.length ≤ 100000) (hp : ∀ x ∈ xs, Comp Try.prog g (prA x :: caps) (.bool (p x))) :
    Comp Try.prog 71 [.sl nl (xs.map prA), .fn g caps] (.bool (xs.any p)) := by
  refine Comp.body (T := tab) (res := [.tmp 4]) tab_ok [] Try.func71 rfl (by kernel_rfl) Try.ntmps71 rfl (by simp only [List.length_cons, List.length_nil]; decide) (by simp only [lowL, AV.low, lowPr, hl]; rfl) ?_; conv => whnf
  refine XCall.ret (idxf_pr nl xs g caps p hl hx hp) ?_
  conv => whnf
  refine XOut.bool ?_
  rw [Bool.eq_iff_iff, decide_eq_true_eq]; exact idxR_pos
theorem every1_pr (x : Int × Int) (g : FuncId) (caps : List AV) (p : Int × Int → Bool) (hl : lowL 0 caps = true) (hp : Comp Try.prog g (prA x :: caps) (.bool (p x))) :
    Comp Try.prog 144 [prA x, .pim [.fn g caps]] (.bool (!p x)) := by
  refine Comp.body (T := tab) (res := [.tmp 3]) tab_ok [] Try.func144 rfl (by kernel_rfl) Try.ntmps144 rfl (by simp only [List.length_cons, List.length_nil]; decide) (by simp only [lowL, AV.low, prL, hl]; rfl) ?_; conv => whnf
  refine XCall.ret hp ?_
  conv => whnf
  exact XOut.bool rfl
theorem every_pr (nl : Bool) (xs : List (Int × Int)) (g : FuncId) (caps : List AV) (p : Int × Int → Bool) (hl : lowL 0 caps = true) (hx : xs.length ≤ 100000) (hp : ∀ x ∈ xs, Comp Try.prog g (prA x :: caps) (.bool (p x))) :
    Comp Try.prog 107 [.sl nl (xs.map prA), .fn g caps] (.bool (xs.all p)) := by
  refine Comp.body (T := tab) (res := [.tmp 4]) tab_ok [] Try.func107 rfl (by kernel_rfl) Try.ntmps107 rfl (by simp only [List.length_cons, List.length_nil]; decide) (by simp only [lowL, AV.low, lowPr, hl]; rfl) ?_; conv => whnf
  refine XCall.ret (contf_pr nl xs 144 [.pim [.fn g caps]] (fun x => !p x) (by simp only [lowL, AV.low, hl]; rfl) hx fun x hm => every1_pr x g caps p hl (hp x hm)) ?_
  conv => whnf
  refine XOut.bool ?_
  rw [List.not_any_eq_all_not]; simp


theorem sack_in (s : Sk) : Comp Try.prog 106 [skA s] (.bool (inB s.m 1 100 && inB s.o 0 5)) := by
  refine Comp.body (T := tab) (res := [.tmp 2]) tab_ok [] Try.func106 rfl (by kernel_rfl) Try.ntmps106 rfl (by simp only [List.length_cons, List.length_nil]; decide) (by rfl) ?_; conv => whnf
  refine XCall.ret (in_c _ _ _) ?_
  conv => whnf
  refine XBr.mk' ?_ ?_ <;> intro h <;> (conv => whnf)
  · skip
    repeat' first | ((with_reducible first | apply XBr.tt | apply XBr.ff | apply Chk.go | apply ChkA.go | apply ChkF.go | apply ChkB.go | apply XArr.pim0 | apply XArr.pim1); conv => whnf) | (with_reducible apply XBr.not) | ((with_reducible apply XBr.dec) <;> (intro h; first | (exfalso; omega) | ((try simp only [List.length_map] at h); first | (exfalso; omega) | (conv => whnf)))) | ((with_reducible first | apply XBr.beq | apply XBr.bne) <;> (intro h; first | (exfalso; omega) | (conv => whnf))) | ((with_reducible refine XInt.i64 (by omega) (by omega) ?_); conv => whnf) | ((with_reducible refine XHold.mk ?_ ?_); (first | omega | rfl | decide | exact ⟨rfl, by decide, rfl⟩ | exact wideI _ | exact widePr _ | exact wideSk _ | (unfold Room; constructor <;> ((try simp) <;> omega)) | exact ⟨rfl, by simp only [List.length_map], by unfold Room; constructor <;> ((try simp) <;> omega)⟩ | exact ⟨by omega, by omega, by unfold Room; constructor <;> ((try simp) <;> omega)⟩); conv => whnf) | ((first | ((with_reducible refine XIx.nat ?_ ?_ ?_); omega; (intro _; rfl)) | ((with_reducible refine XIx.map ?_ ?_ ?_ ?_); omega; omega; (intro _; rfl))); conv => whnf) | (with_reducible apply XAnd.mk) | (exact XSame.mk rfl rfl) | (exact XSame.mk (by first | rfl | (simp only [List.map_append, List.length_append, List.length_map]; done) | (simp only [List.map_append, List.length_append, List.length_map]; rfl)) (by first | rfl | (simp only [List.map_append]; done) | (simp only [List.map_append]; rfl))) | (with_reducible exact trivial) | ((first | (with_reducible refine xdrop_app (by rw [List.length_map]; omega) ?_) | (with_reducible refine XDrop.desk (by assumption) ?_) | (with_reducible first | refine XArr.ints (by omega) (by omega) (by omega) ?_ | refine XArr.intsA (by omega) (by omega) (by omega) ?_) | ((with_reducible first | refine XArr.nats ?_ ?_ ?_ | refine XArr.natsA ?_ ?_ ?_ | refine XArr.ptr ?_ ?_ ?_); omega; omega)); conv => whnf) | ((with_reducible apply XBr.mk') <;> (intro h; conv => whnf))
    refine XCall.ret (in_c _ _ _) ?_
    conv => whnf
    repeat' first | ((with_reducible first | apply XBr.tt | apply XBr.ff | apply Chk.go | apply ChkA.go | apply ChkF.go | apply ChkB.go | apply XArr.pim0 | apply XArr.pim1); conv => whnf) | (with_reducible apply XBr.not) | ((with_reducible apply XBr.dec) <;> (intro h; first | (exfalso; omega) | ((try simp only [List.length_map] at h); first | (exfalso; omega) | (conv => whnf)))) | ((with_reducible first | apply XBr.beq | apply XBr.bne) <;> (intro h; first | (exfalso; omega) | (conv => whnf))) | ((with_reducible refine XInt.i64 (by omega) (by omega) ?_); conv => whnf) | ((with_reducible refine XHold.mk ?_ ?_); (first | omega | rfl | decide | exact ⟨rfl, by decide, rfl⟩ | exact wideI _ | exact widePr _ | exact wideSk _ | (unfold Room; constructor <;> ((try simp) <;> omega)) | exact ⟨rfl, by simp only [List.length_map], by unfold Room; constructor <;> ((try simp) <;> omega)⟩ | exact ⟨by omega, by omega, by unfold Room; constructor <;> ((try simp) <;> omega)⟩); conv => whnf) | ((first | ((with_reducible refine XIx.nat ?_ ?_ ?_); omega; (intro _; rfl)) | ((with_reducible refine XIx.map ?_ ?_ ?_ ?_); omega; omega; (intro _; rfl))); conv => whnf) | (with_reducible apply XAnd.mk) | (exact XSame.mk rfl rfl) | (exact XSame.mk (by first | rfl | (simp only [List.map_append, List.length_append, List.length_map]; done) | (simp only [List.map_append, List.length_append, List.length_map]; rfl)) (by first | rfl | (simp only [List.map_append]; done) | (simp only [List.map_append]; rfl))) | (with_reducible exact trivial) | ((first | (with_reducible refine xdrop_app (by rw [List.length_map]; omega) ?_) | (with_reducible refine XDrop.desk (by assumption) ?_) | (with_reducible first | refine XArr.ints (by omega) (by omega) (by omega) ?_ | refine XArr.intsA (by omega) (by omega) (by omega) ?_) | ((with_reducible first | refine XArr.nats ?_ ?_ ?_ | refine XArr.natsA ?_ ?_ ?_ | refine XArr.ptr ?_ ?_ ?_); omega; omega)); conv => whnf) | ((with_reducible apply XBr.mk') <;> (intro h; conv => whnf))
    refine XOut.bool ?_
    simp [h]
  · skip
    repeat' first | ((with_reducible first | apply XBr.tt | apply XBr.ff | apply Chk.go | apply ChkA.go | apply ChkF.go | apply ChkB.go | apply XArr.pim0 | apply XArr.pim1); conv => whnf) | (with_reducible apply XBr.not) | ((with_reducible apply XBr.dec) <;> (intro h; first | (exfalso; omega) | ((try simp only [List.length_map] at h); first | (exfalso; omega) | (conv => whnf)))) | ((with_reducible first | apply XBr.beq | apply XBr.bne) <;> (intro h; first | (exfalso; omega) | (conv => whnf))) | ((with_reducible refine XInt.i64 (by omega) (by omega) ?_); conv => whnf) | ((with_reducible refine XHold.mk ?_ ?_); (first | omega | rfl | decide | exact ⟨rfl, by decide, rfl⟩ | exact wideI _ | exact widePr _ | exact wideSk _ | (unfold Room; constructor <;> ((try simp) <;> omega)) | exact ⟨rfl, by simp only [List.length_map], by unfold Room; constructor <;> ((try simp) <;> omega)⟩ | exact ⟨by omega, by omega, by unfold Room; constructor <;> ((try simp) <;> omega)⟩); conv => whnf) | ((first | ((with_reducible refine XIx.nat ?_ ?_ ?_); omega; (intro _; rfl)) | ((with_reducible refine XIx.map ?_ ?_ ?_ ?_); omega; omega; (intro _; rfl))); conv => whnf) | (with_reducible apply XAnd.mk) | (exact XSame.mk rfl rfl) | (exact XSame.mk (by first | rfl | (simp only [List.map_append, List.length_append, List.length_map]; done) | (simp only [List.map_append, List.length_append, List.length_map]; rfl)) (by first | rfl | (simp only [List.map_append]; done) | (simp only [List.map_append]; rfl))) | (with_reducible exact trivial) | ((first | (with_reducible refine xdrop_app (by rw [List.length_map]; omega) ?_) | (with_reducible refine XDrop.desk (by assumption) ?_) | (with_reducible first | refine XArr.ints (by omega) (by omega) (by omega) ?_ | refine XArr.intsA (by omega) (by omega) (by omega) ?_) | ((with_reducible first | refine XArr.nats ?_ ?_ ?_ | refine XArr.natsA ?_ ?_ ?_ | refine XArr.ptr ?_ ?_ ?_); omega; omega)); conv => whnf) | ((with_reducible apply XBr.mk') <;> (intro h; conv => whnf))
    refine XOut.bool ?_
    simp [h]
theorem pair_ne (p : Int × Int) : Comp Try.prog 109 [prA p] (.bool (p.1 != p.2)) := by
  refine Comp.body (T := tab) (res := [.tmp 2]) tab_ok [] Try.func109 rfl (by kernel_rfl) Try.ntmps109 rfl (by simp only [List.length_cons, List.length_nil]; decide) (by rfl) ?_; conv => whnf
  repeat' first | ((with_reducible first | apply XBr.tt | apply XBr.ff | apply Chk.go | apply ChkA.go | apply ChkF.go | apply ChkB.go | apply XArr.pim0 | apply XArr.pim1); conv => whnf) | (with_reducible apply XBr.not) | ((with_reducible apply XBr.dec) <;> (intro h; first | (exfalso; omega) | ((try simp only [List.length_map] at h); first | (exfalso; omega) | (conv => whnf)))) | ((with_reducible first | apply XBr.beq | apply XBr.bne) <;> (intro h; first | (exfalso; omega) | (conv => whnf))) | ((with_reducible refine XInt.i64 (by omega) (by omega) ?_); conv => whnf) | ((with_reducible refine XHold.mk ?_ ?_); (first | omega | rfl | decide | exact ⟨rfl, by decide, rfl⟩ | exact wideI _ | exact widePr _ | exact wideSk _ | (unfold Room; constructor <;> ((try simp) <;> omega)) | exact ⟨rfl, by simp only [List.length_map], by unfold Room; constructor <;> ((try simp) <;> omega)⟩ | exact ⟨by omega, by omega, by unfold Room; constructor <;> ((try simp) <;> omega)⟩); conv => whnf) | ((first | ((with_reducible refine XIx.nat ?_ ?_ ?_); omega; (intro _; rfl)) | ((with_reducible refine XIx.map ?_ ?_ ?_ ?_); omega; omega; (intro _; rfl))); conv => whnf) | (with_reducible apply XAnd.mk) | (exact XSame.mk rfl rfl) | (exact XSame.mk (by first | rfl | (simp only [List.map_append, List.length_append, List.length_map]; done) | (simp only [List.map_append, List.length_append, List.length_map]; rfl)) (by first | rfl | (simp only [List.map_append]; done) | (simp only [List.map_append]; rfl))) | (with_reducible exact trivial) | ((first | (with_reducible refine xdrop_app (by rw [List.length_map]; omega) ?_) | (with_reducible refine XDrop.desk (by assumption) ?_) | (with_reducible first | refine XArr.ints (by omega) (by omega) (by omega) ?_ | refine XArr.intsA (by omega) (by omega) (by omega) ?_) | ((with_reducible first | refine XArr.nats ?_ ?_ ?_ | refine XArr.natsA ?_ ?_ ?_ | refine XArr.ptr ?_ ?_ ?_); omega; omega)); conv => whnf) | ((with_reducible apply XBr.mk') <;> (intro h; conv => whnf))
  exact XOut.bool rfl

structure Ld where
  bears : Int
  shrink : Int
  nls : Bool
  sacks : List Sk
  nla : Bool
  apart : List (Int × Int)
  nlw : Bool
  wth : List (Int × Int)
def ldC (l : Ld) : List AV := [.int .i64 l.bears, .int .i64 l.shrink, .sl l.nls (l.sacks.map skA), .sl l.nla (l.apart.map prA), .sl l.nlw (l.wth.map prA)]
def ldA (l : Ld) : AV := .agg (ldC l)
theorem lowLd {n : Nat} (l : Ld) : lowL n (ldC l) = true := by simp only [ldC, lowL, AV.low, lowSk, lowPr]; rfl
theorem ldL {n : Nat} (l : Ld) : (ldA l).low n = true := by unfold ldA; simp only [AV.low, lowLd]

theorem sack_c (l : Ld) (n : Int) (hx : l.sacks.length ≤ 100000) : Comp Try.prog 98 [ldA l, .int .i64 n] (.bool (inB n 0 (l.sacks.length - 1))) := by
  refine Comp.body (T := tab) (res := [.tmp 4]) tab_ok [] Try.func98 rfl (by kernel_rfl) Try.ntmps98 rfl (by simp only [List.length_cons, List.length_nil]; decide) (by simp only [lowL, AV.low, ldL]; rfl) ?_; conv => whnf
  have hm : (l.sacks.map skA).length = l.sacks.length := List.length_map ..
  repeat' first | ((with_reducible first | apply XBr.tt | apply XBr.ff | apply Chk.go | apply ChkA.go | apply ChkF.go | apply ChkB.go | apply XArr.pim0 | apply XArr.pim1); conv => whnf) | (with_reducible apply XBr.not) | ((with_reducible apply XBr.dec) <;> (intro h; first | (exfalso; omega) | ((try simp only [List.length_map] at h); first | (exfalso; omega) | (conv => whnf)))) | ((with_reducible first | apply XBr.beq | apply XBr.bne) <;> (intro h; first | (exfalso; omega) | (conv => whnf))) | ((with_reducible refine XInt.i64 (by omega) (by omega) ?_); conv => whnf) | ((with_reducible refine XHold.mk ?_ ?_); (first | omega | rfl | decide | exact ⟨rfl, by decide, rfl⟩ | exact wideI _ | exact widePr _ | exact wideSk _ | (unfold Room; constructor <;> ((try simp) <;> omega)) | exact ⟨rfl, by simp only [List.length_map], by unfold Room; constructor <;> ((try simp) <;> omega)⟩ | exact ⟨by omega, by omega, by unfold Room; constructor <;> ((try simp) <;> omega)⟩); conv => whnf) | ((first | ((with_reducible refine XIx.nat ?_ ?_ ?_); omega; (intro _; rfl)) | ((with_reducible refine XIx.map ?_ ?_ ?_ ?_); omega; omega; (intro _; rfl))); conv => whnf) | (with_reducible apply XAnd.mk) | (exact XSame.mk rfl rfl) | (exact XSame.mk (by first | rfl | (simp only [List.map_append, List.length_append, List.length_map]; done) | (simp only [List.map_append, List.length_append, List.length_map]; rfl)) (by first | rfl | (simp only [List.map_append]; done) | (simp only [List.map_append]; rfl))) | (with_reducible exact trivial) | ((first | (with_reducible refine xdrop_app (by rw [List.length_map]; omega) ?_) | (with_reducible refine XDrop.desk (by assumption) ?_) | (with_reducible first | refine XArr.ints (by omega) (by omega) (by omega) ?_ | refine XArr.intsA (by omega) (by omega) (by omega) ?_) | ((with_reducible first | refine XArr.nats ?_ ?_ ?_ | refine XArr.natsA ?_ ?_ ?_ | refine XArr.ptr ?_ ?_ ?_); omega; omega)); conv => whnf) | ((with_reducible apply XBr.mk') <;> (intro h; conv => whnf))
  refine XCall.ret (in_c _ _ _) ?_
  conv => whnf
  refine XOut.bool ?_
  simp
theorem pair_in (l : Ld) (p : Int × Int) (hx : l.sacks.length ≤ 100000) : Comp Try.prog 108 [prA p, .pim (ldC l)] (.bool (inB p.1 0 (l.sacks.length - 1) && inB p.2 0 (l.sacks.length - 1))) := by
  refine Comp.body (T := tab) (res := [.tmp 3]) tab_ok [] Try.func108 rfl (by kernel_rfl) Try.ntmps108 rfl (by simp only [List.length_cons, List.length_nil]; decide) (by simp only [lowL, AV.low, prL, lowLd]; rfl) ?_; conv => whnf
  repeat' first | ((with_reducible first | apply XBr.tt | apply XBr.ff | apply Chk.go | apply ChkA.go | apply ChkF.go | apply ChkB.go | apply XArr.pim0 | apply XArr.pim1); conv => whnf) | (with_reducible apply XBr.not) | ((with_reducible apply XBr.dec) <;> (intro h; first | (exfalso; omega) | ((try simp only [List.length_map] at h); first | (exfalso; omega) | (conv => whnf)))) | ((with_reducible first | apply XBr.beq | apply XBr.bne) <;> (intro h; first | (exfalso; omega) | (conv => whnf))) | ((with_reducible refine XInt.i64 (by omega) (by omega) ?_); conv => whnf) | ((with_reducible refine XHold.mk ?_ ?_); (first | omega | rfl | decide | exact ⟨rfl, by decide, rfl⟩ | exact wideI _ | exact widePr _ | exact wideSk _ | (unfold Room; constructor <;> ((try simp) <;> omega)) | exact ⟨rfl, by simp only [List.length_map], by unfold Room; constructor <;> ((try simp) <;> omega)⟩ | exact ⟨by omega, by omega, by unfold Room; constructor <;> ((try simp) <;> omega)⟩); conv => whnf) | ((first | ((with_reducible refine XIx.nat ?_ ?_ ?_); omega; (intro _; rfl)) | ((with_reducible refine XIx.map ?_ ?_ ?_ ?_); omega; omega; (intro _; rfl))); conv => whnf) | (with_reducible apply XAnd.mk) | (exact XSame.mk rfl rfl) | (exact XSame.mk (by first | rfl | (simp only [List.map_append, List.length_append, List.length_map]; done) | (simp only [List.map_append, List.length_append, List.length_map]; rfl)) (by first | rfl | (simp only [List.map_append]; done) | (simp only [List.map_append]; rfl))) | (with_reducible exact trivial) | ((first | (with_reducible refine xdrop_app (by rw [List.length_map]; omega) ?_) | (with_reducible refine XDrop.desk (by assumption) ?_) | (with_reducible first | refine XArr.ints (by omega) (by omega) (by omega) ?_ | refine XArr.intsA (by omega) (by omega) (by omega) ?_) | ((with_reducible first | refine XArr.nats ?_ ?_ ?_ | refine XArr.natsA ?_ ?_ ?_ | refine XArr.ptr ?_ ?_ ?_); omega; omega)); conv => whnf) | ((with_reducible apply XBr.mk') <;> (intro h; conv => whnf))
  refine XCall.ret (sack_c l _ hx) ?_
  conv => whnf
  refine XBr.mk' ?_ ?_ <;> intro h <;> (conv => whnf)
  · skip
    repeat' first | ((with_reducible first | apply XBr.tt | apply XBr.ff | apply Chk.go | apply ChkA.go | apply ChkF.go | apply ChkB.go | apply XArr.pim0 | apply XArr.pim1); conv => whnf) | (with_reducible apply XBr.not) | ((with_reducible apply XBr.dec) <;> (intro h; first | (exfalso; omega) | ((try simp only [List.length_map] at h); first | (exfalso; omega) | (conv => whnf)))) | ((with_reducible first | apply XBr.beq | apply XBr.bne) <;> (intro h; first | (exfalso; omega) | (conv => whnf))) | ((with_reducible refine XInt.i64 (by omega) (by omega) ?_); conv => whnf) | ((with_reducible refine XHold.mk ?_ ?_); (first | omega | rfl | decide | exact ⟨rfl, by decide, rfl⟩ | exact wideI _ | exact widePr _ | exact wideSk _ | (unfold Room; constructor <;> ((try simp) <;> omega)) | exact ⟨rfl, by simp only [List.length_map], by unfold Room; constructor <;> ((try simp) <;> omega)⟩ | exact ⟨by omega, by omega, by unfold Room; constructor <;> ((try simp) <;> omega)⟩); conv => whnf) | ((first | ((with_reducible refine XIx.nat ?_ ?_ ?_); omega; (intro _; rfl)) | ((with_reducible refine XIx.map ?_ ?_ ?_ ?_); omega; omega; (intro _; rfl))); conv => whnf) | (with_reducible apply XAnd.mk) | (exact XSame.mk rfl rfl) | (exact XSame.mk (by first | rfl | (simp only [List.map_append, List.length_append, List.length_map]; done) | (simp only [List.map_append, List.length_append, List.length_map]; rfl)) (by first | rfl | (simp only [List.map_append]; done) | (simp only [List.map_append]; rfl))) | (with_reducible exact trivial) | ((first | (with_reducible refine xdrop_app (by rw [List.length_map]; omega) ?_) | (with_reducible refine XDrop.desk (by assumption) ?_) | (with_reducible first | refine XArr.ints (by omega) (by omega) (by omega) ?_ | refine XArr.intsA (by omega) (by omega) (by omega) ?_) | ((with_reducible first | refine XArr.nats ?_ ?_ ?_ | refine XArr.natsA ?_ ?_ ?_ | refine XArr.ptr ?_ ?_ ?_); omega; omega)); conv => whnf) | ((with_reducible apply XBr.mk') <;> (intro h; conv => whnf))
    refine XCall.ret (sack_c l _ hx) ?_
    conv => whnf
    repeat' first | ((with_reducible first | apply XBr.tt | apply XBr.ff | apply Chk.go | apply ChkA.go | apply ChkF.go | apply ChkB.go | apply XArr.pim0 | apply XArr.pim1); conv => whnf) | (with_reducible apply XBr.not) | ((with_reducible apply XBr.dec) <;> (intro h; first | (exfalso; omega) | ((try simp only [List.length_map] at h); first | (exfalso; omega) | (conv => whnf)))) | ((with_reducible first | apply XBr.beq | apply XBr.bne) <;> (intro h; first | (exfalso; omega) | (conv => whnf))) | ((with_reducible refine XInt.i64 (by omega) (by omega) ?_); conv => whnf) | ((with_reducible refine XHold.mk ?_ ?_); (first | omega | rfl | decide | exact ⟨rfl, by decide, rfl⟩ | exact wideI _ | exact widePr _ | exact wideSk _ | (unfold Room; constructor <;> ((try simp) <;> omega)) | exact ⟨rfl, by simp only [List.length_map], by unfold Room; constructor <;> ((try simp) <;> omega)⟩ | exact ⟨by omega, by omega, by unfold Room; constructor <;> ((try simp) <;> omega)⟩); conv => whnf) | ((first | ((with_reducible refine XIx.nat ?_ ?_ ?_); omega; (intro _; rfl)) | ((with_reducible refine XIx.map ?_ ?_ ?_ ?_); omega; omega; (intro _; rfl))); conv => whnf) | (with_reducible apply XAnd.mk) | (exact XSame.mk rfl rfl) | (exact XSame.mk (by first | rfl | (simp only [List.map_append, List.length_append, List.length_map]; done) | (simp only [List.map_append, List.length_append, List.length_map]; rfl)) (by first | rfl | (simp only [List.map_append]; done) | (simp only [List.map_append]; rfl))) | (with_reducible exact trivial) | ((first | (with_reducible refine xdrop_app (by rw [List.length_map]; omega) ?_) | (with_reducible refine XDrop.desk (by assumption) ?_) | (with_reducible first | refine XArr.ints (by omega) (by omega) (by omega) ?_ | refine XArr.intsA (by omega) (by omega) (by omega) ?_) | ((with_reducible first | refine XArr.nats ?_ ?_ ?_ | refine XArr.natsA ?_ ?_ ?_ | refine XArr.ptr ?_ ?_ ?_); omega; omega)); conv => whnf) | ((with_reducible apply XBr.mk') <;> (intro h; conv => whnf))
    refine XOut.bool ?_
    simp [h]
  · skip
    repeat' first | ((with_reducible first | apply XBr.tt | apply XBr.ff | apply Chk.go | apply ChkA.go | apply ChkF.go | apply ChkB.go | apply XArr.pim0 | apply XArr.pim1); conv => whnf) | (with_reducible apply XBr.not) | ((with_reducible apply XBr.dec) <;> (intro h; first | (exfalso; omega) | ((try simp only [List.length_map] at h); first | (exfalso; omega) | (conv => whnf)))) | ((with_reducible first | apply XBr.beq | apply XBr.bne) <;> (intro h; first | (exfalso; omega) | (conv => whnf))) | ((with_reducible refine XInt.i64 (by omega) (by omega) ?_); conv => whnf) | ((with_reducible refine XHold.mk ?_ ?_); (first | omega | rfl | decide | exact ⟨rfl, by decide, rfl⟩ | exact wideI _ | exact widePr _ | exact wideSk _ | (unfold Room; constructor <;> ((try simp) <;> omega)) | exact ⟨rfl, by simp only [List.length_map], by unfold Room; constructor <;> ((try simp) <;> omega)⟩ | exact ⟨by omega, by omega, by unfold Room; constructor <;> ((try simp) <;> omega)⟩); conv => whnf) | ((first | ((with_reducible refine XIx.nat ?_ ?_ ?_); omega; (intro _; rfl)) | ((with_reducible refine XIx.map ?_ ?_ ?_ ?_); omega; omega; (intro _; rfl))); conv => whnf) | (with_reducible apply XAnd.mk) | (exact XSame.mk rfl rfl) | (exact XSame.mk (by first | rfl | (simp only [List.map_append, List.length_append, List.length_map]; done) | (simp only [List.map_append, List.length_append, List.length_map]; rfl)) (by first | rfl | (simp only [List.map_append]; done) | (simp only [List.map_append]; rfl))) | (with_reducible exact trivial) | ((first | (with_reducible refine xdrop_app (by rw [List.length_map]; omega) ?_) | (with_reducible refine XDrop.desk (by assumption) ?_) | (with_reducible first | refine XArr.ints (by omega) (by omega) (by omega) ?_ | refine XArr.intsA (by omega) (by omega) (by omega) ?_) | ((with_reducible first | refine XArr.nats ?_ ?_ ?_ | refine XArr.natsA ?_ ?_ ?_ | refine XArr.ptr ?_ ?_ ?_); omega; omega)); conv => whnf) | ((with_reducible apply XBr.mk') <;> (intro h; conv => whnf))
    refine XOut.bool ?_
    simp [h]
end GA
end

section
namespace GA
open Go Go.RowKit Go.Proofs
set_option pp.deepTerms true
set_option maxRecDepth 8000
set_option linter.unusedVariables false
set_option linter.unusedSimpArgs false

def prIn (l : Ld) (p : Int × Int) : Bool := inB p.1 0 (l.sacks.length - 1) && inB p.2 0 (l.sacks.length - 1)
def checkR (l : Ld) : Int :=
  if 9 < l.sacks.length ∨ 8 < l.apart.length ∨ 8 < l.wth.length then 2
  else if (inB l.bears 1 100 && inB l.shrink 0 90) = false then 3
  else if (l.sacks.all fun s => inB s.m 1 100 && inB s.o 0 5) = false then 3
  else if ((l.apart ++ l.wth).all (prIn l)) = false then 1
  else if ((l.apart ++ l.wth).all fun p => p.1 != p.2) = false then 5 else 0

theorem check_c (l : Ld) (hw : l.nla = true → l.apart = []) (h1 : l.sacks.length ≤ 100000) (h2 : l.apart.length ≤ 1000) (h3 : l.wth.length ≤ 1000) : Comp Try.prog 51 [ldA l] (.int .i64 (checkR l)) := by
  refine Comp.body (T := tab) (res := [.tmp 2]) tab_ok [] Try.func51 rfl (by kernel_rfl) Try.ntmps51 rfl (by simp only [List.length_cons, List.length_nil]; decide) (by simp only [lowL, AV.low, ldL]; rfl) ?_; conv => whnf
  have hA : ∀ n, Froz Try.prog [.grow 118 n ((l.apart ++ l.wth).map prA)] (.gr 0 (l.apart ++ l.wth).length) (.sl n ((l.apart ++ l.wth).map prA)) := fun n => Froz.grow rfl (by simp) (lowPr _)
  cases hn : l.nla with
  | false =>
    apply Walk.drawX tab_ok mixed_ok [] [2, 5] (hsC [[], [.grow 118 false (l.apart.map prA)], [.grow 118 false ((l.apart ++ l.wth).map prA)]]) [_, _, .gr 0 l.apart.length, _, _, .gr 0 (l.apart ++ l.wth).length, _] (by kernel_rfl) rfl
    · skip
      repeat' first | ((with_reducible first | apply XBr.tt | apply XBr.ff | apply Chk.go | apply ChkA.go | apply ChkF.go | apply ChkB.go | apply XArr.pim0 | apply XArr.pim1); conv => whnf) | (with_reducible apply XBr.not) | ((with_reducible apply XBr.dec) <;> (intro h; first | (exfalso; omega) | ((try simp only [List.length_map] at h); first | (exfalso; omega) | (conv => whnf)))) | ((with_reducible first | apply XBr.beq | apply XBr.bne) <;> (intro h; first | (exfalso; omega) | (conv => whnf))) | ((with_reducible refine XInt.i64 (by omega) (by omega) ?_); conv => whnf) | ((with_reducible refine XHold.mk ?_ ?_); (first | omega | rfl | decide | exact ⟨rfl, by decide, rfl⟩ | exact wideI _ | exact widePr _ | exact wideSk _ | (unfold Room; constructor <;> ((try simp) <;> omega)) | exact ⟨rfl, by simp only [List.length_map], by unfold Room; constructor <;> ((try simp) <;> omega)⟩ | exact ⟨by omega, by omega, by unfold Room; constructor <;> ((try simp) <;> omega)⟩); conv => whnf) | ((first | ((with_reducible refine XIx.nat ?_ ?_ ?_); omega; (intro _; rfl)) | ((with_reducible refine XIx.map ?_ ?_ ?_ ?_); omega; omega; (intro _; rfl))); conv => whnf) | (with_reducible apply XAnd.mk) | (exact XSame.mk rfl rfl) | (exact XSame.mk (by first | rfl | (simp only [List.map_append, List.length_append, List.length_map]; done) | (simp only [List.map_append, List.length_append, List.length_map]; rfl)) (by first | rfl | (simp only [List.map_append]; done) | (simp only [List.map_append]; rfl))) | (with_reducible exact trivial) | ((first | (with_reducible refine xdrop_app (by rw [List.length_map]; omega) ?_) | (with_reducible refine XDrop.desk (by assumption) ?_) | (with_reducible first | refine XArr.ints (by omega) (by omega) (by omega) ?_ | refine XArr.intsA (by omega) (by omega) (by omega) ?_) | ((with_reducible first | refine XArr.nats ?_ ?_ ?_ | refine XArr.natsA ?_ ?_ ?_ | refine XArr.ptr ?_ ?_ ?_); omega; omega)); conv => whnf) | ((with_reducible apply XBr.mk') <;> (intro h; conv => whnf))
      · refine XCall.inl (T := tab) (res := [.tmp 2]) tab_ok [] Try.func104 rfl (by kernel_rfl) Try.ntmps104 rfl (by simp only [List.length_append, List.length_cons, List.length_nil]; decide) ?_; conv => whnf
        refine XBr.no hn ?_
        conv => whnf
        repeat' first | ((with_reducible first | apply XBr.tt | apply XBr.ff | apply Chk.go | apply ChkA.go | apply ChkF.go | apply ChkB.go | apply XArr.pim0 | apply XArr.pim1); conv => whnf) | (with_reducible apply XBr.not) | ((with_reducible apply XBr.dec) <;> (intro h; first | (exfalso; omega) | ((try simp only [List.length_map] at h); first | (exfalso; omega) | (conv => whnf)))) | ((with_reducible first | apply XBr.beq | apply XBr.bne) <;> (intro h; first | (exfalso; omega) | (conv => whnf))) | ((with_reducible refine XInt.i64 (by omega) (by omega) ?_); conv => whnf) | ((with_reducible refine XHold.mk ?_ ?_); (first | omega | rfl | decide | exact ⟨rfl, by decide, rfl⟩ | exact wideI _ | exact widePr _ | exact wideSk _ | (unfold Room; constructor <;> ((try simp) <;> omega)) | exact ⟨rfl, by simp only [List.length_map], by unfold Room; constructor <;> ((try simp) <;> omega)⟩ | exact ⟨by omega, by omega, by unfold Room; constructor <;> ((try simp) <;> omega)⟩); conv => whnf) | ((first | ((with_reducible refine XIx.nat ?_ ?_ ?_); omega; (intro _; rfl)) | ((with_reducible refine XIx.map ?_ ?_ ?_ ?_); omega; omega; (intro _; rfl))); conv => whnf) | (with_reducible apply XAnd.mk) | (exact XSame.mk rfl rfl) | (exact XSame.mk (by first | rfl | (simp only [List.map_append, List.length_append, List.length_map]; done) | (simp only [List.map_append, List.length_append, List.length_map]; rfl)) (by first | rfl | (simp only [List.map_append]; done) | (simp only [List.map_append]; rfl))) | (with_reducible exact trivial) | ((first | (with_reducible refine xdrop_app (by rw [List.length_map]; omega) ?_) | (with_reducible refine XDrop.desk (by assumption) ?_) | (with_reducible first | refine XArr.ints (by omega) (by omega) (by omega) ?_ | refine XArr.intsA (by omega) (by omega) (by omega) ?_) | ((with_reducible first | refine XArr.nats ?_ ?_ ?_ | refine XArr.natsA ?_ ?_ ?_ | refine XArr.ptr ?_ ?_ ?_); omega; omega)); conv => whnf) | ((with_reducible apply XBr.mk') <;> (intro h; conv => whnf))
    · skip
      repeat' first | ((with_reducible first | apply XBr.tt | apply XBr.ff | apply Chk.go | apply ChkA.go | apply ChkF.go | apply ChkB.go | apply XArr.pim0 | apply XArr.pim1); conv => whnf) | (with_reducible apply XBr.not) | ((with_reducible apply XBr.dec) <;> (intro h; first | (exfalso; omega) | ((try simp only [List.length_map] at h); first | (exfalso; omega) | (conv => whnf)))) | ((with_reducible first | apply XBr.beq | apply XBr.bne) <;> (intro h; first | (exfalso; omega) | (conv => whnf))) | ((with_reducible refine XInt.i64 (by omega) (by omega) ?_); conv => whnf) | ((with_reducible refine XHold.mk ?_ ?_); (first | omega | rfl | decide | exact ⟨rfl, by decide, rfl⟩ | exact wideI _ | exact widePr _ | exact wideSk _ | (unfold Room; constructor <;> ((try simp) <;> omega)) | exact ⟨rfl, by simp only [List.length_map], by unfold Room; constructor <;> ((try simp) <;> omega)⟩ | exact ⟨by omega, by omega, by unfold Room; constructor <;> ((try simp) <;> omega)⟩); conv => whnf) | ((first | ((with_reducible refine XIx.nat ?_ ?_ ?_); omega; (intro _; rfl)) | ((with_reducible refine XIx.map ?_ ?_ ?_ ?_); omega; omega; (intro _; rfl))); conv => whnf) | (with_reducible apply XAnd.mk) | (exact XSame.mk rfl rfl) | (exact XSame.mk (by first | rfl | (simp only [List.map_append, List.length_append, List.length_map]; done) | (simp only [List.map_append, List.length_append, List.length_map]; rfl)) (by first | rfl | (simp only [List.map_append]; done) | (simp only [List.map_append]; rfl))) | (with_reducible exact trivial) | ((first | (with_reducible refine xdrop_app (by rw [List.length_map]; omega) ?_) | (with_reducible refine XDrop.desk (by assumption) ?_) | (with_reducible first | refine XArr.ints (by omega) (by omega) (by omega) ?_ | refine XArr.intsA (by omega) (by omega) (by omega) ?_) | ((with_reducible first | refine XArr.nats ?_ ?_ ?_ | refine XArr.natsA ?_ ?_ ?_ | refine XArr.ptr ?_ ?_ ?_); omega; omega)); conv => whnf) | ((with_reducible apply XBr.mk') <;> (intro h; conv => whnf))
    · skip
      conv => whnf
      repeat' first | ((with_reducible first | apply XBr.tt | apply XBr.ff | apply Chk.go | apply ChkA.go | apply ChkF.go | apply ChkB.go | apply XArr.pim0 | apply XArr.pim1); conv => whnf) | (with_reducible apply XBr.not) | ((with_reducible apply XBr.dec) <;> (intro h; first | (exfalso; omega) | ((try simp only [List.length_map] at h); first | (exfalso; omega) | (conv => whnf)))) | ((with_reducible first | apply XBr.beq | apply XBr.bne) <;> (intro h; first | (exfalso; omega) | (conv => whnf))) | ((with_reducible refine XInt.i64 (by omega) (by omega) ?_); conv => whnf) | ((with_reducible refine XHold.mk ?_ ?_); (first | omega | rfl | decide | exact ⟨rfl, by decide, rfl⟩ | exact wideI _ | exact widePr _ | exact wideSk _ | (unfold Room; constructor <;> ((try simp) <;> omega)) | exact ⟨rfl, by simp only [List.length_map], by unfold Room; constructor <;> ((try simp) <;> omega)⟩ | exact ⟨by omega, by omega, by unfold Room; constructor <;> ((try simp) <;> omega)⟩); conv => whnf) | ((first | ((with_reducible refine XIx.nat ?_ ?_ ?_); omega; (intro _; rfl)) | ((with_reducible refine XIx.map ?_ ?_ ?_ ?_); omega; omega; (intro _; rfl))); conv => whnf) | (with_reducible apply XAnd.mk) | (exact XSame.mk rfl rfl) | (exact XSame.mk (by first | rfl | (simp only [List.map_append, List.length_append, List.length_map]; done) | (simp only [List.map_append, List.length_append, List.length_map]; rfl)) (by first | rfl | (simp only [List.map_append]; done) | (simp only [List.map_append]; rfl))) | (with_reducible exact trivial) | ((first | (with_reducible refine xdrop_app (by rw [List.length_map]; omega) ?_) | (with_reducible refine XDrop.desk (by assumption) ?_) | (with_reducible first | refine XArr.ints (by omega) (by omega) (by omega) ?_ | refine XArr.intsA (by omega) (by omega) (by omega) ?_) | ((with_reducible first | refine XArr.nats ?_ ?_ ?_ | refine XArr.natsA ?_ ?_ ?_ | refine XArr.ptr ?_ ?_ ?_); omega; omega)); conv => whnf) | (refine XCall.ret (in_c _ _ _) ?_; conv => whnf) | (refine XCall.ret (every_sk l.nls l.sacks 106 [] _ rfl h1 fun x _ => sack_in x) ?_; conv => whnf) | (refine XCall.lend (every_pr _ (l.apart ++ l.wth) 108 [.pim (ldC l)] (prIn l) (by simp only [lowL, AV.low, lowLd]; rfl) (by simp; omega) fun x _ => pair_in l x h1) (.cons (hA _) (.cons (.low (by simp only [lowL, AV.low, lowLd]; rfl)) .nil)) rfl ?_; conv => whnf) | (refine XCall.lend (every_pr _ (l.apart ++ l.wth) 109 [] _ rfl (by simp; omega) fun x _ => pair_ne x) (.cons (hA _) (.cons (.low rfl) .nil)) rfl ?_; conv => whnf) | ((with_reducible apply XBr.mk') <;> (intro h; conv => whnf))
      all_goals ((try clear ha); clear hw hA hn; refine XOut.int ?_; unfold checkR; (repeat' split) <;> first | rfl | (exfalso; omega) | simp_all)
  | true =>
    have ha := hw hn
    apply Walk.drawX tab_ok mixed_ok [] [5] (hsC [[], [.grow 118 l.wth.isEmpty ((l.apart ++ l.wth).map prA)]]) [_, _, .sl true [], _, _, .gr 0 (l.apart ++ l.wth).length, _] (by kernel_rfl) rfl
    · skip
      repeat' first | ((with_reducible first | apply XBr.tt | apply XBr.ff | apply Chk.go | apply ChkA.go | apply ChkF.go | apply ChkB.go | apply XArr.pim0 | apply XArr.pim1); conv => whnf) | (with_reducible apply XBr.not) | ((with_reducible apply XBr.dec) <;> (intro h; first | (exfalso; omega) | ((try simp only [List.length_map] at h); first | (exfalso; omega) | (conv => whnf)))) | ((with_reducible first | apply XBr.beq | apply XBr.bne) <;> (intro h; first | (exfalso; omega) | (conv => whnf))) | ((with_reducible refine XInt.i64 (by omega) (by omega) ?_); conv => whnf) | ((with_reducible refine XHold.mk ?_ ?_); (first | omega | rfl | decide | exact ⟨rfl, by decide, rfl⟩ | exact wideI _ | exact widePr _ | exact wideSk _ | (unfold Room; constructor <;> ((try simp) <;> omega)) | exact ⟨rfl, by simp only [List.length_map], by unfold Room; constructor <;> ((try simp) <;> omega)⟩ | exact ⟨by omega, by omega, by unfold Room; constructor <;> ((try simp) <;> omega)⟩); conv => whnf) | ((first | ((with_reducible refine XIx.nat ?_ ?_ ?_); omega; (intro _; rfl)) | ((with_reducible refine XIx.map ?_ ?_ ?_ ?_); omega; omega; (intro _; rfl))); conv => whnf) | (with_reducible apply XAnd.mk) | (exact XSame.mk rfl rfl) | (exact XSame.mk (by first | rfl | (simp only [List.map_append, List.length_append, List.length_map]; done) | (simp only [List.map_append, List.length_append, List.length_map]; rfl)) (by first | rfl | (simp only [List.map_append]; done) | (simp only [List.map_append]; rfl))) | (with_reducible exact trivial) | ((first | (with_reducible refine xdrop_app (by rw [List.length_map]; omega) ?_) | (with_reducible refine XDrop.desk (by assumption) ?_) | (with_reducible first | refine XArr.ints (by omega) (by omega) (by omega) ?_ | refine XArr.intsA (by omega) (by omega) (by omega) ?_) | ((with_reducible first | refine XArr.nats ?_ ?_ ?_ | refine XArr.natsA ?_ ?_ ?_ | refine XArr.ptr ?_ ?_ ?_); omega; omega)); conv => whnf) | ((with_reducible apply XBr.mk') <;> (intro h; conv => whnf))
      · refine XCall.inl (T := tab) (res := [.tmp 2]) tab_ok [] Try.func104 rfl (by kernel_rfl) Try.ntmps104 rfl (by simp only [List.length_append, List.length_cons, List.length_nil]; decide) ?_; conv => whnf
        refine XBr.yes hn ?_
        conv => whnf
        repeat' first | ((with_reducible first | apply XBr.tt | apply XBr.ff | apply Chk.go | apply ChkA.go | apply ChkF.go | apply ChkB.go | apply XArr.pim0 | apply XArr.pim1); conv => whnf) | (with_reducible apply XBr.not) | ((with_reducible apply XBr.dec) <;> (intro h; first | (exfalso; omega) | ((try simp only [List.length_map] at h); first | (exfalso; omega) | (conv => whnf)))) | ((with_reducible first | apply XBr.beq | apply XBr.bne) <;> (intro h; first | (exfalso; omega) | (conv => whnf))) | ((with_reducible refine XInt.i64 (by omega) (by omega) ?_); conv => whnf) | ((with_reducible refine XHold.mk ?_ ?_); (first | omega | rfl | decide | exact ⟨rfl, by decide, rfl⟩ | exact wideI _ | exact widePr _ | exact wideSk _ | (unfold Room; constructor <;> ((try simp) <;> omega)) | exact ⟨rfl, by simp only [List.length_map], by unfold Room; constructor <;> ((try simp) <;> omega)⟩ | exact ⟨by omega, by omega, by unfold Room; constructor <;> ((try simp) <;> omega)⟩); conv => whnf) | ((first | ((with_reducible refine XIx.nat ?_ ?_ ?_); omega; (intro _; rfl)) | ((with_reducible refine XIx.map ?_ ?_ ?_ ?_); omega; omega; (intro _; rfl))); conv => whnf) | (with_reducible apply XAnd.mk) | (exact XSame.mk rfl rfl) | (exact XSame.mk (by first | rfl | (simp only [List.map_append, List.length_append, List.length_map]; done) | (simp only [List.map_append, List.length_append, List.length_map]; rfl)) (by first | rfl | (simp only [List.map_append]; done) | (simp only [List.map_append]; rfl))) | (with_reducible exact trivial) | ((first | (with_reducible refine xdrop_app (by rw [List.length_map]; omega) ?_) | (with_reducible refine XDrop.desk (by assumption) ?_) | (with_reducible first | refine XArr.ints (by omega) (by omega) (by omega) ?_ | refine XArr.intsA (by omega) (by omega) (by omega) ?_) | ((with_reducible first | refine XArr.nats ?_ ?_ ?_ | refine XArr.natsA ?_ ?_ ?_ | refine XArr.ptr ?_ ?_ ?_); omega; omega)); conv => whnf) | ((with_reducible apply XBr.mk') <;> (intro h; conv => whnf))
      exact XSame.mk (by rw [ha]; simp) (by rw [ha, List.nil_append, List.isEmpty_map]; rfl)
    · skip
      repeat' first | ((with_reducible first | apply XBr.tt | apply XBr.ff | apply Chk.go | apply ChkA.go | apply ChkF.go | apply ChkB.go | apply XArr.pim0 | apply XArr.pim1); conv => whnf) | (with_reducible apply XBr.not) | ((with_reducible apply XBr.dec) <;> (intro h; first | (exfalso; omega) | ((try simp only [List.length_map] at h); first | (exfalso; omega) | (conv => whnf)))) | ((with_reducible first | apply XBr.beq | apply XBr.bne) <;> (intro h; first | (exfalso; omega) | (conv => whnf))) | ((with_reducible refine XInt.i64 (by omega) (by omega) ?_); conv => whnf) | ((with_reducible refine XHold.mk ?_ ?_); (first | omega | rfl | decide | exact ⟨rfl, by decide, rfl⟩ | exact wideI _ | exact widePr _ | exact wideSk _ | (unfold Room; constructor <;> ((try simp) <;> omega)) | exact ⟨rfl, by simp only [List.length_map], by unfold Room; constructor <;> ((try simp) <;> omega)⟩ | exact ⟨by omega, by omega, by unfold Room; constructor <;> ((try simp) <;> omega)⟩); conv => whnf) | ((first | ((with_reducible refine XIx.nat ?_ ?_ ?_); omega; (intro _; rfl)) | ((with_reducible refine XIx.map ?_ ?_ ?_ ?_); omega; omega; (intro _; rfl))); conv => whnf) | (with_reducible apply XAnd.mk) | (exact XSame.mk rfl rfl) | (exact XSame.mk (by first | rfl | (simp only [List.map_append, List.length_append, List.length_map]; done) | (simp only [List.map_append, List.length_append, List.length_map]; rfl)) (by first | rfl | (simp only [List.map_append]; done) | (simp only [List.map_append]; rfl))) | (with_reducible exact trivial) | ((first | (with_reducible refine xdrop_app (by rw [List.length_map]; omega) ?_) | (with_reducible refine XDrop.desk (by assumption) ?_) | (with_reducible first | refine XArr.ints (by omega) (by omega) (by omega) ?_ | refine XArr.intsA (by omega) (by omega) (by omega) ?_) | ((with_reducible first | refine XArr.nats ?_ ?_ ?_ | refine XArr.natsA ?_ ?_ ?_ | refine XArr.ptr ?_ ?_ ?_); omega; omega)); conv => whnf) | ((with_reducible apply XBr.mk') <;> (intro h; conv => whnf))
    · skip
      conv => whnf
      repeat' first | ((with_reducible first | apply XBr.tt | apply XBr.ff | apply Chk.go | apply ChkA.go | apply ChkF.go | apply ChkB.go | apply XArr.pim0 | apply XArr.pim1); conv => whnf) | (with_reducible apply XBr.not) | ((with_reducible apply XBr.dec) <;> (intro h; first | (exfalso; omega) | ((try simp only [List.length_map] at h); first | (exfalso; omega) | (conv => whnf)))) | ((with_reducible first | apply XBr.beq | apply XBr.bne) <;> (intro h; first | (exfalso; omega) | (conv => whnf))) | ((with_reducible refine XInt.i64 (by omega) (by omega) ?_); conv => whnf) | ((with_reducible refine XHold.mk ?_ ?_); (first | omega | rfl | decide | exact ⟨rfl, by decide, rfl⟩ | exact wideI _ | exact widePr _ | exact wideSk _ | (unfold Room; constructor <;> ((try simp) <;> omega)) | exact ⟨rfl, by simp only [List.length_map], by unfold Room; constructor <;> ((try simp) <;> omega)⟩ | exact ⟨by omega, by omega, by unfold Room; constructor <;> ((try simp) <;> omega)⟩); conv => whnf) | ((first | ((with_reducible refine XIx.nat ?_ ?_ ?_); omega; (intro _; rfl)) | ((with_reducible refine XIx.map ?_ ?_ ?_ ?_); omega; omega; (intro _; rfl))); conv => whnf) | (with_reducible apply XAnd.mk) | (exact XSame.mk rfl rfl) | (exact XSame.mk (by first | rfl | (simp only [List.map_append, List.length_append, List.length_map]; done) | (simp only [List.map_append, List.length_append, List.length_map]; rfl)) (by first | rfl | (simp only [List.map_append]; done) | (simp only [List.map_append]; rfl))) | (with_reducible exact trivial) | ((first | (with_reducible refine xdrop_app (by rw [List.length_map]; omega) ?_) | (with_reducible refine XDrop.desk (by assumption) ?_) | (with_reducible first | refine XArr.ints (by omega) (by omega) (by omega) ?_ | refine XArr.intsA (by omega) (by omega) (by omega) ?_) | ((with_reducible first | refine XArr.nats ?_ ?_ ?_ | refine XArr.natsA ?_ ?_ ?_ | refine XArr.ptr ?_ ?_ ?_); omega; omega)); conv => whnf) | (refine XCall.ret (in_c _ _ _) ?_; conv => whnf) | (refine XCall.ret (every_sk l.nls l.sacks 106 [] _ rfl h1 fun x _ => sack_in x) ?_; conv => whnf) | (refine XCall.lend (every_pr _ (l.apart ++ l.wth) 108 [.pim (ldC l)] (prIn l) (by simp only [lowL, AV.low, lowLd]; rfl) (by simp; omega) fun x _ => pair_in l x h1) (.cons (hA _) (.cons (.low (by simp only [lowL, AV.low, lowLd]; rfl)) .nil)) rfl ?_; conv => whnf) | (refine XCall.lend (every_pr _ (l.apart ++ l.wth) 109 [] _ rfl (by simp; omega) fun x _ => pair_ne x) (.cons (hA _) (.cons (.low rfl) .nil)) rfl ?_; conv => whnf) | ((with_reducible apply XBr.mk') <;> (intro h; conv => whnf))
      all_goals ((try clear ha); clear hw hA hn; refine XOut.int ?_; unfold checkR; (repeat' split) <;> first | rfl | (exfalso; omega) | simp_all)
end GA
end

section
namespace GA
open Go Go.RowKit Go.Proofs
set_option pp.deepTerms true
set_option maxRecDepth 8000
set_option linter.unusedVariables false
set_option linter.unusedSimpArgs false

def weightR (l : Ld) (s : Sk) : Int := s.m - s.m * l.shrink / 100
theorem weight_c (l : Ld) (s : Sk) (h : 0 ≤ s.m) (h' : s.m ≤ 100) (h2 : 0 ≤ l.shrink) (h3 : l.shrink ≤ 100) : Comp Try.prog 85 [ldA l, skA s] (.int .i64 (weightR l s)) := by
  refine Comp.body (T := tab) (res := [.tmp 4]) tab_ok [] Try.func85 rfl (by kernel_rfl) Try.ntmps85 rfl (by simp only [List.length_cons, List.length_nil]; decide) (by simp only [lowL, AV.low, ldL, skL]; rfl) ?_; conv => whnf
  have e1 : 0 ≤ s.m * l.shrink := Int.mul_nonneg h h2
  have e2 : s.m * l.shrink ≤ 100 * 100 := Int.mul_le_mul h' h3 h2 (by omega)
  have e3 : (s.m * l.shrink).tdiv 100 = (s.m * l.shrink) / 100 := Int.tdiv_eq_ediv_of_nonneg e1
  repeat' first | ((with_reducible first | apply XBr.tt | apply XBr.ff | apply Chk.go | apply ChkA.go | apply ChkF.go | apply ChkB.go | apply XArr.pim0 | apply XArr.pim1); conv => whnf) | (with_reducible apply XBr.not) | ((with_reducible apply XBr.dec) <;> (intro h; first | (exfalso; omega) | ((try simp only [List.length_map] at h); first | (exfalso; omega) | (conv => whnf)))) | ((with_reducible first | apply XBr.beq | apply XBr.bne) <;> (intro h; first | (exfalso; omega) | (conv => whnf))) | ((with_reducible refine XInt.i64 (by omega) (by omega) ?_); conv => whnf) | ((with_reducible refine XHold.mk ?_ ?_); (first | omega | rfl | decide | exact ⟨rfl, by decide, rfl⟩ | exact wideI _ | exact widePr _ | exact wideSk _ | (unfold Room; constructor <;> ((try simp) <;> omega)) | exact ⟨rfl, by simp only [List.length_map], by unfold Room; constructor <;> ((try simp) <;> omega)⟩ | exact ⟨by omega, by omega, by unfold Room; constructor <;> ((try simp) <;> omega)⟩); conv => whnf) | ((first | ((with_reducible refine XIx.nat ?_ ?_ ?_); omega; (intro _; rfl)) | ((with_reducible refine XIx.map ?_ ?_ ?_ ?_); omega; omega; (intro _; rfl))); conv => whnf) | (with_reducible apply XAnd.mk) | (exact XSame.mk rfl rfl) | (exact XSame.mk (by first | rfl | (simp only [List.map_append, List.length_append, List.length_map]; done) | (simp only [List.map_append, List.length_append, List.length_map]; rfl)) (by first | rfl | (simp only [List.map_append]; done) | (simp only [List.map_append]; rfl))) | (with_reducible exact trivial) | ((first | (with_reducible refine xdrop_app (by rw [List.length_map]; omega) ?_) | (with_reducible refine XDrop.desk (by assumption) ?_) | (with_reducible first | refine XArr.ints (by omega) (by omega) (by omega) ?_ | refine XArr.intsA (by omega) (by omega) (by omega) ?_) | ((with_reducible first | refine XArr.nats ?_ ?_ ?_ | refine XArr.natsA ?_ ?_ ?_ | refine XArr.ptr ?_ ?_ ?_); omega; omega)); conv => whnf) | ((with_reducible apply XBr.mk') <;> (intro h; conv => whnf))
  · refine XOut.int ?_
    rw [e3]; rfl

def bitsF : Nat → Nat → Nat → List Int
  | 0, _, _ => []
  | f + 1, i, s => if s = 0 then [] else if s % 2 = 1 then (i : Int) :: bitsF f (i + 1) (s / 2) else bitsF f (i + 1) (s / 2)
theorem bitsF_zero : ∀ (f i : Nat), bitsF f i 0 = []
  | 0, _ => rfl
  | f + 1, _ => by simp [bitsF]
theorem bitsF_length : ∀ (f i s : Nat), (bitsF f i s).length ≤ f
  | 0, _, _ => by simp [bitsF]
  | f + 1, i, s => by
    unfold bitsF; have := bitsF_length f (i + 1) (s / 2)
    split
    · simp
    · split <;> simp <;> omega
def bits (s : Nat) : List Int := bitsF 62 0 s
theorem list_c (n : Nat) (hn : n < 4611686018427387904) : Comp Try.prog 81 [.int .i64 n] (slA (bits n)) := by
  refine Comp.body (T := tab) (res := [.tmp 2]) tab_ok [] Try.func81 rfl (by kernel_rfl) Try.ntmps81 rfl (by simp only [List.length_cons, List.length_nil]; decide) (by rfl) ?_; conv => whnf
  refine Walk.nilgr 3 3 rfl ?_
  refine Walk.loop tab_ok [] (fun g : Nat × Nat × List Int => g.1 ≤ 62 ∧ g.2.1 < 2 ^ (62 - g.1) ∧ g.2.2 ++ bitsF (62 - g.1) g.1 g.2.1 = bits n) (fun g => [(0, .int .i64 g.2.1), (3, .gr 0 g.2.2.length), (4, .int .i64 g.1)]) (fun g => [.grow 3 g.2.2.isEmpty (ints g.2.2)]) (fun g => g.2.1) (0, n, []) ⟨by omega, by simpa using hn, rfl⟩ rfl ⟨rfl, rfl, rfl, trivial⟩ ?_
  rintro ⟨i, s, out⟩ ⟨h1, h2, h3⟩
  simp only at h1 h2 h3
  have hlen : (out ++ bitsF (62 - i) i s).length = (bits n).length := by rw [h3]
  have hb := bitsF_length 62 0 n
  have hl : out.length ≤ 62 := by unfold bits at hlen; rw [List.length_append] at hlen; omega
  have hp : 2 ^ (62 - i) ≤ 2 ^ 62 := Nat.pow_le_pow_right (by omega) (by omega)
  have e1 : (s : Int).tdiv 2 = ((s / 2 : Nat) : Int) := rfl
  have e2 : (s : Int).tmod 2 = ((s % 2 : Nat) : Int) := rfl
  have step : 0 < s → 62 - i = (62 - (i + 1)) + 1 := fun h => by
    rcases Nat.lt_or_ge i 62 with h | h
    · omega
    · rw [show 62 - i = 0 by omega] at h2; simp at h2; omega
  have half : 0 < s → s / 2 < 2 ^ (62 - (i + 1)) := fun h => by
    rw [step h, Nat.pow_succ] at h2; omega
  dsimp only
  conv => whnf
  repeat' first | ((with_reducible first | apply XBr.tt | apply XBr.ff | apply Chk.go | apply ChkA.go | apply ChkF.go | apply ChkB.go | apply XArr.pim0 | apply XArr.pim1); conv => whnf) | (with_reducible apply XBr.not) | ((with_reducible apply XBr.dec) <;> (intro h; first | (exfalso; omega) | ((try simp only [List.length_map] at h); first | (exfalso; omega) | (conv => whnf)))) | ((with_reducible first | apply XBr.beq | apply XBr.bne) <;> (intro h; first | (exfalso; omega) | (conv => whnf))) | ((with_reducible refine XInt.i64 (by omega) (by omega) ?_); conv => whnf) | ((with_reducible refine XHold.mk ?_ ?_); (first | omega | rfl | decide | exact ⟨rfl, by decide, rfl⟩ | exact wideI _ | exact widePr _ | exact wideSk _ | (unfold Room; constructor <;> ((try simp) <;> omega)) | exact ⟨rfl, by simp only [List.length_map], by unfold Room; constructor <;> ((try simp) <;> omega)⟩ | exact ⟨by omega, by omega, by unfold Room; constructor <;> ((try simp) <;> omega)⟩); conv => whnf) | ((first | ((with_reducible refine XIx.nat ?_ ?_ ?_); omega; (intro _; rfl)) | ((with_reducible refine XIx.map ?_ ?_ ?_ ?_); omega; omega; (intro _; rfl))); conv => whnf) | (with_reducible apply XAnd.mk) | (exact XSame.mk rfl rfl) | (exact XSame.mk (by first | rfl | (simp only [List.map_append, List.length_append, List.length_map]; done) | (simp only [List.map_append, List.length_append, List.length_map]; rfl)) (by first | rfl | (simp only [List.map_append]; done) | (simp only [List.map_append]; rfl))) | (with_reducible exact trivial) | ((first | (with_reducible refine xdrop_app (by rw [List.length_map]; omega) ?_) | (with_reducible refine XDrop.desk (by assumption) ?_) | (with_reducible first | refine XArr.ints (by omega) (by omega) (by omega) ?_ | refine XArr.intsA (by omega) (by omega) (by omega) ?_) | ((with_reducible first | refine XArr.nats ?_ ?_ ?_ | refine XArr.natsA ?_ ?_ ?_ | refine XArr.ptr ?_ ?_ ?_); omega; omega)); conv => whnf) | ((with_reducible apply XBr.mk') <;> (intro h; conv => whnf))
  · have hs := step (by omega)
    refine XAgain.go (i + 1, s / 2, out ++ [(i : Int)]) ⟨by dsimp only; omega, half (by omega), ?_⟩ (by dsimp only; omega) ?_ ⟨rfl, ?_, rfl, trivial⟩
    · rw [← h3, hs]
      have : s % 2 = 1 := by rw [e2] at h; omega
      simp only [bitsF, if_neg (show ¬ s = 0 by omega), if_pos this, List.append_assoc, List.singleton_append, Nat.add_sub_cancel]
    · simp
    · simp only [List.length_append]; rfl
  · have hs := step (by omega)
    refine XAgain.go (i + 1, s / 2, out) ⟨by dsimp only; omega, half (by omega), ?_⟩ (by dsimp only; omega) rfl ⟨rfl, rfl, rfl, trivial⟩
    rw [← h3, hs]
    have : ¬ s % 2 = 1 := by rw [e2] at h; omega
    simp only [bitsF, if_neg (show ¬ s = 0 by omega), if_neg this, Nat.add_sub_cancel]
  · have hs : s = 0 := by omega
    subst hs
    rw [bitsF_zero, List.append_nil] at h3
    subst h3
    exact ⟨Froz.grow rfl (by simp) (lowI _)⟩
end GA
end

section
namespace GA
open Go Go.RowKit
set_option linter.unusedVariables false
theorem wrap_nat {n : Nat} (h : n < 9223372036854775808) : IntKind.i64.wrap (n : Int) = n := by
  simp only [IntKind.wrap, IntKind.bits, IntKind.signed]; simp; omega
theorem bv_nat (a : Nat) : BitVec.ofInt IntKind.i64.bits (a : Int) = BitVec.ofNat 64 a := BitVec.ofInt_natCast ..
theorem iand_nat {a b : Nat} (ha : a < 9223372036854775808) (hb : b < 9223372036854775808) : iand .i64 a b = ((a &&& b : Nat) : Int) := by
  have h : a &&& b < 9223372036854775808 := Nat.lt_of_le_of_lt Nat.and_le_left ha
  unfold iand
  rw [bv_nat, bv_nat]
  have : (BitVec.ofNat 64 a &&& BitVec.ofNat 64 b).toNat = a &&& b := by
    rw [BitVec.toNat_and, BitVec.toNat_ofNat, BitVec.toNat_ofNat, Nat.mod_eq_of_lt (by omega), Nat.mod_eq_of_lt (by omega)]
  exact (congrArg (fun n : Nat => IntKind.i64.wrap (n : Int)) this).trans (wrap_nat h)
theorem ior_nat {a b : Nat} (ha : a < 9223372036854775808) (hb : b < 9223372036854775808) : ior .i64 a b = ((a ||| b : Nat) : Int) := by
  have h : a ||| b < 2 ^ 63 := Nat.or_lt_two_pow (n := 63) (by omega) (by omega)
  unfold ior
  rw [bv_nat, bv_nat]
  have : (BitVec.ofNat 64 a ||| BitVec.ofNat 64 b).toNat = a ||| b := by
    rw [BitVec.toNat_or, BitVec.toNat_ofNat, BitVec.toNat_ofNat, Nat.mod_eq_of_lt (by omega), Nat.mod_eq_of_lt (by omega)]
  exact (congrArg (fun n : Nat => IntKind.i64.wrap (n : Int)) this).trans (wrap_nat (by omega))
theorem ixor_nat {a b : Nat} (ha : a < 9223372036854775808) (hb : b < 9223372036854775808) : ixor .i64 a b = ((a ^^^ b : Nat) : Int) := by
  have h : a ^^^ b < 2 ^ 63 := Nat.xor_lt_two_pow (n := 63) (by omega) (by omega)
  unfold ixor
  rw [bv_nat, bv_nat]
  have : (BitVec.ofNat 64 a ^^^ BitVec.ofNat 64 b).toNat = a ^^^ b := by
    rw [BitVec.toNat_xor, BitVec.toNat_ofNat, BitVec.toNat_ofNat, Nat.mod_eq_of_lt (by omega), Nat.mod_eq_of_lt (by omega)]
  exact (congrArg (fun n : Nat => IntKind.i64.wrap (n : Int)) this).trans (wrap_nat (by omega))
def diff (a b : Nat) : Nat := a ^^^ (a &&& b)
theorem iandn_nat {a b : Nat} (ha : a < 9223372036854775808) (hb : b < 9223372036854775808) : iandn .i64 a b = ((diff a b : Nat) : Int) := by
  have h0 : a &&& b < 2 ^ 63 := Nat.lt_of_le_of_lt Nat.and_le_left (by omega)
  have h : a ^^^ (a &&& b) < 2 ^ 63 := Nat.xor_lt_two_pow (n := 63) (by omega) h0
  unfold iandn
  rw [bv_nat, bv_nat]
  have hbv : BitVec.ofNat 64 a &&& ~~~ (BitVec.ofNat 64 b) = BitVec.ofNat 64 a ^^^ (BitVec.ofNat 64 a &&& BitVec.ofNat 64 b) := by
    apply BitVec.eq_of_getLsbD_eq; intro i hi; simp
    cases (BitVec.ofNat 64 a).getLsbD i <;> cases (BitVec.ofNat 64 b).getLsbD i <;> simp_all
  have : (BitVec.ofNat 64 a &&& ~~~ (BitVec.ofNat 64 b)).toNat = a ^^^ (a &&& b) := by
    rw [hbv, BitVec.toNat_xor, BitVec.toNat_and, BitVec.toNat_ofNat, BitVec.toNat_ofNat, Nat.mod_eq_of_lt (by omega), Nat.mod_eq_of_lt (by omega)]
  exact (congrArg (fun n : Nat => IntKind.i64.wrap (n : Int)) this).trans (wrap_nat (by omega))
theorem shr_nat {a k : Nat} (hk : k ≤ 64) : (a : Int).fdiv (2 ^ (min (k : Int).toNat IntKind.i64.bits)) = ((a / 2 ^ k : Nat) : Int) := by
  have : min (k : Int).toNat IntKind.i64.bits = k := by simp only [Int.toNat_natCast, IntKind.bits]; omega
  rw [this]
  have h2 : ((2 : Int) ^ k) = ((2 ^ k : Nat) : Int) := by simp
  rw [h2, Int.fdiv_eq_ediv_of_nonneg _ (Int.natCast_nonneg _)]; rfl
theorem shl_nat {k : Nat} (hk : k ≤ 64) : (1 : Int) * 2 ^ (min (k : Int).toNat IntKind.i64.bits) = ((2 ^ k : Nat) : Int) := by
  have : min (k : Int).toNat IntKind.i64.bits = k := by simp only [Int.toNat_natCast, IntKind.bits]; omega
  rw [this]; simp
end GA
end

section
namespace GA
open Go Go.RowKit Go.Proofs
set_option pp.deepTerms true
set_option maxRecDepth 8000
set_option linter.unusedVariables false
set_option linter.unusedSimpArgs false

def natA (n : Nat) : AV := .int .i64 n
abbrev nats (xs : List Nat) : List AV := xs.map natA
theorem lowN {n : Nat} (xs : List Nat) : lowL n (nats xs) = true := lowL_map (fun _ => rfl) xs
theorem nats_at {xs : List Nat} {i : Nat} (h : i < xs.length) (b : List AV) : (nats xs ++ b)[i * 1]? = some (.int .i64 (xs.getD i 0 : Nat)) := by
  rw [Nat.mul_one, List.getElem?_append_left (by simpa using h), List.getElem?_map, List.getElem?_eq_getElem h, List.getD_eq_getElem?_getD, List.getElem?_eq_getElem h]; rfl
theorem XArr.nats {xs : List Nat} {i m : Nat} {k : AV → Prop} (h2 : i < m) (hm : m ≤ xs.length) (h : k (.pim (.int .i64 (xs.getD i 0 : Nat) :: (GA.nats xs).drop (i * 1 + 1)))) : XArr (.pim (GA.nats xs)) (i : Int) m 1 k :=
  XArr.at _ (by omega) (by omega) (by have := nats_at (xs := xs) (i := i) (by omega) []; simpa using this) h
theorem XArr.natsA {xs : List Nat} {b : List AV} {i m : Nat} {k : AV → Prop} (h2 : i < m) (hm : m ≤ xs.length) (h : k (.pim (.int .i64 (xs.getD i 0 : Nat) :: (GA.nats xs ++ b).drop (i * 1 + 1)))) : XArr (.pim (GA.nats xs ++ b)) (i : Int) m 1 k :=
  XArr.at _ (by omega) (by omega) (nats_at (xs := xs) (i := i) (by omega) b) h
structure Dk where
  l : Ld
  hv : List Nat
  nd : List Nat
def deskC (d : Dk) : List AV := .int .i64 d.l.bears :: .int .i64 d.l.shrink :: .sl d.l.nls (d.l.sacks.map skA) :: .sl d.l.nla (d.l.apart.map prA) :: .sl d.l.nlw (d.l.wth.map prA) :: (nats d.hv ++ nats d.nd)
theorem lowL_append {n : Nat} (a b : List AV) : lowL n (a ++ b) = (lowL n a && lowL n b) := by
  induction a with | nil => rfl | cons x a ih => simp only [List.cons_append, lowL, ih, Bool.and_assoc]
theorem lowDk {n : Nat} (d : Dk) : lowL n (deskC d) = true := by simp only [deskC, lowL, AV.low, lowSk, lowPr, lowL_append, lowN]; rfl
theorem XDrop.desk {d : Dk} {k : List AV → Prop} (hh : d.hv.length = 512) (h : k (nats d.nd)) : XDrop 517 (deskC d) k := by
  have e : deskC d = (.int .i64 d.l.bears :: .int .i64 d.l.shrink :: .sl d.l.nls (d.l.sacks.map skA) :: .sl d.l.nla (d.l.apart.map prA) :: .sl d.l.nlw (d.l.wth.map prA) :: nats d.hv) ++ nats d.nd := rfl
  have l : (.int .i64 d.l.bears :: .int .i64 d.l.shrink :: .sl d.l.nls (d.l.sacks.map skA) :: .sl d.l.nla (d.l.apart.map prA) :: .sl d.l.nlw (d.l.wth.map prA) :: nats d.hv).length = 517 := by simp [hh]
  refine ⟨by rw [e, List.length_append, l]; omega, ?_⟩
  rw [e, List.drop_left' l]; exact h
structure DkOk (d : Dk) : Prop where
  hv : d.hv.length = 512
  nd : d.nd.length = 9
  small : ∀ i, d.nd.getD i 0 < 512
  big : ∀ i, d.hv.getD i 0 < 1000000

theorem whole1_c (d : Dk) (ok : DkOk d) (i set : Nat) (h2 : i < 9) (hs : set < 512) :
    Comp Try.prog 152 [.int .i64 i, .pim [.pim (deskC d)], .pim [.int .i64 set]] (.bool (diff (d.nd.getD i 0) set == 0)) := by
  refine Comp.body (T := tab) (res := [.tmp 4]) tab_ok [] Try.func152 rfl (by kernel_rfl) Try.ntmps152 rfl (by simp only [List.length_cons, List.length_nil]; decide) (by simp only [lowL, AV.low, lowDk]; rfl) ?_; conv => whnf
  have g1 := ok.hv
  have g2 := ok.nd
  apply Walk.drawX tab_ok mixed_ok [] [] (fun _ => []) [_, _, _, _, _, _, _, _, _, _] (by kernel_rfl) rfl
  · skip
    repeat' first | ((with_reducible first | apply XBr.tt | apply XBr.ff | apply Chk.go | apply ChkA.go | apply ChkF.go | apply ChkB.go | apply XArr.pim0 | apply XArr.pim1); conv => whnf) | (with_reducible apply XBr.not) | ((with_reducible apply XBr.dec) <;> (intro h; first | (exfalso; omega) | ((try simp only [List.length_map] at h); first | (exfalso; omega) | (conv => whnf)))) | ((with_reducible first | apply XBr.beq | apply XBr.bne) <;> (intro h; first | (exfalso; omega) | (conv => whnf))) | ((with_reducible refine XInt.i64 (by omega) (by omega) ?_); conv => whnf) | ((with_reducible refine XHold.mk ?_ ?_); (first | omega | rfl | decide | exact ⟨rfl, by decide, rfl⟩ | exact wideI _ | exact widePr _ | exact wideSk _ | (unfold Room; constructor <;> ((try simp) <;> omega)) | exact ⟨rfl, by simp only [List.length_map], by unfold Room; constructor <;> ((try simp) <;> omega)⟩ | exact ⟨by omega, by omega, by unfold Room; constructor <;> ((try simp) <;> omega)⟩); conv => whnf) | ((first | ((with_reducible refine XIx.nat ?_ ?_ ?_); omega; (intro _; rfl)) | ((with_reducible refine XIx.map ?_ ?_ ?_ ?_); omega; omega; (intro _; rfl))); conv => whnf) | (with_reducible apply XAnd.mk) | (exact XSame.mk rfl rfl) | (exact XSame.mk (by first | rfl | (simp only [List.map_append, List.length_append, List.length_map]; done) | (simp only [List.map_append, List.length_append, List.length_map]; rfl)) (by first | rfl | (simp only [List.map_append]; done) | (simp only [List.map_append]; rfl))) | (with_reducible exact trivial) | ((first | (with_reducible refine xdrop_app (by rw [List.length_map]; omega) ?_) | (with_reducible refine XDrop.desk (by assumption) ?_) | (with_reducible first | refine XArr.ints (by omega) (by omega) (by omega) ?_ | refine XArr.intsA (by omega) (by omega) (by omega) ?_) | ((with_reducible first | refine XArr.nats ?_ ?_ ?_ | refine XArr.natsA ?_ ?_ ?_ | refine XArr.ptr ?_ ?_ ?_); omega; omega)); conv => whnf) | ((with_reducible apply XBr.mk') <;> (intro h; conv => whnf))
  · skip
    repeat' first | ((with_reducible first | apply XBr.tt | apply XBr.ff | apply Chk.go | apply ChkA.go | apply ChkF.go | apply ChkB.go | apply XArr.pim0 | apply XArr.pim1); conv => whnf) | (with_reducible apply XBr.not) | ((with_reducible apply XBr.dec) <;> (intro h; first | (exfalso; omega) | ((try simp only [List.length_map] at h); first | (exfalso; omega) | (conv => whnf)))) | ((with_reducible first | apply XBr.beq | apply XBr.bne) <;> (intro h; first | (exfalso; omega) | (conv => whnf))) | ((with_reducible refine XInt.i64 (by omega) (by omega) ?_); conv => whnf) | ((with_reducible refine XHold.mk ?_ ?_); (first | omega | rfl | decide | exact ⟨rfl, by decide, rfl⟩ | exact wideI _ | exact widePr _ | exact wideSk _ | (unfold Room; constructor <;> ((try simp) <;> omega)) | exact ⟨rfl, by simp only [List.length_map], by unfold Room; constructor <;> ((try simp) <;> omega)⟩ | exact ⟨by omega, by omega, by unfold Room; constructor <;> ((try simp) <;> omega)⟩); conv => whnf) | ((first | ((with_reducible refine XIx.nat ?_ ?_ ?_); omega; (intro _; rfl)) | ((with_reducible refine XIx.map ?_ ?_ ?_ ?_); omega; omega; (intro _; rfl))); conv => whnf) | (with_reducible apply XAnd.mk) | (exact XSame.mk rfl rfl) | (exact XSame.mk (by first | rfl | (simp only [List.map_append, List.length_append, List.length_map]; done) | (simp only [List.map_append, List.length_append, List.length_map]; rfl)) (by first | rfl | (simp only [List.map_append]; done) | (simp only [List.map_append]; rfl))) | (with_reducible exact trivial) | ((first | (with_reducible refine xdrop_app (by rw [List.length_map]; omega) ?_) | (with_reducible refine XDrop.desk (by assumption) ?_) | (with_reducible first | refine XArr.ints (by omega) (by omega) (by omega) ?_ | refine XArr.intsA (by omega) (by omega) (by omega) ?_) | ((with_reducible first | refine XArr.nats ?_ ?_ ?_ | refine XArr.natsA ?_ ?_ ?_ | refine XArr.ptr ?_ ?_ ?_); omega; omega)); conv => whnf) | ((with_reducible apply XBr.mk') <;> (intro h; conv => whnf))
  · conv => whnf
    repeat' first | ((with_reducible first | apply XBr.tt | apply XBr.ff | apply Chk.go | apply ChkA.go | apply ChkF.go | apply ChkB.go | apply XArr.pim0 | apply XArr.pim1); conv => whnf) | (with_reducible apply XBr.not) | ((with_reducible apply XBr.dec) <;> (intro h; first | (exfalso; omega) | ((try simp only [List.length_map] at h); first | (exfalso; omega) | (conv => whnf)))) | ((with_reducible first | apply XBr.beq | apply XBr.bne) <;> (intro h; first | (exfalso; omega) | (conv => whnf))) | ((with_reducible refine XInt.i64 (by omega) (by omega) ?_); conv => whnf) | ((with_reducible refine XHold.mk ?_ ?_); (first | omega | rfl | decide | exact ⟨rfl, by decide, rfl⟩ | exact wideI _ | exact widePr _ | exact wideSk _ | (unfold Room; constructor <;> ((try simp) <;> omega)) | exact ⟨rfl, by simp only [List.length_map], by unfold Room; constructor <;> ((try simp) <;> omega)⟩ | exact ⟨by omega, by omega, by unfold Room; constructor <;> ((try simp) <;> omega)⟩); conv => whnf) | ((first | ((with_reducible refine XIx.nat ?_ ?_ ?_); omega; (intro _; rfl)) | ((with_reducible refine XIx.map ?_ ?_ ?_ ?_); omega; omega; (intro _; rfl))); conv => whnf) | (with_reducible apply XAnd.mk) | (exact XSame.mk rfl rfl) | (exact XSame.mk (by first | rfl | (simp only [List.map_append, List.length_append, List.length_map]; done) | (simp only [List.map_append, List.length_append, List.length_map]; rfl)) (by first | rfl | (simp only [List.map_append]; done) | (simp only [List.map_append]; rfl))) | (with_reducible exact trivial) | ((first | (with_reducible refine xdrop_app (by rw [List.length_map]; omega) ?_) | (with_reducible refine XDrop.desk (by assumption) ?_) | (with_reducible first | refine XArr.ints (by omega) (by omega) (by omega) ?_ | refine XArr.intsA (by omega) (by omega) (by omega) ?_) | ((with_reducible first | refine XArr.nats ?_ ?_ ?_ | refine XArr.natsA ?_ ?_ ?_ | refine XArr.ptr ?_ ?_ ?_); omega; omega)); conv => whnf) | ((with_reducible apply XBr.mk') <;> (intro h; conv => whnf))
    refine XOut.bool ?_
    have := ok.small i
    rw [iandn_nat (by omega) (by omega), Bool.eq_iff_iff]; simp
theorem bit_at {set : Nat} {p : Int} (h1 : 0 ≤ p) (h2 : p ≤ 62) (hs : set < 512) : iand .i64 ((set : Int).fdiv (2 ^ min p.toNat IntKind.i64.bits)) 1 = ((set / 2 ^ p.toNat % 2 : Nat) : Int) := by
  obtain ⟨k, rfl⟩ := Int.eq_ofNat_of_zero_le h1
  rw [shr_nat (by omega)]
  have : set / 2 ^ k ≤ set := Nat.div_le_self ..
  have := iand_nat (a := set / 2 ^ k) (b := 1) (by omega) (by omega)
  rw [Nat.and_one_is_mod] at this
  exact this
def inSet (set : Nat) (p : Int) : Bool := set / 2 ^ p.toNat % 2 == 1
theorem whole2_c (p : Int × Int) (set : Nat) (h1 : 0 ≤ p.1) (h2 : p.1 ≤ 62) (h3 : 0 ≤ p.2) (h4 : p.2 ≤ 62) (hs : set < 512) :
    Comp Try.prog 153 [prA p, .pim [.int .i64 set]] (.bool (!inSet set p.1 || !inSet set p.2)) := by
  refine Comp.body (T := tab) (res := [.tmp 3]) tab_ok [] Try.func153 rfl (by kernel_rfl) Try.ntmps153 rfl (by simp only [List.length_cons, List.length_nil]; decide) (by rfl) ?_; conv => whnf
  have e1 := bit_at h1 h2 hs
  have e2 := bit_at h3 h4 hs
  repeat' first | ((with_reducible first | apply XBr.tt | apply XBr.ff | apply Chk.go | apply ChkA.go | apply ChkF.go | apply ChkB.go | apply XArr.pim0 | apply XArr.pim1); conv => whnf) | (with_reducible apply XBr.not) | ((with_reducible apply XBr.dec) <;> (intro h; first | (exfalso; omega) | ((try simp only [List.length_map] at h); first | (exfalso; omega) | (conv => whnf)))) | ((with_reducible first | apply XBr.beq | apply XBr.bne) <;> (intro h; first | (exfalso; omega) | (conv => whnf))) | ((with_reducible refine XInt.i64 (by omega) (by omega) ?_); conv => whnf) | ((with_reducible refine XHold.mk ?_ ?_); (first | omega | rfl | decide | exact ⟨rfl, by decide, rfl⟩ | exact wideI _ | exact widePr _ | exact wideSk _ | (unfold Room; constructor <;> ((try simp) <;> omega)) | exact ⟨rfl, by simp only [List.length_map], by unfold Room; constructor <;> ((try simp) <;> omega)⟩ | exact ⟨by omega, by omega, by unfold Room; constructor <;> ((try simp) <;> omega)⟩); conv => whnf) | ((first | ((with_reducible refine XIx.nat ?_ ?_ ?_); omega; (intro _; rfl)) | ((with_reducible refine XIx.map ?_ ?_ ?_ ?_); omega; omega; (intro _; rfl))); conv => whnf) | (with_reducible apply XAnd.mk) | (exact XSame.mk rfl rfl) | (exact XSame.mk (by first | rfl | (simp only [List.map_append, List.length_append, List.length_map]; done) | (simp only [List.map_append, List.length_append, List.length_map]; rfl)) (by first | rfl | (simp only [List.map_append]; done) | (simp only [List.map_append]; rfl))) | (with_reducible exact trivial) | ((first | (with_reducible refine xdrop_app (by rw [List.length_map]; omega) ?_) | (with_reducible refine XDrop.desk (by assumption) ?_) | (with_reducible first | refine XArr.ints (by omega) (by omega) (by omega) ?_ | refine XArr.intsA (by omega) (by omega) (by omega) ?_) | ((with_reducible first | refine XArr.nats ?_ ?_ ?_ | refine XArr.natsA ?_ ?_ ?_ | refine XArr.ptr ?_ ?_ ?_); omega; omega)); conv => whnf) | ((with_reducible apply XBr.mk') <;> (intro h; conv => whnf))
  · rw [e1] at h
    refine XOut.bool ?_
    have : inSet set p.1 = false := by unfold inSet; simp; omega
    simp [this]
  · rw [e1] at h
    refine XOut.bool ?_
    rw [e2]
    have : inSet set p.1 = true := by unfold inSet; simp; omega
    have hb : (((set / 2 ^ p.2.toNat % 2 : Nat) : Int) == 0) = !(set / 2 ^ p.2.toNat % 2 == 1) := by
      rcases Nat.mod_two_eq_zero_or_one (set / 2 ^ p.2.toNat) with h | h <;> rw [h] <;> rfl
    rw [this, hb]; simp [inSet]

def wholeB (d : Dk) (set : Nat) : Bool := ((bits set).all fun i => diff (d.nd.getD i.toNat 0) set == 0) && (d.l.apart.all fun p => !inSet set p.1 || !inSet set p.2)
theorem bitsF_bound : ∀ (f i s k : Nat), s < 2 ^ k → ∀ x ∈ bitsF f i s, (i : Int) ≤ x ∧ x < (i + k : Nat)
  | 0, _, _, _, _, x, hx => by simp [bitsF] at hx
  | f + 1, i, s, k, hs, x, hx => by
    unfold bitsF at hx
    split at hx
    · simp at hx
    · rename_i h0
      cases k with
      | zero => simp at hs; omega
      | succ k =>
        have ih := bitsF_bound f (i + 1) (s / 2) k (by rw [Nat.pow_succ] at hs; omega)
        split at hx
        · rcases List.mem_cons.1 hx with rfl | hx
          · omega
          · have := ih x hx; omega
        · have := ih x hx; omega
theorem bits_bound {s : Nat} (hs : s < 512) : ∀ x ∈ bits s, 0 ≤ x ∧ x < 9 := fun x hx => by have := bitsF_bound 62 0 s 9 (by omega) x hx; omega
theorem bits_len (s : Nat) : (bits s).length ≤ 62 := bitsF_length ..
theorem whole_c (d : Dk) (ok : DkOk d) (set : Nat) (hs : set < 512) (ha : d.l.apart.length ≤ 1000) (hp : ∀ p ∈ d.l.apart, 0 ≤ p.1 ∧ p.1 ≤ 62 ∧ 0 ≤ p.2 ∧ p.2 ≤ 62) : Comp Try.prog 135 [.pim (deskC d), .int .i64 set] (.bool (wholeB d set)) := by
  refine Comp.body (T := tab) (res := [.tmp 4]) tab_ok [] Try.func135 rfl (by kernel_rfl) Try.ntmps135 rfl (by simp only [List.length_cons, List.length_nil]; decide) (by simp only [lowL, AV.low, lowDk]; rfl) ?_; conv => whnf
  refine XCall.ret (list_c set (by omega)) ?_
  conv => whnf
  refine XCall.ret (every_int _ (bits set) 152 [.pim [.pim (deskC d)], .pim [.int .i64 set]] (fun i => diff (d.nd.getD i.toNat 0) set == 0) (by simp only [lowL, AV.low, lowDk]; rfl) (by have := bits_len set; omega) fun x hx => ?_) ?_
  · obtain ⟨h1, h2⟩ := bits_bound hs x hx
    obtain ⟨k, rfl⟩ := Int.eq_ofNat_of_zero_le h1
    exact whole1_c d ok k set (by omega) hs
  conv => whnf
  repeat' first | ((with_reducible first | apply XBr.tt | apply XBr.ff | apply Chk.go | apply ChkA.go | apply ChkF.go | apply ChkB.go | apply XArr.pim0 | apply XArr.pim1); conv => whnf) | (with_reducible apply XBr.not) | ((with_reducible apply XBr.dec) <;> (intro h; first | (exfalso; omega) | ((try simp only [List.length_map] at h); first | (exfalso; omega) | (conv => whnf)))) | ((with_reducible first | apply XBr.beq | apply XBr.bne) <;> (intro h; first | (exfalso; omega) | (conv => whnf))) | ((with_reducible refine XInt.i64 (by omega) (by omega) ?_); conv => whnf) | ((with_reducible refine XHold.mk ?_ ?_); (first | omega | rfl | decide | exact ⟨rfl, by decide, rfl⟩ | exact wideI _ | exact widePr _ | exact wideSk _ | (unfold Room; constructor <;> ((try simp) <;> omega)) | exact ⟨rfl, by simp only [List.length_map], by unfold Room; constructor <;> ((try simp) <;> omega)⟩ | exact ⟨by omega, by omega, by unfold Room; constructor <;> ((try simp) <;> omega)⟩); conv => whnf) | ((first | ((with_reducible refine XIx.nat ?_ ?_ ?_); omega; (intro _; rfl)) | ((with_reducible refine XIx.map ?_ ?_ ?_ ?_); omega; omega; (intro _; rfl))); conv => whnf) | (with_reducible apply XAnd.mk) | (exact XSame.mk rfl rfl) | (exact XSame.mk (by first | rfl | (simp only [List.map_append, List.length_append, List.length_map]; done) | (simp only [List.map_append, List.length_append, List.length_map]; rfl)) (by first | rfl | (simp only [List.map_append]; done) | (simp only [List.map_append]; rfl))) | (with_reducible exact trivial) | ((first | (with_reducible refine xdrop_app (by rw [List.length_map]; omega) ?_) | (with_reducible refine XDrop.desk (by assumption) ?_) | (with_reducible first | refine XArr.ints (by omega) (by omega) (by omega) ?_ | refine XArr.intsA (by omega) (by omega) (by omega) ?_) | ((with_reducible first | refine XArr.nats ?_ ?_ ?_ | refine XArr.natsA ?_ ?_ ?_ | refine XArr.ptr ?_ ?_ ?_); omega; omega)); conv => whnf) | ((with_reducible apply XBr.mk') <;> (intro h; conv => whnf))
  · refine XCall.ret (every_pr _ d.l.apart 153 [.pim [.int .i64 set]] (fun p => !inSet set p.1 || !inSet set p.2) rfl (by omega) fun p hm => ?_) ?_
    · obtain ⟨h1, h2, h3, h4⟩ := hp p hm
      exact whole2_c p set h1 h2 h3 h4 hs
    conv => whnf
    repeat' first | ((with_reducible first | apply XBr.tt | apply XBr.ff | apply Chk.go | apply ChkA.go | apply ChkF.go | apply ChkB.go | apply XArr.pim0 | apply XArr.pim1); conv => whnf) | (with_reducible apply XBr.not) | ((with_reducible apply XBr.dec) <;> (intro h; first | (exfalso; omega) | ((try simp only [List.length_map] at h); first | (exfalso; omega) | (conv => whnf)))) | ((with_reducible first | apply XBr.beq | apply XBr.bne) <;> (intro h; first | (exfalso; omega) | (conv => whnf))) | ((with_reducible refine XInt.i64 (by omega) (by omega) ?_); conv => whnf) | ((with_reducible refine XHold.mk ?_ ?_); (first | omega | rfl | decide | exact ⟨rfl, by decide, rfl⟩ | exact wideI _ | exact widePr _ | exact wideSk _ | (unfold Room; constructor <;> ((try simp) <;> omega)) | exact ⟨rfl, by simp only [List.length_map], by unfold Room; constructor <;> ((try simp) <;> omega)⟩ | exact ⟨by omega, by omega, by unfold Room; constructor <;> ((try simp) <;> omega)⟩); conv => whnf) | ((first | ((with_reducible refine XIx.nat ?_ ?_ ?_); omega; (intro _; rfl)) | ((with_reducible refine XIx.map ?_ ?_ ?_ ?_); omega; omega; (intro _; rfl))); conv => whnf) | (with_reducible apply XAnd.mk) | (exact XSame.mk rfl rfl) | (exact XSame.mk (by first | rfl | (simp only [List.map_append, List.length_append, List.length_map]; done) | (simp only [List.map_append, List.length_append, List.length_map]; rfl)) (by first | rfl | (simp only [List.map_append]; done) | (simp only [List.map_append]; rfl))) | (with_reducible exact trivial) | ((first | (with_reducible refine xdrop_app (by rw [List.length_map]; omega) ?_) | (with_reducible refine XDrop.desk (by assumption) ?_) | (with_reducible first | refine XArr.ints (by omega) (by omega) (by omega) ?_ | refine XArr.intsA (by omega) (by omega) (by omega) ?_) | ((with_reducible first | refine XArr.nats ?_ ?_ ?_ | refine XArr.natsA ?_ ?_ ?_ | refine XArr.ptr ?_ ?_ ?_); omega; omega)); conv => whnf) | ((with_reducible apply XBr.mk') <;> (intro h; conv => whnf))
    refine XOut.bool ?_
    unfold wholeB; rw [h]; simp
  · refine XOut.bool ?_
    unfold wholeB; rw [h]; simp
end GA
end

section
namespace GA
open Go Go.RowKit Go.Proofs
set_option pp.deepTerms true
set_option maxRecDepth 8000
set_option linter.unusedVariables false
set_option linter.unusedSimpArgs false

structure DkFull (d : Dk) : Prop extends DkOk d where
  al : d.l.apart.length ≤ 1000
  ap : ∀ p ∈ d.l.apart, 0 ≤ p.1 ∧ p.1 ≤ 62 ∧ 0 ≤ p.2 ∧ p.2 ≤ 62
def rightB (d : Dk) (set : Nat) : Bool := decide ((d.hv.getD set 0 : Nat) ≤ d.l.bears) && wholeB d set
theorem right_c (d : Dk) (ok : DkFull d) (set : Nat) (hs : set < 512) : Comp Try.prog 88 [.pim (deskC d), .int .i64 set] (.bool (rightB d set)) := by
  refine Comp.body (T := tab) (res := [.tmp 4]) tab_ok [] Try.func88 rfl (by kernel_rfl) Try.ntmps88 rfl (by simp only [List.length_cons, List.length_nil]; decide) (by simp only [lowL, AV.low, lowDk]; rfl) ?_; conv => whnf
  have g1 := ok.hv
  have g2 := ok.nd
  by_cases hc : ((d.hv.getD set 0 : Nat) : Int) ≤ d.l.bears
  · apply Walk.drawX tab_ok mixed_ok [] [] (fun _ => []) [_, _, _, _, _, _, _, _, _, _, _, .bool true, .bool true, _, _, _, _, _] (by kernel_rfl) rfl
    · skip
      repeat' first | ((with_reducible first | apply XBr.tt | apply XBr.ff | apply Chk.go | apply ChkA.go | apply ChkF.go | apply ChkB.go | apply XArr.pim0 | apply XArr.pim1); conv => whnf) | (with_reducible apply XBr.not) | ((with_reducible apply XBr.dec) <;> (intro h; first | (exfalso; omega) | ((try simp only [List.length_map] at h); first | (exfalso; omega) | (conv => whnf)))) | ((with_reducible first | apply XBr.beq | apply XBr.bne) <;> (intro h; first | (exfalso; omega) | (conv => whnf))) | ((with_reducible refine XInt.i64 (by omega) (by omega) ?_); conv => whnf) | ((with_reducible refine XHold.mk ?_ ?_); (first | omega | rfl | decide | exact ⟨rfl, by decide, rfl⟩ | exact wideI _ | exact widePr _ | exact wideSk _ | (unfold Room; constructor <;> ((try simp) <;> omega)) | exact ⟨rfl, by simp only [List.length_map], by unfold Room; constructor <;> ((try simp) <;> omega)⟩ | exact ⟨by omega, by omega, by unfold Room; constructor <;> ((try simp) <;> omega)⟩); conv => whnf) | ((first | ((with_reducible refine XIx.nat ?_ ?_ ?_); omega; (intro _; rfl)) | ((with_reducible refine XIx.map ?_ ?_ ?_ ?_); omega; omega; (intro _; rfl))); conv => whnf) | (with_reducible apply XAnd.mk) | (exact XSame.mk rfl rfl) | (exact XSame.mk (by first | rfl | (simp only [List.map_append, List.length_append, List.length_map]; done) | (simp only [List.map_append, List.length_append, List.length_map]; rfl)) (by first | rfl | (simp only [List.map_append]; done) | (simp only [List.map_append]; rfl))) | (with_reducible exact trivial) | ((first | (with_reducible refine xdrop_app (by rw [List.length_map]; omega) ?_) | (with_reducible refine XDrop.desk (by assumption) ?_) | (with_reducible first | refine XArr.ints (by omega) (by omega) (by omega) ?_ | refine XArr.intsA (by omega) (by omega) (by omega) ?_) | ((with_reducible first | refine XArr.nats ?_ ?_ ?_ | refine XArr.natsA ?_ ?_ ?_ | refine XArr.ptr ?_ ?_ ?_); omega; omega)); conv => whnf) | (exact XSame.mk (by rw [decide_eq_true hc]) rfl) | (refine XCall.ret (whole_c d ok.toDkOk set hs ok.al ok.ap) ?_; conv => whnf) | ((with_reducible apply XBr.mk') <;> (intro h; conv => whnf))
    · skip
      repeat' first | ((with_reducible first | apply XBr.tt | apply XBr.ff | apply Chk.go | apply ChkA.go | apply ChkF.go | apply ChkB.go | apply XArr.pim0 | apply XArr.pim1); conv => whnf) | (with_reducible apply XBr.not) | ((with_reducible apply XBr.dec) <;> (intro h; first | (exfalso; omega) | ((try simp only [List.length_map] at h); first | (exfalso; omega) | (conv => whnf)))) | ((with_reducible first | apply XBr.beq | apply XBr.bne) <;> (intro h; first | (exfalso; omega) | (conv => whnf))) | ((with_reducible refine XInt.i64 (by omega) (by omega) ?_); conv => whnf) | ((with_reducible refine XHold.mk ?_ ?_); (first | omega | rfl | decide | exact ⟨rfl, by decide, rfl⟩ | exact wideI _ | exact widePr _ | exact wideSk _ | (unfold Room; constructor <;> ((try simp) <;> omega)) | exact ⟨rfl, by simp only [List.length_map], by unfold Room; constructor <;> ((try simp) <;> omega)⟩ | exact ⟨by omega, by omega, by unfold Room; constructor <;> ((try simp) <;> omega)⟩); conv => whnf) | ((first | ((with_reducible refine XIx.nat ?_ ?_ ?_); omega; (intro _; rfl)) | ((with_reducible refine XIx.map ?_ ?_ ?_ ?_); omega; omega; (intro _; rfl))); conv => whnf) | (with_reducible apply XAnd.mk) | (exact XSame.mk rfl rfl) | (exact XSame.mk (by first | rfl | (simp only [List.map_append, List.length_append, List.length_map]; done) | (simp only [List.map_append, List.length_append, List.length_map]; rfl)) (by first | rfl | (simp only [List.map_append]; done) | (simp only [List.map_append]; rfl))) | (with_reducible exact trivial) | ((first | (with_reducible refine xdrop_app (by rw [List.length_map]; omega) ?_) | (with_reducible refine XDrop.desk (by assumption) ?_) | (with_reducible first | refine XArr.ints (by omega) (by omega) (by omega) ?_ | refine XArr.intsA (by omega) (by omega) (by omega) ?_) | ((with_reducible first | refine XArr.nats ?_ ?_ ?_ | refine XArr.natsA ?_ ?_ ?_ | refine XArr.ptr ?_ ?_ ?_); omega; omega)); conv => whnf) | ((with_reducible apply XBr.mk') <;> (intro h; conv => whnf))
    · conv => whnf
      repeat' first | ((with_reducible first | apply XBr.tt | apply XBr.ff | apply Chk.go | apply ChkA.go | apply ChkF.go | apply ChkB.go | apply XArr.pim0 | apply XArr.pim1); conv => whnf) | (with_reducible apply XBr.not) | ((with_reducible apply XBr.dec) <;> (intro h; first | (exfalso; omega) | ((try simp only [List.length_map] at h); first | (exfalso; omega) | (conv => whnf)))) | ((with_reducible first | apply XBr.beq | apply XBr.bne) <;> (intro h; first | (exfalso; omega) | (conv => whnf))) | ((with_reducible refine XInt.i64 (by omega) (by omega) ?_); conv => whnf) | ((with_reducible refine XHold.mk ?_ ?_); (first | omega | rfl | decide | exact ⟨rfl, by decide, rfl⟩ | exact wideI _ | exact widePr _ | exact wideSk _ | (unfold Room; constructor <;> ((try simp) <;> omega)) | exact ⟨rfl, by simp only [List.length_map], by unfold Room; constructor <;> ((try simp) <;> omega)⟩ | exact ⟨by omega, by omega, by unfold Room; constructor <;> ((try simp) <;> omega)⟩); conv => whnf) | ((first | ((with_reducible refine XIx.nat ?_ ?_ ?_); omega; (intro _; rfl)) | ((with_reducible refine XIx.map ?_ ?_ ?_ ?_); omega; omega; (intro _; rfl))); conv => whnf) | (with_reducible apply XAnd.mk) | (exact XSame.mk rfl rfl) | (exact XSame.mk (by first | rfl | (simp only [List.map_append, List.length_append, List.length_map]; done) | (simp only [List.map_append, List.length_append, List.length_map]; rfl)) (by first | rfl | (simp only [List.map_append]; done) | (simp only [List.map_append]; rfl))) | (with_reducible exact trivial) | ((first | (with_reducible refine xdrop_app (by rw [List.length_map]; omega) ?_) | (with_reducible refine XDrop.desk (by assumption) ?_) | (with_reducible first | refine XArr.ints (by omega) (by omega) (by omega) ?_ | refine XArr.intsA (by omega) (by omega) (by omega) ?_) | ((with_reducible first | refine XArr.nats ?_ ?_ ?_ | refine XArr.natsA ?_ ?_ ?_ | refine XArr.ptr ?_ ?_ ?_); omega; omega)); conv => whnf) | ((with_reducible apply XBr.mk') <;> (intro h; conv => whnf))
      refine XOut.bool ?_
      unfold rightB; rw [decide_eq_true hc]; rfl
  · apply Walk.drawX tab_ok mixed_ok [] [] (fun _ => []) [_, _, _, _, _, _, _, _, _, _, _, .bool false, .bool false, _, _, _, _, _] (by kernel_rfl) rfl
    · skip
      repeat' first | ((with_reducible first | apply XBr.tt | apply XBr.ff | apply Chk.go | apply ChkA.go | apply ChkF.go | apply ChkB.go | apply XArr.pim0 | apply XArr.pim1); conv => whnf) | (with_reducible apply XBr.not) | ((with_reducible apply XBr.dec) <;> (intro h; first | (exfalso; omega) | ((try simp only [List.length_map] at h); first | (exfalso; omega) | (conv => whnf)))) | ((with_reducible first | apply XBr.beq | apply XBr.bne) <;> (intro h; first | (exfalso; omega) | (conv => whnf))) | ((with_reducible refine XInt.i64 (by omega) (by omega) ?_); conv => whnf) | ((with_reducible refine XHold.mk ?_ ?_); (first | omega | rfl | decide | exact ⟨rfl, by decide, rfl⟩ | exact wideI _ | exact widePr _ | exact wideSk _ | (unfold Room; constructor <;> ((try simp) <;> omega)) | exact ⟨rfl, by simp only [List.length_map], by unfold Room; constructor <;> ((try simp) <;> omega)⟩ | exact ⟨by omega, by omega, by unfold Room; constructor <;> ((try simp) <;> omega)⟩); conv => whnf) | ((first | ((with_reducible refine XIx.nat ?_ ?_ ?_); omega; (intro _; rfl)) | ((with_reducible refine XIx.map ?_ ?_ ?_ ?_); omega; omega; (intro _; rfl))); conv => whnf) | (with_reducible apply XAnd.mk) | (exact XSame.mk rfl rfl) | (exact XSame.mk (by first | rfl | (simp only [List.map_append, List.length_append, List.length_map]; done) | (simp only [List.map_append, List.length_append, List.length_map]; rfl)) (by first | rfl | (simp only [List.map_append]; done) | (simp only [List.map_append]; rfl))) | (with_reducible exact trivial) | ((first | (with_reducible refine xdrop_app (by rw [List.length_map]; omega) ?_) | (with_reducible refine XDrop.desk (by assumption) ?_) | (with_reducible first | refine XArr.ints (by omega) (by omega) (by omega) ?_ | refine XArr.intsA (by omega) (by omega) (by omega) ?_) | ((with_reducible first | refine XArr.nats ?_ ?_ ?_ | refine XArr.natsA ?_ ?_ ?_ | refine XArr.ptr ?_ ?_ ?_); omega; omega)); conv => whnf) | (exact XSame.mk (by rw [decide_eq_false hc]) rfl) | ((with_reducible apply XBr.mk') <;> (intro h; conv => whnf))
    · skip
      repeat' first | ((with_reducible first | apply XBr.tt | apply XBr.ff | apply Chk.go | apply ChkA.go | apply ChkF.go | apply ChkB.go | apply XArr.pim0 | apply XArr.pim1); conv => whnf) | (with_reducible apply XBr.not) | ((with_reducible apply XBr.dec) <;> (intro h; first | (exfalso; omega) | ((try simp only [List.length_map] at h); first | (exfalso; omega) | (conv => whnf)))) | ((with_reducible first | apply XBr.beq | apply XBr.bne) <;> (intro h; first | (exfalso; omega) | (conv => whnf))) | ((with_reducible refine XInt.i64 (by omega) (by omega) ?_); conv => whnf) | ((with_reducible refine XHold.mk ?_ ?_); (first | omega | rfl | decide | exact ⟨rfl, by decide, rfl⟩ | exact wideI _ | exact widePr _ | exact wideSk _ | (unfold Room; constructor <;> ((try simp) <;> omega)) | exact ⟨rfl, by simp only [List.length_map], by unfold Room; constructor <;> ((try simp) <;> omega)⟩ | exact ⟨by omega, by omega, by unfold Room; constructor <;> ((try simp) <;> omega)⟩); conv => whnf) | ((first | ((with_reducible refine XIx.nat ?_ ?_ ?_); omega; (intro _; rfl)) | ((with_reducible refine XIx.map ?_ ?_ ?_ ?_); omega; omega; (intro _; rfl))); conv => whnf) | (with_reducible apply XAnd.mk) | (exact XSame.mk rfl rfl) | (exact XSame.mk (by first | rfl | (simp only [List.map_append, List.length_append, List.length_map]; done) | (simp only [List.map_append, List.length_append, List.length_map]; rfl)) (by first | rfl | (simp only [List.map_append]; done) | (simp only [List.map_append]; rfl))) | (with_reducible exact trivial) | ((first | (with_reducible refine xdrop_app (by rw [List.length_map]; omega) ?_) | (with_reducible refine XDrop.desk (by assumption) ?_) | (with_reducible first | refine XArr.ints (by omega) (by omega) (by omega) ?_ | refine XArr.intsA (by omega) (by omega) (by omega) ?_) | ((with_reducible first | refine XArr.nats ?_ ?_ ?_ | refine XArr.natsA ?_ ?_ ?_ | refine XArr.ptr ?_ ?_ ?_); omega; omega)); conv => whnf) | ((with_reducible apply XBr.mk') <;> (intro h; conv => whnf))
    · conv => whnf
      repeat' first | ((with_reducible first | apply XBr.tt | apply XBr.ff | apply Chk.go | apply ChkA.go | apply ChkF.go | apply ChkB.go | apply XArr.pim0 | apply XArr.pim1); conv => whnf) | (with_reducible apply XBr.not) | ((with_reducible apply XBr.dec) <;> (intro h; first | (exfalso; omega) | ((try simp only [List.length_map] at h); first | (exfalso; omega) | (conv => whnf)))) | ((with_reducible first | apply XBr.beq | apply XBr.bne) <;> (intro h; first | (exfalso; omega) | (conv => whnf))) | ((with_reducible refine XInt.i64 (by omega) (by omega) ?_); conv => whnf) | ((with_reducible refine XHold.mk ?_ ?_); (first | omega | rfl | decide | exact ⟨rfl, by decide, rfl⟩ | exact wideI _ | exact widePr _ | exact wideSk _ | (unfold Room; constructor <;> ((try simp) <;> omega)) | exact ⟨rfl, by simp only [List.length_map], by unfold Room; constructor <;> ((try simp) <;> omega)⟩ | exact ⟨by omega, by omega, by unfold Room; constructor <;> ((try simp) <;> omega)⟩); conv => whnf) | ((first | ((with_reducible refine XIx.nat ?_ ?_ ?_); omega; (intro _; rfl)) | ((with_reducible refine XIx.map ?_ ?_ ?_ ?_); omega; omega; (intro _; rfl))); conv => whnf) | (with_reducible apply XAnd.mk) | (exact XSame.mk rfl rfl) | (exact XSame.mk (by first | rfl | (simp only [List.map_append, List.length_append, List.length_map]; done) | (simp only [List.map_append, List.length_append, List.length_map]; rfl)) (by first | rfl | (simp only [List.map_append]; done) | (simp only [List.map_append]; rfl))) | (with_reducible exact trivial) | ((first | (with_reducible refine xdrop_app (by rw [List.length_map]; omega) ?_) | (with_reducible refine XDrop.desk (by assumption) ?_) | (with_reducible first | refine XArr.ints (by omega) (by omega) (by omega) ?_ | refine XArr.intsA (by omega) (by omega) (by omega) ?_) | ((with_reducible first | refine XArr.nats ?_ ?_ ?_ | refine XArr.natsA ?_ ?_ ?_ | refine XArr.ptr ?_ ?_ ?_); omega; omega)); conv => whnf) | ((with_reducible apply XBr.mk') <;> (intro h; conv => whnf))
      refine XOut.bool ?_
      unfold rightB; rw [decide_eq_false hc]; rfl
end GA
end

section
namespace GA
open Go Go.RowKit
set_option linter.unusedVariables false

section
variable {P : Program} {T : Tab} {N : Nat} {ρ : Option Nat} {D : List Nat} {σ : St} {H : List Blk} {Q : Post}

theorem AWp.loopG {c : Code} {G : Type} (st : G → St) (hp : G → List Blk) (μ : G → Nat) (g0 : G) (hσ : ∀ t r, st g0 t = some r → σ t = some r) (hH : hp g0 = H) (hD : D = [])
    (hlow : ∀ g, (∀ x ∈ hp g, x.low (hp g).length = true) ∧ ∀ t r, st g t = some r → r.low (hp g).length = true) (hlen : ∀ g, (hp g0).length ≤ (hp g).length)
    (round : ∀ g, AWp P N ρ c (thenQ (fun D' σ' H' => D' = D ∧ ∃ g' l, μ g' < μ g ∧ hp g' ++ l = H' ∧ ∀ t r, st g' t = some r → σ' t = some r) Q) D (st g) (hp g)) : AWp P N ρ (.loop c) Q D σ H := by
  intro E h β a w s
  subst hH; subst hD
  let I : G → Act → World → Prop := fun g a w => ∃ h' β', Ext h β (hp g0) h' β' (hp g) ∧ Stands P E N h' β' [] (st g) (hp g) a w
  have least : ∀ a w, (∃ g, I g a w) → ∃ n, (∃ g, I g a w ∧ μ g = n) ∧ ∀ m, m < n → ¬ ∃ g, I g a w ∧ μ g = m :=
    fun a w ⟨g, hg⟩ => exists_least ⟨μ g, g, hg, rfl⟩
  classical
  let M : Act → World → Nat := fun a w => if e : ∃ g, I g a w then Classical.choose (least a w e) else 0
  have hM : ∀ a w (e : ∃ g, I g a w), (∃ g, I g a w ∧ μ g = M a w) ∧ ∀ g, I g a w → M a w ≤ μ g := by
    intro a w e
    have hc := Classical.choose_spec (least a w e)
    have hm : M a w = Classical.choose (least a w e) := by simp only [M, dif_pos e]
    rw [hm]
    refine ⟨hc.1, fun g hg => ?_⟩
    rcases Nat.lt_or_ge (μ g) (Classical.choose (least a w e)) with hlt | hge
    · exact absurd ⟨g, hg, rfl⟩ (hc.2 _ hlt)
    · exact hge
  refine wpIn_loop (fun a w => ∃ g, I g a w) M ⟨g0, h, β, Ext.refl _ _ _, s.sr, fun t r e => s.fits t r (hσ t r e), s.size, s.df⟩ ?_
  intro a' w' hI
  obtain ⟨⟨g, hg, hmu⟩, _⟩ := hM a' w' hI
  obtain ⟨h', β', X, s'⟩ := hg
  refine wpIn_mono (round g E h' β' a' w' s') ?_
  rintro e a'' w'' ⟨D'', σ'', H'', h'', β'', q, X', s''⟩
  cases e with
  | normal =>
    obtain ⟨rfl, g', l, hlt, rfl, hsub⟩ := q
    have hI' : I g' a'' w'' := by
      refine ⟨h'', β'', (X.trans X').cut (hlen g'), s''.sr.cut (hlow g').1, fun t r e => ?_, s''.size, s''.df.any⟩
      obtain ⟨v, h1, h2⟩ := s''.fits t r (hsub t r e)
      exact ⟨v, h1, h2.cut ((hlow g').2 t r e)⟩
    refine ⟨⟨g', hI'⟩, ?_⟩
    have := (hM a'' w'' ⟨g', hI'⟩).2 g' hI'
    omega
  | _ => exact ⟨D'', σ'', H'', h'', β'', q, X.trans X', s''⟩

structure XAgainG {G : Type} (I : G → Prop) (L : G → List (Nat × AV)) (hp : G → List Blk) (μ : G → Nat) (g : G) (D' : List Nat) (σ' : St) (H' : List Blk) : Prop where
  d : D' = []
  o : ∃ g' l, I g' ∧ μ g' < μ g ∧ hp g' ++ l = H' ∧ SubX (L g') σ'
theorem Walk.loopG {c : Code} {G : Type} (ok : TabOk P T) (own : List Nat) (I : G → Prop) (L : G → List (Nat × AV)) (hp : G → List Blk) (μ : G → Nat) (g0 : G) (h0 : I g0) (hH : hp g0 = H) (hs : SubX (L g0) σ)
    (hlow : ∀ g, I g → (∀ x ∈ hp g, x.low (hp g).length = true) ∧ ∀ p ∈ L g, p.2.low (hp g).length = true) (hlen : ∀ g, I g → (hp g0).length ≤ (hp g).length)
    (round : ∀ g, I g → XRun P T N ρ own c (thenQ (XAgainG I L hp μ g) Q) [] (stX (L g)) (hp g)) : Walk P N ρ (.loop c) Q [] σ H := by
  constructor
  have hst : ∀ (l : List (Nat × AV)) t r, stX l t = some r → (t, r) ∈ l := by
    intro l; induction l with
    | nil => intro t r h; cases h
    | cons p l ih =>
      obtain ⟨u, x⟩ := p
      intro t r h; simp only [stX, updX_eq, upd] at h
      split at h
      · rename_i e; cases h; subst e; exact List.mem_cons_self
      · exact List.mem_cons_of_mem _ (ih t r h)
  refine AWp.loopG (G := {g : G // I g}) (fun g => stX (L g.1)) (fun g => hp g.1) (fun g => μ g.1) ⟨g0, h0⟩ (stX_sub hs) hH rfl (fun g => ⟨(hlow g.1 g.2).1, fun t r e => (hlow g.1 g.2).2 (t, r) (hst _ _ _ e)⟩) (fun g => hlen g.1 g.2) fun g => ?_
  refine (XRun.sound ok (round g.1 g.2)).mono fun e D' σ' H' q => ?_
  cases e with
  | normal => obtain ⟨h1, g', l, h2, h3, h4, h5⟩ := q; exact ⟨h1, ⟨g', h2⟩, l, h3, h4, stX_sub h5⟩
  | _ => exact q
theorem XAgainG.go {G : Type} {I : G → Prop} {L : G → List (Nat × AV)} {hp : G → List Blk} {μ : G → Nat} {g : G} (g' : G) (l : List Blk) (h1 : I g') (h2 : μ g' < μ g) (h3 : hp g' ++ l = H) (h4 : SubX (L g') σ) : XAgainG I L hp μ g [] σ H := ⟨rfl, g', l, h1, h2, h3, h4⟩
end
end GA
end
