/- Bodies with marks, and bodies that are walked in their caller's memory. -/
import Derived.Test.YtlbdomhfcghjdaaAbs19
namespace GA
open Go Go.RowKit
set_option linter.unusedVariables false

def xMarks : List Nat → List Blk → (List Blk → Prop) → Prop
  | [], H, k => k H
  | i :: D, H, k => match lget H i with
    | some (.raw (.deferred (some []))) => hset H i (.raw (.deferred none)) fun H' => xMarks D H' k
    | _ => False
/-- The end of a function that is walked in its caller's memory. -/
def XIn (T : Tab) (res : List ResultVar) (k : AV → List Blk → Prop) : Post := fun e D σ H =>
  match e with
  | .normal | .ret => xMarks D H fun H' => xRes T σ H' res fun rs => k (pack rs) H'
  | _ => False
/-- The end of a function that is walked by itself. -/
def XFm (P : Program) (T : Tab) (res : List ResultVar) (r0 : AV) : Post := XIn T res fun r H => XOut P H r r0

section
variable {P : Program} {T : Tab} {N : Nat} {ρ : Option Nat} {own : List Nat} {E : Env} {h : Nat → Option Obj} {β : Nat → Value} {H : List Blk} {w : World} {σ : St} {a : Act}

theorem leavesX {fn : Func} {k : AV → List Blk → Prop} {h0 : Nat → Option Obj} {β0 : Nat → Value} {H0 : List Blk} (ok : TabOk P T) (hen : ∀ b, E.en b = none → h0 b = none) : ∀ (ds : List Deferred) (D : List Nat) (h : Nat → Option Obj) (β : Nat → Value) (H : List Blk) (w : World), Ext h0 β0 H0 h β H → SR P E h β H w → Fits P h β H σ a → DfOk P E h β H D ds →
      xMarks D H (fun H' => xRes T σ H' fn.results.toList fun rs => k (pack rs) H') → LeavesInM (FW none) 0 P fn a.tmps (Ends P E h0 β0 H0 k) ds .returning w
  | [], D, h, β, H, w, X, s, F, df, hk => by
    obtain ⟨_, df⟩ := df
    cases df
    obtain ⟨v, rs, e1, e2, e3⟩ := results_run (fn := fn) s F (xRes_sound ok hk)
    exact ⟨v, e1, pack rs, H, h, β, v, rfl, e3, X, s, e2⟩
  | d :: ds, D, h, β, H, w, X, s, F, ⟨hen2, df⟩, hk => by
    cases df with
    | @lost b _ _ hb he nd t =>
      have h4 := s.imm _ _ hb
      have htake := run_takeDeferred (P := P) h4
      refine ⟨by simp, .inl ⟨b, _, rfl, htake, ?_⟩⟩
      exact leavesX ok hen ds D _ β H _ (X.hid (hen _ he)) (s.hid hb _) (F.hid hb) (DfOk.hid hb he ⟨hen2, t⟩ nd) hk
    | @own i b D _ h2 t =>
      unfold xMarks at hk
      split at hk
      case h_2 => exact hk.elim
      rename_i hl
      rw [lget_eq] at hl
      obtain ⟨hlt, hk2⟩ := hset_spec hk
      cases h2 with
      | yld hlv hb =>
        have hb' := hb _ hl rfl
        obtain ⟨b', h3, h4⟩ := s.blk i _ hl
        rw [hb'] at h3; cases h3
        have htake := run_takeDeferred (P := P) h4
        have hbo : blkOf β H i = some b := by simp only [blkOf, hl, hb']; rfl
        obtain ⟨s', X'⟩ := s.modify (β' := β) (w' := w.putObj b (.deferred none)) (x' := .raw (.deferred none)) hl (fun _ _ => rfl) (.inr ⟨_, rfl, rfl⟩) s.env
          (fun q _ hn => World.putObj_heap_other (fun e => hn (by rw [hbo, e]))) (fun b0 e => .inl (by rw [hbo]; rw [hb'] at e; exact e))
          (fun _ => ⟨b, hb', World.putObj_heap_same (Array.getElem?_eq_some_iff.1 h4).1⟩)
        refine ⟨by simp, .inl ⟨b, _, rfl, htake, ?_⟩⟩
        exact leavesX ok hen ds D h β _ _ (X.trans X') s' (F.ext X') (DfOk.ext ⟨hen2, t⟩ X') hk2

theorem ACall.inl {f : FuncId} {fn : Func} {c : Code} {rs : List AV} {res : List ResultVar} {k : AV → List Blk → Prop} (ok : TabOk P T) (own : List Nat) (hf : P.funcs[f]? = some fn) (hb : fn.body = some c) (hn : (fn.name == "runtime.NumGoroutine") = false)
    (hN : fn.ntmps = N) (hr : fn.results = res.toArray) (hl : rs.length ≤ N) (x : XRun P T N none own c (XIn T res k) [] (argX rs) H) : ACall P f rs H k := by
  refine ⟨⟨fn, hf, hn, by rw [hb]; rfl⟩, fun E h β w vs s hrs => ?_⟩
  refine (show CallsIn (FW none) 0 P f vs.toArray w (Ends P ⟨E.b, E.fr, h⟩ h β H k) from ?_).mono fun _ _ => Ends.unen
  refine callsIn_of_wp_marks hf hb trivial ?_ rfl
  have hsz : (vs.toArray ++ Array.replicate (fn.ntmps - vs.toArray.size) undef).size = N := by simp [hrs.1]; omega
  refine wpIn_mono (XRun.sound (own := own) ok x ⟨E.b, E.fr, h⟩ h β _ w ⟨s.en h, fun t r e => ?_, hsz, ⟨fun _ _ e => e, .nil⟩⟩) ?_
  · rw [argX_eq] at e
    obtain ⟨v, h1, h2⟩ := hrs.2 t r e
    refine ⟨v, ?_, h2⟩
    rw [Array.getElem?_append_left (by simpa using (List.getElem?_eq_some_iff.1 h1).1)]; simpa using h1
  · rintro e a' w' ⟨D', σ', H', h', β', q, X, s'⟩
    have hq : (e = .normal ∨ e = .ret) ∧ xMarks D' H' fun H' => xRes T σ' H' fn.results.toList fun rs => k (pack rs) H' := by
      rw [hr]
      unfold XIn at q; split at q
      · exact ⟨.inl rfl, q⟩
      · exact ⟨.inr rfl, q⟩
      · exact q.elim
    obtain ⟨he, q⟩ := hq
    have hL : LeavesInM (FW none) 0 P fn a'.tmps (Ends P ⟨E.b, E.fr, h⟩ h β H k) a'.defers .returning w' :=
      leavesX ok (fun _ e => e) a'.defers D' h' β' H' w' X s'.sr s'.fits s'.df q
    rcases he with rfl | rfl <;> exact hL

/-- All of one's own memory given up at the end. -/
theorem Comp.body' {f : FuncId} {fn : Func} {c : Code} {rs : List AV} {res : List ResultVar} {r0 : AV} (ok : TabOk P T) (own : List Nat) (hf : P.funcs[f]? = some fn) (hb : fn.body = some c) (hn : (fn.name == "runtime.NumGoroutine") = false)
    (hN : fn.ntmps = N) (hr : fn.results = res.toArray) (hl : rs.length ≤ N) (hlo : lowL 0 rs = true) (x : XRun P T N none own c (XFm P T res r0) [] (argX rs) []) : Comp P f rs r0 := by
  refine ⟨hlo, ?_⟩
  obtain ⟨h1, h2⟩ := ACall.inl ok own hf hb hn hN hr hl x
  refine ⟨h1, fun E h β w vs s hrs => (h2 E h β w vs s hrs).mono ?_⟩
  rintro e w' ⟨r, H', h', β', v, rfl, hk, X, s', hrep⟩
  exact ⟨r0, [], hall h' β' H' w', β', v, rfl, ⟨rfl, rfl⟩, ⟨fun b o eb => hall_imm s' (X.imm b o eb), Nat.le_refl _, by simp⟩, s'.all, hk.o E h' β' w' s' v hrep⟩

theorem XRun.monoX (ok : TabOk P T) {c : Code} {Q Q' : Post} {D : List Nat} (hq : ∀ e D σ H, Q e D σ H → Q' e D σ H) (x : XRun P T N ρ own c Q D σ H) : AWp P N ρ c Q' D σ H := (XRun.sound ok x).mono hq
theorem ACall.inl0 {f : FuncId} {fn : Func} {c : Code} {rs : List AV} {res : List ResultVar} {k : AV → List Blk → Prop} (ok : TabOk P T) (own : List Nat) (hf : P.funcs[f]? = some fn) (hb : fn.body = some c) (hn : (fn.name == "runtime.NumGoroutine") = false)
    (hN : fn.ntmps = N) (hr : fn.results = res.toArray) (hl : rs.length ≤ N) (x : AWp P N none c (XIn T res k) [] (argX rs) H) : ACall P f rs H k := by
  refine ⟨⟨fn, hf, hn, by rw [hb]; rfl⟩, fun E h β w vs s hrs => ?_⟩
  refine (show CallsIn (FW none) 0 P f vs.toArray w (Ends P ⟨E.b, E.fr, h⟩ h β H k) from ?_).mono fun _ _ => Ends.unen
  refine callsIn_of_wp_marks hf hb trivial ?_ rfl
  have hsz : (vs.toArray ++ Array.replicate (fn.ntmps - vs.toArray.size) undef).size = N := by simp [hrs.1]; omega
  refine wpIn_mono (x ⟨E.b, E.fr, h⟩ h β _ w ⟨s.en h, fun t r e => ?_, hsz, ⟨fun _ _ e => e, .nil⟩⟩) ?_
  · rw [argX_eq] at e
    obtain ⟨v, h1, h2⟩ := hrs.2 t r e
    refine ⟨v, ?_, h2⟩
    rw [Array.getElem?_append_left (by simpa using (List.getElem?_eq_some_iff.1 h1).1)]; simpa using h1
  · rintro e a' w' ⟨D', σ', H', h', β', q, X, s'⟩
    have hq : (e = .normal ∨ e = .ret) ∧ xMarks D' H' fun H' => xRes T σ' H' fn.results.toList fun rs => k (pack rs) H' := by
      rw [hr]
      unfold XIn at q; split at q
      · exact ⟨.inl rfl, q⟩
      · exact ⟨.inr rfl, q⟩
      · exact q.elim
    obtain ⟨he, q⟩ := hq
    have hL : LeavesInM (FW none) 0 P fn a'.tmps (Ends P ⟨E.b, E.fr, h⟩ h β H k) a'.defers .returning w' :=
      leavesX ok (fun _ e => e) a'.defers D' h' β' H' w' X s'.sr s'.fits s'.df q
    rcases he with rfl | rfl <;> exact hL
theorem Comp.body {f : FuncId} {fn : Func} {c : Code} {rs : List AV} {res : List ResultVar} {r0 : AV} (ok : TabOk P T) (own : List Nat) (hf : P.funcs[f]? = some fn) (hb : fn.body = some c) (hn : (fn.name == "runtime.NumGoroutine") = false)
    (hN : fn.ntmps = N) (hr : fn.results = res.toArray) (hl : rs.length ≤ N) (hlo : lowL 0 rs = true) (x : XRun P T N none own c (XFn P T res r0) [] (argX rs) []) : Comp P f rs r0 := by
  refine ⟨hlo, ?_⟩
  obtain ⟨h1, h2⟩ := ACall.inl0 (k := fun r H => XOut P H r r0) ok own hf hb hn hN hr hl (XRun.monoX ok (fun e D σ H q => by
    unfold XFn at q
    split at q
    · exact q
    · exact q
    · exact q.elim) x)
  refine ⟨h1, fun E h β w vs s hrs => (h2 E h β w vs s hrs).mono ?_⟩
  rintro e w' ⟨r, H', h', β', v, rfl, hk, X, s', hrep⟩
  exact ⟨r0, [], hall h' β' H' w', β', v, rfl, ⟨rfl, rfl⟩, ⟨fun b o eb => hall_imm s' (X.imm b o eb), Nat.le_refl _, by simp⟩, s'.all, hk.o E h' β' w' s' v hrep⟩

/-- A call that is walked in place. -/
theorem XCall.inl {f : FuncId} {fn : Func} {c : Code} {rs : List AV} {res : List ResultVar} {k : AV → List Blk → Prop} (ok : TabOk P T) (own : List Nat) (hf : P.funcs[f]? = some fn) (hb : fn.body = some c) (hn : (fn.name == "runtime.NumGoroutine") = false)
    (hN : fn.ntmps = N) (hr : fn.results = res.toArray) (hl : rs.length ≤ N) (x : XRun P T N none own c (XIn T res k) [] (argX rs) H) : XCall P f rs H k :=
  ⟨.inl ok own hf hb hn hN hr hl x⟩

/-- A slice that is nil may as well be one of one's own. -/
theorem Walk.nilgr {c : Code} {Q : Post} {D : List Nat} (t : Nat) (te : TypeId) (ht : σ t = some (.sl true [])) (x : Walk P N ρ c Q D (updX σ t (.gr H.length 0)) (H ++ [.grow te true []])) : Walk P N ρ c Q D σ H := by
  constructor
  intro E h β a w s
  obtain ⟨s', X⟩ := s.sr.push (w' := w) s.sr.env (fun _ _ => rfl) (.slice none 0 0) (.grow te true []) (by intro b hb; simp [anchor] at hb) (fun _ => .inl ⟨rfl, rfl, by simp [upb]⟩)
  refine wpIn_mono (x.o E h _ a w ⟨s', fun u r e => ?_, s.size, s.df.ext X⟩) fun _ _ _ => Conc.ext X
  rw [updX_eq] at e; unfold upd at e
  split at e
  · rename_i hu; subst hu; cases e
    obtain ⟨v, h1, h2⟩ := s.fits u _ ht
    cases h2
    refine ⟨_, h1, .gr rfl (.push rfl) fun t' nl els e => ?_⟩
    rw [List.getElem?_append_right (Nat.le_refl _)] at e; simp at e; obtain ⟨_, _, rfl⟩ := e
    exact ⟨Nat.le_refl _, fun _ => by simp [upb]⟩
  · obtain ⟨v, h1, h2⟩ := s.fits u r e
    exact ⟨v, h1, X.rep h2⟩
end
end GA
