/- A range over a function: the statement, and a round; a body walked in its caller's memory. -/
import Derived.Test.YtlbdomhfcghjdaaAbs18
namespace GA
open Go Go.RowKit
set_option linter.unusedVariables false

def xPend (P : Program) (T : Tab) (N : Nat) (own : List Nat) (Q : Post) (D : List Nat) (σ : St) (H : List Blk) (pend : Option Code) : Prop :=
  match pend with
  | none => Q .normal D σ H
  | some c => XRun P T N none own c Q D σ H
/-- What is left of the statement when the function has returned. -/
def xRangeEnd (P : Program) (T : Tab) (N : Nat) (own : List Nat) (Q : Post) (D : List Nat) (σ : St) (i : Nat) (H : List Blk) : Prop :=
  match lget H i with
  | some (.lp st pend _ _ _ _ _ _) => match st with
    | .busy => False
    | _ => hset H i .dead fun H' => xPend P T N own Q D σ H' pend
  | _ => False

def xPuts : List Nat → List AV → St → Option St
  | [], [], σ => some σ
  | t :: ts, r :: rs, σ => xPuts ts rs (updX σ t r)
  | _, _, _ => none

/-- How a round ends. -/
def xRound (i : Nat) (K : AV → List Blk → Prop) : Post := fun e _ _ H =>
  match lget H i with
  | some (.lp _ _ f tm ps x y n) => match e with
    | .normal => hset H i (.lp .ready none f tm ps x y n) fun H' => K (.bool true) H'
    | .ret => hset H i (.lp .done (some .ret) f tm ps x y n) fun H' => K (.bool false) H'
    | .exit id => hset H i (.lp .done (some (.exit id)) f tm ps x y n) fun H' => K (.bool false) H'
    | _ => False
  | _ => False
def xBegin (P : Program) (T : Tab) (own : List Nat) (i : Nat) (K : AV → List Blk → Prop) (ρ : Option Nat) : Post := fun e D σ H =>
  match e, lget H i with
  | .normal, some (.lp .ready pend f tm ps x y n) => hset H i (.lp .busy pend f tm ps x y n) fun H' => XRun P T n ρ own y (xRound i K) D σ H'
  | _, _ => False

section
variable {P : Program} {T : Tab} {N : Nat} {ρ : Option Nat} {own : List Nat} {E : Env} {h : Nat → Option Obj} {β : Nat → Value} {H : List Blk} {w : World} {σ : St} {a : Act} {D : List Nat}

theorem xPuts_fits : ∀ {ts : List Nat} {rs : List AV} {vs : List Value} {σ σ' : St} {tmps : Array Value}, xPuts ts rs σ = some σ' → RepL P h β H rs vs → (∀ t ∈ ts, t < tmps.size) →
    (∀ t r, σ t = some r → ∃ v, tmps[t]? = some v ∧ Rep P h β H r v) → vs.length = ts.length ∧
    ∀ t r, σ' t = some r → ∃ v, ((ts.zip vs).foldl (fun (tmps : Array Value) (x : Nat × Value) => tmps.setIfInBounds x.1 x.2) tmps)[t]? = some v ∧ Rep P h β H r v
  | [], [], vs, σ, σ', tmps, e, hr, _, F => by
    cases e
    have : vs = [] := List.eq_nil_of_length_eq_zero hr.1
    subst this; exact ⟨rfl, F⟩
  | t :: ts, r :: rs, vs, σ, σ', tmps, e, hr, hb, F => by
    cases vs with
    | nil => have := hr.1; simp at this
    | cons v vs =>
      obtain ⟨v', e1, e2⟩ := hr.2 0 r rfl
      simp at e1; subst e1
      have hr' : RepL P h β H rs vs := ⟨by have := hr.1; simpa using this, fun j x ex => by have := hr.2 (j + 1) x (by simpa using ex); simpa using this⟩
      have F' : ∀ u x, updX σ t r u = some x → ∃ y, (tmps.setIfInBounds t v)[u]? = some y ∧ Rep P h β H x y := by
        intro u x ex
        rw [updX_eq] at ex; unfold upd at ex
        by_cases hu : u = t
        · subst hu; simp at ex; subst ex
          exact ⟨v, by simp [hb u (by simp)], e2⟩
        · simp [hu] at ex
          obtain ⟨y, g1, g2⟩ := F u x ex
          exact ⟨y, by rw [Array.getElem?_setIfInBounds_ne (Ne.symm hu)]; exact g1, g2⟩
      obtain ⟨g1, g2⟩ := xPuts_fits (tmps := tmps.setIfInBounds t v) (show xPuts ts rs (updX σ t r) = some σ' from e) hr' (fun u hu => by simpa using hb u (by simp [hu])) F'
      exact ⟨by simp [g1], by simpa using g2⟩
  | [], _ :: _, _, _, _, _, e, _, _, _ => by cases e
  | _ :: _, [], _, _, _, _, e, _, _, _ => by cases e

theorem Walk.range {g : Operand} {ps : Array Tmp} {assign body : Code} {Q : Post} {f : FuncId} {caps : List AV} (ok : TabOk P T) (tm : List (Nat × AV)) (hg : ev σ g = some (.fn f caps)) (ht : SubX tm σ)
    (x : ∀ fn, XCall P f (.yld (H.length + 1) :: caps) (H ++ [.raw (.deferred (some []))] ++ [.lp .ready none fn tm ps assign body N]) fun _ H' => xRangeEnd P T N own Q (H.length :: D) σ (H.length + 1) H') :
    Walk P N none (.rangeFunc g ps assign body) Q D σ H := by
  constructor
  intro E h β a w s
  refine wpIn_rangeFunc fun fn _ => ?_
  have hf := s.fits.ev hg
  generalize hv : a.eval g = fval at hf
  cases hf with
  | @fn _ _ vs us hs hc hr =>
    obtain ⟨hent, hcall⟩ := (x fn).o
    let w1 := (w.alloc (.deferred (some []))).alloc (.loop { state := .ready, pending := none, fn, tmps := a.tmps, params := ps, assign, body, defers := w.heap.size })
    -- the blocks
    obtain ⟨s1, X1⟩ := s.sr.push (w' := w.alloc (.deferred (some []))) s.sr.env (fun k hk => Below.heap_alloc _ _ _ hk) (.pointer (some ⟨w.heap.size, 0, none⟩)) (.raw (.deferred (some []))) (by intro b hb; simp [anchor] at hb; omega)
      (fun X => ⟨w.heap.size, by simp [upb], heap_alloc_new w _⟩)
    have hsz : (w.alloc (.deferred (some []))).heap.size = w.heap.size + 1 := World.size_alloc _ _
    obtain ⟨s2, X2⟩ := s1.push (w' := w1) s.sr.env (fun k hk => Below.heap_alloc _ _ _ hk) (.pointer (some ⟨w.heap.size + 1, 0, none⟩)) (.lp .ready none fn tm ps assign body N) (by intro b hb; simp [anchor] at hb; omega)
      (fun X => ⟨w.heap.size + 1, w.heap.size, a.tmps, by simp [upb], by rw [← hsz]; exact heap_alloc_new _ _, s.size, fun t r e => by
        have : σ t = some r := by
          have : ∀ (l : List (Nat × AV)), SubX l σ → (t, r) ∈ l → σ t = some r := by
            intro l; induction l with
            | nil => intro _ h; cases h
            | cons p l ih => intro h1 h2; rcases List.mem_cons.1 h2 with h2 | h2
                             · subst h2; exact h1.1
                             · exact ih h1.2 h2
          exact this tm ht e
        obtain ⟨v, e1, e2⟩ := s.fits t r this
        exact ⟨v, e1, X.rep (X1.rep e2)⟩⟩)
    have hl2 : (H ++ [Blk.raw (.deferred (some []))]).length = H.length + 1 := by simp
    rw [hl2] at s2 X2
    have X := X1.trans X2
    have hlp : (H ++ [Blk.raw (.deferred (some []))] ++ [Blk.lp .ready none fn tm ps assign body N])[H.length + 1]? = some (.lp .ready none fn tm ps assign body N) := by
      rw [List.getElem?_append_right (by simp)]; simp
    have hraw : (H ++ [Blk.raw (.deferred (some []))] ++ [Blk.lp .ready none fn tm ps assign body N])[H.length]? = some (.raw (.deferred (some []))) := by
      rw [List.getElem?_append_left (by simp), List.getElem?_append_right (by simp)]; simp
    have hy : Rep P h (upb (upb β H.length (.pointer (some ⟨w.heap.size, 0, none⟩))) (H.length + 1) (.pointer (some ⟨w.heap.size + 1, 0, none⟩))) (H ++ [.raw (.deferred (some []))] ++ [.lp .ready none fn tm ps assign body N]) (.yld (H.length + 1)) (.func (.yield (w.heap.size + 1)) #[] #[]) :=
      .yld (.of hlp rfl) fun y _ _ => by simp [upb]
    have hmk : Rep P h (upb (upb β H.length (.pointer (some ⟨w.heap.size, 0, none⟩))) (H.length + 1) (.pointer (some ⟨w.heap.size + 1, 0, none⟩))) (H ++ [.raw (.deferred (some []))] ++ [.lp .ready none fn tm ps assign body N]) (.yld H.length) (.func (.yield w.heap.size) #[] #[]) :=
      .yld (.of hraw rfl) fun y _ _ => by simp [upb]
    have hargs : RepL P h (upb (upb β H.length (.pointer (some ⟨w.heap.size, 0, none⟩))) (H.length + 1) (.pointer (some ⟨w.heap.size + 1, 0, none⟩))) (H ++ [.raw (.deferred (some []))] ++ [.lp .ready none fn tm ps assign body N]) (.yld (H.length + 1) :: caps) (.func (.yield (w.heap.size + 1)) #[] #[] :: vs.toList) :=
      .cons hy ⟨by simpa using hs, fun j y e => ⟨us j, by simpa using hc j y e, X.rep (hr j y e)⟩⟩
    have hres : (resolve a.eval (rangeCall g (w.heap.size + 1)) 0).run P w1 = .ok { target := .fn (.func f) vs, args := #[.func (.yield (w.heap.size + 1)) #[] #[]] } w1 := by
      have hcst : ∀ v, a.eval (.const v) = v := fun _ => rfl
      simp [resolve, hv, Deferred.ofValue, hcst]
    have hinv : (invoke (.fn (.func f) vs) #[.func (.yield (w.heap.size + 1)) #[] #[]]).run P w1 = .ok (.enter f (.func (.yield (w.heap.size + 1)) #[] #[] :: vs.toList).toArray) w1 := by
      have : (#[Value.func (.yield (w.heap.size + 1)) #[] #[]] ++ vs) = (.func (.yield (w.heap.size + 1)) #[] #[] :: vs.toList).toArray := by apply Array.ext'; simp
      simp only [invoke, run_callFunc hent, this]
    refine ⟨w.heap.size + 1, _, w1, _, w1, f, _, w1, run_enterLoop_outer fn a.tmps ps assign body, hres, fun _ _ => trivial, hinv, fun h => by simp at h, ?_⟩
    have hc2 := hcall E h _ w1 _ s2 hargs
    refine (show CallsIn (FW none) (0 - 1) P f _ w1 _ from hc2.mono ?_)
    rintro e w' ⟨r, H', h', β', v, rfl, hk, X', s', _⟩
    -- the end
    unfold xRangeEnd at hk
    split at hk
    case h_2 => exact hk.elim
    rename_i st pend f' tm' ps' as' bo' n' hl
    rw [lget_eq] at hl
    have hto := X'.to _ _ _ hlp hl
    rcases hto with hd | ⟨st2, pend2, he, hβ⟩
    · cases hd
    · cases he
      have hβ1 : β' (H.length + 1) = .pointer (some ⟨w.heap.size + 1, 0, none⟩) := by rw [hβ]; simp [upb]
      obtain ⟨b, dfr, tmps, h1, h2, h3, h4⟩ := s'.blk _ _ hl
      rw [hβ1] at h1; cases h1
      have hnb : st ≠ .busy := by rintro rfl; exact hk
      have hk2 : hset H' (H.length + 1) .dead fun H' => xPend P T N own Q (H.length :: D) σ H' pend := by
        cases st with
        | busy => exact hk.elim
        | ready => exact hk
        | done => exact hk
        | exhausted => exact hk
      obtain ⟨hlt, hk3⟩ := hset_spec hk2
      have hbo : blkOf β' H' (H.length + 1) = some (w.heap.size + 1) := by simp only [blkOf, hl, hβ1]; rfl
      obtain ⟨s3, X3⟩ := s'.modify (β' := β') (w' := w'.putObj (w.heap.size + 1) (.loop { state := .exhausted, pending := pend, fn := fn, tmps := tmps, params := ps, assign := assign, body := body, defers := dfr })) (x' := .dead) hl (fun _ _ => rfl) (.inl rfl) s'.env
        (fun q _ hn => World.putObj_heap_other (fun e => hn (by rw [hbo, e]))) (fun b e => .inl (by rw [hbo]; rw [hβ1] at e; exact e)) (fun _ => trivial)
      have Xall := X.trans (X'.trans X3)
      have hst : Stands P E N h' β' (H.length :: D) σ (H'.set (H.length + 1) .dead) { a with defers := [{ target := .collected w.heap.size, args := #[] }] ++ a.defers } (w'.putObj (w.heap.size + 1) (.loop { state := .exhausted, pending := pend, fn := fn, tmps := tmps, params := ps, assign := assign, body := body, defers := dfr })) := by
        exact ⟨s3, s.fits.ext Xall, s.size, ⟨(s.df.ext Xall).en, .own ((X'.trans X3).rep hmk) (s.df.ext Xall).l⟩⟩
      refine ⟨pend, _, run_endLoop h2 hnb, ?_⟩
      cases pend with
      | none => exact ⟨_, _, _, _, _, hk3, Xall, hst⟩
      | some c => exact wpIn_mono (XRun.sound ok hk3 E h' β' _ _ hst) fun _ _ _ => Conc.ext Xall

theorem XYield.go {i : Nat} {rs : List AV} {K : AV → List Blk → Prop} {pend : Option Code} {f : FuncId} {tm : List (Nat × AV)} {ps : Array Tmp} {assign body : Code} {σ0 : St} (ok : TabOk P T) (hl : lget H i = some (.lp .ready pend f tm ps assign body N)) (hp : xPuts ps.toList rs (stX tm) = some σ0)
    (hb : ∀ t ∈ ps.toList, t < N) (x : ∀ ρ, XRun P T N ρ own assign (xBegin P T own i K ρ) [] σ0 H) : XYield P i rs H K := by
  rw [lget_eq] at hl
  refine ⟨(List.getElem?_eq_some_iff.1 hl).1, fun E h β w b vs s hr hβ => ?_⟩
  have hβ := hβ _ hl rfl
  obtain ⟨b', dfr, tmps, h1, h2, h3, h4⟩ := s.blk _ _ hl
  rw [hβ] at h1; cases h1
  obtain ⟨hlen, F⟩ := xPuts_fits (tmps := tmps) hp hr (fun t ht => by rw [h3]; exact hb t ht) (fun t r e => by
    have : ∀ (l : List (Nat × AV)), stX l t = some r → (t, r) ∈ l := by
      intro l; induction l with
      | nil => intro h; cases h
      | cons p l ih =>
        obtain ⟨u, x⟩ := p
        intro h; simp only [stX, updX_eq, upd] at h
        split at h
        · rename_i e; cases h; subst e; exact List.mem_cons_self
        · exact List.mem_cons_of_mem _ (ih h)
    exact h4 t r (this tm e))
  have hzip : ((ps.zip vs.toArray).foldl (fun (tmps : Array Value) (x : Nat × Value) => tmps.setIfInBounds x.1 x.2) tmps) = ((ps.toList.zip vs).foldl (fun (tmps : Array Value) (x : Nat × Value) => tmps.setIfInBounds x.1 x.2) tmps) := by
    rw [← Array.foldl_toList]; simp
  refine ⟨f, _, assign, body, run_yield h2 (by simp [hlen]), ?_⟩
  refine roundIn_of_wpIn trivial ?_
  have hF : (FW none).inRound b = FW (some b) := rfl
  rw [hF]
  have hsz : ∀ (l : List (Nat × Value)) (tmps : Array Value), (l.foldl (fun (tmps : Array Value) (x : Nat × Value) => tmps.setIfInBounds x.1 x.2) tmps).size = tmps.size := by
    intro l; induction l with
    | nil => intro _; rfl
    | cons p l ih => intro tmps; simp [ih]
  have st0 : Stands P ⟨E.b, E.fr, h⟩ N h β [] σ0 H { tmps := (ps.zip vs.toArray).foldl (fun (tmps : Array Value) (x : Nat × Value) => tmps.setIfInBounds x.1 x.2) tmps, defers := [] } w :=
    ⟨s.en h, fun t r e => by rw [hzip]; exact F t r e, by rw [hzip]; exact (hsz _ _).trans h3, ⟨fun _ _ e => e, .nil⟩⟩
  refine wpIn_mono (XRun.sound ok (x (some b)) ⟨E.b, E.fr, h⟩ h β _ w st0) ?_
  rintro e a1 w1 ⟨D1, σ1, H1, h1', β1, q, X1, s1⟩
  have hq : e = .normal ∧ ∃ pend' f' tm' ps' x' y' n', lget H1 i = some (.lp .ready pend' f' tm' ps' x' y' n') ∧ hset H1 i (.lp .busy pend' f' tm' ps' x' y' n') fun H' => XRun P T n' (some b) own y' (xRound i K) D1 σ1 H' := by
    unfold xBegin at q; split at q
    · rename_i hh; exact ⟨rfl, _, _, _, _, _, _, _, hh, q⟩
    · exact q.elim
  obtain ⟨rfl, pend', f', tm', ps', x', y', n', g1, g2⟩ := hq
  rw [lget_eq] at g1
  have hβ1 : β1 i = β i ∧ body = y' ∧ N = n' := by
    rcases X1.to _ _ _ hl g1 with hd | ⟨_, _, he, hb1⟩
    · cases hd
    · cases he; exact ⟨hb1, rfl, rfl⟩
  obtain ⟨hβ1, rfl, rfl⟩ := hβ1
  rw [hβ] at hβ1
  obtain ⟨b', dfr', tmps', k1, k2, k3, k4⟩ := s1.sr.blk _ _ g1
  rw [hβ1] at k1; cases k1
  obtain ⟨hlt, g3⟩ := hset_spec g2
  refine ⟨_, run_beginRound k2 rfl, ?_⟩
  have hbo : blkOf β1 H1 i = some b := by simp only [blkOf, g1, hβ1]; rfl
  have hbs : b < w1.heap.size := (Array.getElem?_eq_some_iff.1 k2).1
  obtain ⟨s2, X2⟩ := s1.sr.modify (β' := β1) (w' := w1.putObj b (.loop { state := .busy, pending := pend', fn := f', tmps := tmps', params := ps', assign := x', body := body, defers := dfr' })) (x' := .lp .busy pend' f' tm' ps' x' body N) g1 (fun _ _ => rfl) (.inr ⟨_, _, rfl, rfl⟩) s1.sr.env
    (fun q _ hn => World.putObj_heap_other (fun e => hn (by rw [hbo, e]))) (fun b e => .inl (by rw [hbo]; rw [hβ1] at e; exact e)) (fun X => ⟨b, dfr', tmps', hβ1, World.putObj_heap_same hbs, k3, fun t r e => let ⟨v, p1, p2⟩ := k4 t r e; ⟨v, p1, X.rep p2⟩⟩)
  refine wpIn_mono (XRun.sound ok g3 ⟨E.b, E.fr, h⟩ _ _ _ _ ⟨s2, s1.fits.ext X2, s1.size, s1.df.ext X2⟩) ?_
  rintro e a3 w3 ⟨D3, σ3, H3, h3', β3, q3, X3, s3⟩
  unfold xRound at q3
  split at q3
  case h_2 => exact q3.elim
  rename_i st4 pend4 f4 tm4 ps4 x4 y4 n4 m1
  rw [lget_eq] at m1
  have hg2 : (H1.set i (.lp .busy pend' f' tm' ps' x' body N))[i]? = some (.lp .busy pend' f' tm' ps' x' body N) := by simp [hlt]
  have hβ3 : β3 i = .pointer (some ⟨b, 0, none⟩) := by
    rcases X3.to _ _ _ hg2 m1 with hd | ⟨_, _, he, hb1⟩
    · cases hd
    · rw [hb1, hβ1]
  obtain ⟨b', dfr4, tmps4, o1, o2, o3, o4⟩ := s3.sr.blk _ _ m1
  rw [hβ3] at o1; cases o1
  have hbo3 : blkOf β3 H3 i = some b := by simp only [blkOf, m1, hβ3]; rfl
  have hbs3 : b < w3.heap.size := (Array.getElem?_eq_some_iff.1 o2).1
  have Xto := X1.trans (X2.trans X3)
  have fin : ∀ (jump : Option Code) (st' : LoopState), st' = (if jump.isNone then .ready else .done) → (hset H3 i (.lp st' jump f4 tm4 ps4 x4 y4 n4) fun H' => K (.bool jump.isNone) H') →
      ∃ v w', (Instr.endRound b jump).run P w3 = .ok v w' ∧ Ends P E h β H K (.returned v) w' := by
    intro jump st' hst hk
    subst hst
    obtain ⟨_, hk2⟩ := hset_spec hk
    obtain ⟨s4, X4⟩ := s3.sr.modify (β' := β3) (w' := w3.putObj b (.loop { state := (if jump.isNone then .ready else .done), pending := jump, fn := f4, tmps := tmps4, params := ps4, assign := x4, body := y4, defers := dfr4 })) (x' := .lp (if jump.isNone then .ready else .done) jump f4 tm4 ps4 x4 y4 n4) m1 (fun _ _ => rfl) (.inr ⟨_, _, rfl, rfl⟩) s3.sr.env
      (fun q _ hn => World.putObj_heap_other (fun e => hn (by rw [hbo3, e]))) (fun b e => .inl (by rw [hbo3]; rw [hβ3] at e; exact e)) (fun X => ⟨b, dfr4, tmps4, hβ3, World.putObj_heap_same hbs3, o3, fun t r e => let ⟨v, p1, p2⟩ := o4 t r e; ⟨v, p1, X.rep p2⟩⟩)
    refine ⟨_, _, run_endRound jump o2, .bool jump.isNone, _, _, _, _, rfl, hk2, Xto.trans X4, ?_, .bool _⟩
    exact s4.unen
  cases e with
  | normal => exact fin none .ready rfl q3
  | ret => exact fin (some .ret) .done rfl q3
  | exit id => exact fin (some (.exit id)) .done rfl q3
  | _ => exact q3.elim
end
end GA
