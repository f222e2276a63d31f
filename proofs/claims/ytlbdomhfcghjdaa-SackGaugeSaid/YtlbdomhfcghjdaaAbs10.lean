/- The abstract weakest precondition of an operation. -/
import Derived.Test.YtlbdomhfcghjdaaAbsE
namespace GA
open Go Go.RowKit

/-- No fence; within a round of a range over a function, or not. -/
abbrev FW (ρ : Option Nat) : Fence := { fn := fun _ => True, depth := none, alive := false, round := ρ }

def enters (P : Program) (f : FuncId) : Prop := ∃ fn, P.funcs[f]? = some fn ∧ (fn.name == "runtime.NumGoroutine") = false ∧ fn.body.isSome = true

/-- How a call ends. -/
def Ends (P : Program) (E : Env) (h : Nat → Option Obj) (β : Nat → Value) (H : List Blk) (k : AV → List Blk → Prop) (e : Ending) (w' : World) : Prop :=
  ∃ r H' h' β' v, e = .returned v ∧ k r H' ∧ Ext h β H h' β' H' ∧ SR P E h' β' H' w' ∧ Rep P h' β' H' r v

/-- A call of a function on abstract values: whatever stands for them, it returns, and what it leaves meets k. -/
def ACall (P : Program) (f : FuncId) (rs : List AV) (H : List Blk) (k : AV → List Blk → Prop) : Prop :=
  enters P f ∧ ∀ E h β w vs, SR P E h β H w → RepL P h β H rs vs → CallsIn (FW none) 0 P f vs.toArray w (Ends P E h β H k)

/-- A call of yield. -/
def AYield (P : Program) (i : Nat) (rs : List AV) (H : List Blk) (k : AV → List Blk → Prop) : Prop :=
  i < H.length ∧ ∀ E h β w b vs, SR P E h β H w → RepL P h β H rs vs → (∀ x, H[i]? = some x → x.isRec = true → β i = .pointer (some ⟨b, 0, none⟩)) →
    ∃ f tmps assign body, (Instr.yield b vs.toArray).run P w = .ok (.round b f tmps assign body) w ∧ RoundIn (FW none) 0 P b f tmps assign body w (Ends P E h β H k)

theorem Ends.mono {P : Program} {E : Env} {h : Nat → Option Obj} {β : Nat → Value} {H : List Blk} {k k' : AV → List Blk → Prop} (hk : ∀ r H', k r H' → k' r H') {e : Ending} {w' : World} (x : Ends P E h β H k e w') : Ends P E h β H k' e w' :=
  let ⟨r, H', h', β', v, h1, h2, rest⟩ := x
  ⟨r, H', h', β', v, h1, hk _ _ h2, rest⟩
theorem ACall.mono {P : Program} {f : FuncId} {rs : List AV} {H : List Blk} {k k' : AV → List Blk → Prop} (x : ACall P f rs H k) (hk : ∀ r H', k r H' → k' r H') : ACall P f rs H k' :=
  ⟨x.1, fun E h β w vs s r => (x.2 E h β w vs s r).mono fun _ _ => Ends.mono hk⟩

def opBuiltin (P : Program) (b : Builtin) (ts : List TypeId) (rs : List AV) (H : List Blk) (k : AV → List Blk → Prop) : Prop :=
  match b, ts, rs with
  | .len, [t], [x] => opLen P t H x (k · H)
  | .append, [t, t'], [s, x] => t = t' ∧ opAppend P t s x H k
  | .min, _, [x, y] => opMin x y (k · H)
  | .max, _, [x, y] => opMax x y (k · H)
  | _, _, _ => False

def opCall (P : Program) (σ : St) (H : List Blk) (c : Call) (k : AV → List Blk → Prop) : Prop :=
  match c.callee with
  | .value f => bnd (ev σ f) fun fv => bnd (evL σ c.args.toList) fun rs =>
    match fv with
    | .fn g caps => ACall P g (rs ++ caps) H k
    | .yld i => AYield P i rs H k
    | _ => False
  | .builtin b => bnd (evL σ c.args.toList) fun rs => opBuiltin P b c.argTypes.toList rs H k
  | _ => False

def ownD (own : List Nat) : Option Nat → Bool
  | some d => own.contains d
  | none => false

def AOp (P : Program) (own : List Nat) (dst : Option Nat) (σ : St) (H : List Blk) (k : AV → List Blk → Prop) : Op → Prop
  | .move x | .assign x => bnd (ev σ x) fun r => k r H
  | .pick c a b => bnd (ev σ c) fun r => match r with | .bool q => Br q (bnd (ev σ a) fun r => k r H) (bnd (ev σ b) fun r => k r H) | _ => False
  | .alloc t => bnd (zeroA P t) fun z => opBoxO z H k
  | .box _ x => bnd (ev σ x) fun r => if ownD own dst = true then opBoxO r H k else opBoxI r H k
  | .build t ps => bnd (evP σ ps.toList) fun rs => opBuild P t rs (k · H)
  | .buildSlice t n ps => bnd (evP σ ps.toList) fun rs => opBuildSlice P (ownD own dst) t n rs H k
  | .load t x => bnd (ev σ x) fun p => opLoad P t H p (k · H)
  | .store t x v => bnd (ev σ x) fun p => bnd (ev σ v) fun r => opStore P t H p r k
  | .nilCheck x => bnd (ev σ x) fun r => opNilCheck r (k · H)
  | .binOp op t x y _ => bnd (ev σ x) fun u => bnd (ev σ y) fun v => opBinE P t op u v (k · H)
  | .unOp op _ x => bnd (ev σ x) fun r => opUn op r (k · H)
  | .convert s d x => bnd (ev σ x) fun r => opConv P s d r (k · H)
  | .makeFunc fn first caps => match fn with
    | .func f => first.size = 0 ∧ bnd (evL σ caps.toList) fun cs => k (.fn f cs) H
    | _ => False
  | .makeSlice t l c => bnd (ev σ l) fun l => bnd (ev σ c) fun c => opMakeSlice P t l c H k
  | .slice t x lo hi mx => bnd (ev σ x) fun r => bnd (evO σ lo) fun lo => bnd (evO σ hi) fun hi => bnd (evO σ mx) fun mx => opSlice P t r lo hi mx (k · H)
  | .fieldAddr t x f => bnd (ev σ x) fun r => opFieldAddr P t r f (k · H)
  | .field t x f => bnd (ev σ x) fun r => opField P t r f (k · H)
  | .indexAddr t x i => bnd (ev σ x) fun r => bnd (ev σ i) fun i => opIndexAddr P t H r i (k · H)
  | .index t x i => bnd (ev σ x) fun r => bnd (ev σ i) fun i => opIndex P t r i (k · H)
  | .extract x i => bnd (ev σ x) fun r => opExt r i (k · H)
  | .call c => opCall P σ H c k
  | .makeMap _ r => match r with | none => opMakeMap H k | some _ => False
  | .lookup t x i ok => bnd (ev σ x) fun r => bnd (ev σ i) fun i => opLookup P t H r i ok (k · H)
  | .mapUpdate t m i v | .insert t m i v => bnd (ev σ m) fun r => bnd (ev σ i) fun i => bnd (ev σ v) fun v => opMapUpdate P t H r i v k
  | _ => False

section
variable {P : Program} {E : Env} {h : Nat → Option Obj} {β : Nat → Value} {H : List Blk} {w : World} {σ : St} {a : Act} {ρ : Option Nat}

theorem wpIn_of_run {o : Oper} (hd : ∀ c, o.op ≠ .defer c) {next : Act → World → Prop} {Q : Exit → Act → World → Prop} (hu : o.uponIn (FW ρ) 0 P a next Q ((execOp a.eval o).run P w)) : o.wpIn (FW ρ) 0 P a w next Q :=
  ⟨fun _ _ => trivial, by rw [Oper.semAt_eq _ _ _ hd]; exact hu⟩

def NextOk (P : Program) (E : Env) (h : Nat → Option Obj) (β : Nat → Value) (H : List Blk) (a : Act) (o : Oper) (k : AV → List Blk → Prop) (next : Act → World → Prop) : Prop :=
  ∀ r H' h' β' w' v, k r H' → Ext h β H h' β' H' → SR P E h' β' H' w' → Rep P h' β' H' r v → next (a.put o.dst v) w'

theorem wpIn_value {o : Oper} {m : Sem Value} (he : execOp a.eval o = (do pure (Next.value (← m)))) (hd : ∀ c, o.op ≠ .defer c) {k : AV → List Blk → Prop} {next : Act → World → Prop} {Q : Exit → Act → World → Prop}
    (hn : NextOk P E h β H a o k next) (y : Yields P E h β H m w k) : o.wpIn (FW ρ) 0 P a w next Q := by
  obtain ⟨v, w', r, H', h', β', h1, h2, h3, h4, h5⟩ := y
  refine wpIn_of_run hd ?_
  rw [he, Sem.run_bind, h1]
  exact hn r H' h' β' w' v h2 h3 h4 h5

theorem wpIn_value' {o : Oper} {m : Sem Value} (he : execOp a.eval o = (do pure (Next.value (← m)))) (hd : ∀ c, o.op ≠ .defer c) {k : AV → List Blk → Prop} {next : Act → World → Prop} {Q : Exit → Act → World → Prop}
    (hn : NextOk P E h β H a o k next) (y : Yields P E h β H m w (fun r H' => H' = H ∧ k r H)) : o.wpIn (FW ρ) 0 P a w next Q :=
  wpIn_value he hd hn (by obtain ⟨v, w', r, H', h', β', h1, ⟨rfl, h2⟩, h3⟩ := y; exact ⟨v, w', r, _, h', β', h1, h2, h3⟩)

theorem wpIn_pure {o : Oper} {v : Value} (he : execOp a.eval o = pure (Next.value v)) (hd : ∀ c, o.op ≠ .defer c) {k : AV → List Blk → Prop} {next : Act → World → Prop} {Q : Exit → Act → World → Prop}
    (hn : NextOk P E h β H a o k next) (s : SR P E h β H w) {r : AV} (hr : Rep P h β H r v) (hk : k r H) : o.wpIn (FW ρ) 0 P a w next Q := by
  refine wpIn_of_run hd ?_
  rw [he]
  exact hn r H h β w v hk (Ext.refl _ _ _) s hr

theorem run_callFunc {f : FuncId} (he : enters P f) (args : Array Value) : (callFunc f args).run P w = .ok (.enter f args) w := by
  obtain ⟨fn, h1, h2, h3⟩ := he
  have h2' : ¬ fn.name = "runtime.NumGoroutine" := by simpa using h2
  have h3' : ¬ fn.body = none := by intro e; rw [e] at h3; cases h3
  simp [callFunc, h1, h2', h3']

theorem opCall_sound {o : Oper} {c : Call} (ho : o.op = .call c) {k : AV → List Blk → Prop} (hk : opCall P σ H c k) (s : SR P E h β H w) (F : Fits P h β H σ a) {next : Act → World → Prop} {Q : Exit → Act → World → Prop}
    (hn : NextOk P E h β H a o k next) : o.wpIn (FW ρ) 0 P a w next Q := by
  have hd : ∀ c, o.op ≠ .defer c := fun c e => by rw [ho] at e; cases e
  refine wpIn_of_run hd ?_
  obtain ⟨callee, args, argTypes⟩ := c
  have hex : execOp a.eval o = (do let d ← resolve a.eval ⟨callee, args, argTypes⟩ o.type; invoke d.target d.args) := by unfold execOp; rw [ho]
  rw [hex]
  cases callee with
  | value f =>
    simp only [opCall] at hk
    obtain ⟨fv, h1, hk1⟩ := bnd_elim hk
    obtain ⟨rs, h2, hk2⟩ := bnd_elim hk1
    have hf := F.ev h1
    have hrs := F.evL h2
    split at hk2
    · rename_i g caps
      generalize hv : a.eval f = fval at hf
      cases hf with
      | @fn _ _ vs us hs hc hr =>
        have hcaps : RepL P h β H caps vs.toList := ⟨by simpa using hs, fun j x e => ⟨us j, by simpa using hc j x e, hr j x e⟩⟩
        obtain ⟨hent, hcall⟩ := hk2
        have hc2 := hcall E h β w _ s (hrs.append hcaps)
        have hrun : (do let d ← resolve a.eval ⟨.value f, args, argTypes⟩ o.type; invoke d.target d.args : Sem Next).run P w = .ok (.enter g (args.map a.eval ++ vs)) w := by
          simp [resolve, hv, Deferred.ofValue, invoke, run_callFunc hent]
        rw [hrun]
        have harg : (args.map a.eval ++ vs) = (args.toList.map a.eval ++ vs.toList).toArray := by apply Array.ext'; simp
        rw [harg]
        exact ⟨fun h => by simp at h, (show CallsIn (FW ρ) (0 - 1) P g _ w _ from hc2.mono fun e w' ⟨r, H', h', β', v, e1, e2, e3, e4, e5⟩ => by subst e1; exact hn r H' h' β' w' v e2 e3 e4 e5)⟩
    · rename_i i
      generalize hv : a.eval f = fval at hf
      cases hf with
      | @yld _ b hi hb =>
        obtain ⟨_, hy⟩ := hk2
        obtain ⟨f', tmps, assign, body, hrun', hround⟩ := hy E h β w b _ s hrs hb
        have hrun : (do let d ← resolve a.eval ⟨.value f, args, argTypes⟩ o.type; invoke d.target d.args : Sem Next).run P w = .ok (.round b f' tmps assign body) w := by
          have harg : (#[] ++ args.map a.eval) = (args.toList.map a.eval).toArray := by apply Array.ext'; simp
          simp only [resolve, hv, Deferred.ofValue, invoke, Sem.run_bind, Sem.run_pure, Result.andThen_ok, harg, hrun']
        rw [hrun]
        exact ⟨fun h => by simp at h, (show RoundIn (FW ρ) (0 - 1) P b f' tmps assign body w _ from hround.mono fun e w' ⟨r, H', h', β', v, e1, e2, e3, e4, e5⟩ => by subst e1; exact hn r H' h' β' w' v e2 e3 e4 e5)⟩
    · exact hk2.elim
  | builtin b =>
    simp only [opCall] at hk
    obtain ⟨rs, h2, hk2⟩ := bnd_elim hk
    have hrs := F.evL h2
    have hres : ∀ (m : Sem Value), (∀ cs, builtin b argTypes o.type cs (args.map a.eval) = (do pure (Next.value (← m)))) →
        (do let d ← resolve a.eval ⟨.builtin b, args, argTypes⟩ o.type; invoke d.target d.args : Sem Next).run P w = (do pure (Next.value (← m)) : Sem Next).run P w := by
      intro m hm
      simp only [resolve, invoke, Sem.run_bind, Sem.run_pure, Result.andThen_ok]
      rw [hm _, Sem.run_bind]; rfl
    have fin : ∀ (m : Sem Value), (∀ cs, builtin b argTypes o.type cs (args.map a.eval) = (do pure (Next.value (← m)))) → Yields P E h β H m w k →
        o.uponIn (FW ρ) 0 P a next Q ((do let d ← resolve a.eval ⟨.builtin b, args, argTypes⟩ o.type; invoke d.target d.args : Sem Next).run P w) := by
      intro m hm y
      rw [hres m hm]
      obtain ⟨v, w', r, H', h', β', e1, e2, e3, e4, e5⟩ := y
      rw [Sem.run_bind, e1]
      exact hn r H' h' β' w' v e2 e3 e4 e5
    have fin' : ∀ (m : Sem Value), (∀ cs, builtin b argTypes o.type cs (args.map a.eval) = (do pure (Next.value (← m)))) → Yields P E h β H m w (fun r H' => H' = H ∧ k r H) →
        o.uponIn (FW ρ) 0 P a next Q ((do let d ← resolve a.eval ⟨.builtin b, args, argTypes⟩ o.type; invoke d.target d.args : Sem Next).run P w) := by
      intro m hm y
      refine fin m hm ?_
      obtain ⟨v, w', r, H', h', β', h1, ⟨rfl, h2⟩, h3⟩ := y; exact ⟨v, w', r, _, h', β', h1, h2, h3⟩
    have hargs : ∀ vs, args.toList.map a.eval = vs → args.map a.eval = vs.toArray := fun vs e => by rw [← e]; apply Array.ext'; simp
    have one : ∀ {x}, rs = [x] → ∃ v, args.map a.eval = #[v] ∧ Rep P h β H x v := by
      rintro x rfl
      obtain ⟨l1, l2⟩ := hrs
      obtain ⟨v, g1, g2⟩ := l2 0 x rfl
      match hm : args.toList.map a.eval, l1, g1 with
      | [v'], _, g1 => simp at g1; subst g1; exact ⟨v', hargs _ hm, g2⟩
    have two : ∀ {x y}, rs = [x, y] → ∃ v u, args.map a.eval = #[v, u] ∧ Rep P h β H x v ∧ Rep P h β H y u := by
      rintro x y rfl
      obtain ⟨l1, l2⟩ := hrs
      obtain ⟨v, g1, g2⟩ := l2 0 x rfl
      obtain ⟨u, g3, g4⟩ := l2 1 y rfl
      match hm : args.toList.map a.eval, l1, g1, g3 with
      | [v', u'], _, g1, g3 => simp at g1 g3; subst g1; subst g3; exact ⟨v', u', hargs _ hm, g2, g4⟩
    unfold opBuiltin at hk2
    split at hk2
    · rename_i t x hts
      obtain ⟨v, h3, h4⟩ := one rfl
      refine fin' (Builtin.len_ argTypes o.type (args.map a.eval)) (fun _ => rfl) ?_
      rw [h3, show argTypes = #[t] from by apply Array.ext'; simpa using hts]
      exact opLen_sound s h4 hk2
    · rename_i t t' x y hts
      obtain ⟨v, u, h3, h4, h5⟩ := two rfl
      obtain ⟨rfl, hk3⟩ := hk2
      refine fin (Builtin.append_ argTypes o.type (args.map a.eval)) (fun _ => rfl) ?_
      rw [h3, show argTypes = #[t, t] from by apply Array.ext'; simpa using hts]
      exact opAppend_sound s h4 h5 hk3
    · obtain ⟨v, u, h3, h4, h5⟩ := two rfl
      refine fin' (Builtin.min_ argTypes o.type (args.map a.eval)) (fun _ => rfl) ?_
      rw [h3]
      exact opMin_sound s h4 h5 hk2
    · obtain ⟨v, u, h3, h4, h5⟩ := two rfl
      refine fin' (Builtin.max_ argTypes o.type (args.map a.eval)) (fun _ => rfl) ?_
      rw [h3]
      exact opMax_sound s h4 h5 hk2
    · exact hk2.elim
  | invoke r m => exact hk.elim
end
end GA
