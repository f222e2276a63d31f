/- Loops that leave memory behind anywhere; functions that change the memory that they are lent. -/
import Derived.Test.YtlbdomhfcghjdaaAbs26
namespace GA
open Go Go.RowKit
set_option linter.unusedVariables false

section
variable {P : Program} {T : Tab} {N : Nat} {ρ : Option Nat} {own : List Nat} {D : List Nat} {σ : St} {H : List Blk} {Q : Post} {E : Env} {h : Nat → Option Obj} {β : Nat → Value} {w : World}

/-- The state at the end of a round, under other numbers. -/
structure RenS (f : Nat → Nat) (base : Nat) (H1 : List Blk) (σ1 : St) (H : List Blk) (σ : St) : Prop where
  inj : ∀ i j, i < H1.length → j < H1.length → f i = f j → i = j
  fix : ∀ i, i < base → f i = i
  len : base ≤ H1.length
  hm : ∀ (i : Nat) x1, H1[i]? = some x1 → H[f i]? = some (x1.ren f)
  lowb : ∀ (i : Nat) x1, i < base → H1[i]? = some x1 → x1.ren f = x1
  low : ∀ x ∈ H1, x.low H1.length = true
  st : ∀ t r, σ1 t = some r → σ t = some (r.ren f) ∧ r.low H1.length = true

theorem AWp.loopR {c : Code} {G : Type} (st : G → St) (hp : G → List Blk) (μ : G → Nat) (g0 : G) (hσ : ∀ t r, st g0 t = some r → σ t = some r) (hH : hp g0 = H) (hD : D = [])
    (round : ∀ g, AWp P N ρ c (thenQ (fun D' σ' H' => D' = D ∧ ∃ g' f, μ g' < μ g ∧ RenS f H.length (hp g') (st g') H' σ') Q) D (st g) (hp g)) : AWp P N ρ (.loop c) Q D σ H := by
  intro E h β a w s
  subst hH; subst hD
  let I : G → Act → World → Prop := fun g a w => ∃ h' β', Ext h β (hp g0) h' β' (hp g) ∧ Stands P E N h' β' [] (st g) (hp g) a w
  have least : ∀ a w, (∃ g, I g a w) → ∃ n, (∃ g, I g a w ∧ μ g = n) ∧ ∀ m, m < n → ¬ ∃ g, I g a w ∧ μ g = m :=
    fun a w ⟨g, hg⟩ => exists_least ⟨μ g, g, hg, rfl⟩
  classical
  let M : Act → World → Nat := fun a w => if e : ∃ g, I g a w then Classical.choose (least a w e) else 0
  have hM : ∀ a w (e : ∃ g, I g a w), (∃ g, I g a w ∧ μ g = M a w) ∧ ∀ g, I g a w → M a w ≤ μ g := by
    intro a w e
    have hc := Classical.choose_spec (least a w e)
    have hm : M a w = Classical.choose (least a w e) := by simp only [M, dif_pos e]
    rw [hm]
    refine ⟨hc.1, fun g hg => ?_⟩
    rcases Nat.lt_or_ge (μ g) (Classical.choose (least a w e)) with hlt | hge
    · exact absurd ⟨g, hg, rfl⟩ (hc.2 _ hlt)
    · exact hge
  refine wpIn_loop (fun a w => ∃ g, I g a w) M ⟨g0, h, β, Ext.refl _ _ _, s.sr, fun t r e => s.fits t r (hσ t r e), s.size, s.df⟩ ?_
  intro a' w' hI
  obtain ⟨⟨g, hg, hmu⟩, _⟩ := hM a' w' hI
  obtain ⟨h', β', X, s'⟩ := hg
  refine wpIn_mono (round g E h' β' a' w' s') ?_
  rintro e a'' w'' ⟨D'', σ'', H'', h'', β'', q, X', s''⟩
  cases e with
  | normal =>
    obtain ⟨rfl, g', f, hlt, r⟩ := q
    have R : Ren f (fun i => β'' (f i)) (hp g') β'' H'' := ⟨r.hm, fun _ _ => rfl⟩
    have hI' : I g' a'' w'' := by
      refine ⟨h'', fun i => β'' (f i), ⟨(X.trans X').imm, r.len, fun i x x' e e' => ?_⟩, R.sr s''.sr r.inj r.low, fun t r0 e => ?_, s''.size, s''.df.any⟩
      · have hi := (List.getElem?_eq_some_iff.1 e).1
        have h1 := r.hm i x' e'
        rw [r.fix i hi, r.lowb i x' hi e'] at h1
        have h2 := (X.trans X').to i x x' e h1
        cases x with
        | dead => exact h2
        | free => trivial
        | _ => simpa only [Blk.to, r.fix i hi] using h2
      · obtain ⟨h1, h2⟩ := r.st t r0 e
        obtain ⟨v, h3, h4⟩ := s''.fits t _ h1
        exact ⟨v, h3, R.unrep h4 rfl h2⟩
    refine ⟨⟨g', hI'⟩, ?_⟩
    have := (hM a'' w'' ⟨g', hI'⟩).2 g' hI'
    omega
  | _ => exact ⟨D'', σ'', H'', h'', β'', q, X.trans X', s''⟩

def rnF (l : List Nat) (i : Nat) : Nat := match lget l i with | some j => j | none => i
/-- A block, or a value, under its new number: it speaks of old blocks alone, or is renamed in full. -/
def XBlkR (f : Nat → Nat) (base : Nat) (x : Blk) (o : Option Blk) : Prop := (o = some x ∧ x.low base = true) ∨ o = some (x.ren f)
def XValR (f : Nat → Nat) (base : Nat) (x : AV) (o : Option AV) : Prop := (o = some x ∧ x.low base = true) ∨ o = some (x.ren f)
def BlksR (f : Nat → Nat) (base : Nat) (H : List Blk) : Nat → List Blk → Prop
  | _, [] => True
  | i, x :: l => XBlkR f base x (lget H (f i)) ∧ BlksR f base H (i + 1) l
def SubR (f : Nat → Nat) (base : Nat) (n : Nat) (σ : St) : List (Nat × AV) → Prop
  | [] => True
  | (t, r) :: l => (XValR f base r (σ t) ∧ r.low n = true) ∧ SubR f base n σ l
structure XAgainR {G : Type} (I : G → Prop) (L : G → List (Nat × AV)) (hp : G → List Blk) (μ : G → Nat) (base : Nat) (g : G) (D' : List Nat) (σ' : St) (H' : List Blk) : Prop where
  d : D' = []
  o : ∃ g' l, I g' ∧ μ g' < μ g ∧ (l.length = (hp g').length ∧ l.Nodup ∧ (∀ i, i < base → lget l i = some i) ∧ base ≤ l.length) ∧ (∀ x ∈ hp g', x.low (hp g').length = true) ∧ (∀ (i : Nat) x, i < base → lget (hp g') i = some x → x.low base = true) ∧
    BlksR (rnF l) base H' 0 (hp g') ∧ SubR (rnF l) base (hp g').length σ' (L g')

theorem mapS_low {f : Nat → Nat} {n : Nat} {α : Type} (h : ∀ i, i < n → f i = i) {es : List (α × AV)} (hl : lowL n (es.map (·.2)) = true) : (es.map fun p => (p.1, p.2.ren f)) = es := by
  have : ∀ p ∈ es, (fun p : α × AV => (p.1, p.2.ren f)) p = id p := fun p hp => by
    have := lowL_iff.1 hl p.2 (List.mem_map.2 ⟨p, hp, rfl⟩)
    simp only [id, AV.ren_low h this]
  rw [List.map_congr_left this, List.map_id]
theorem Blk.ren_low {f : Nat → Nat} {n : Nat} (h : ∀ i, i < n → f i = i) {x : Blk} (hl : x.low n = true) : x.ren f = x := by
  cases x with
  | cells cs => simp only [Blk.ren]; rw [renL_low h hl]
  | grow t nl els => simp only [Blk.ren]; rw [renL_low h hl]
  | map es => simp only [Blk.ren]; rw [mapS_low h hl]
  | lp st pend f tm ps x y n => simp only [Blk.ren]; rw [mapS_low h hl]
  | _ => rfl
theorem BlksR.get {f : Nat → Nat} {base : Nat} {H : List Blk} : ∀ {l : List Blk} {i : Nat}, BlksR f base H i l → ∀ (j : Nat) x, l[j]? = some x → XBlkR f base x (lget H (f (i + j)))
  | [], _, _, j, x, e => by simp at e
  | y :: l, i, h, 0, x, e => by simp at e; subst e; exact h.1
  | y :: l, i, h, j + 1, x, e => by
    have := BlksR.get h.2 j x (by simpa using e)
    rwa [Nat.add_right_comm] at this
theorem SubR.get {f : Nat → Nat} {base n : Nat} {σ : St} : ∀ {l : List (Nat × AV)}, SubR f base n σ l → ∀ t r, stX l t = some r → XValR f base r (σ t) ∧ r.low n = true
  | [], _, t, r, e => by cases e
  | (u, x) :: l, h, t, r, e => by
    simp only [stX, updX_eq, upd] at e
    split at e
    · rename_i hh; cases e; subst hh; exact h.1
    · exact SubR.get h.2 t r e
theorem Walk.loopR {c : Code} {G : Type} (ok : TabOk P T) (own : List Nat) (I : G → Prop) (L : G → List (Nat × AV)) (hp : G → List Blk) (μ : G → Nat) (g0 : G) (base : Nat) (h0 : I g0) (hH : hp g0 = H) (hb : base = H.length) (hs : SubX (L g0) σ)
    (round : ∀ g, I g → XRun P T N ρ own c (thenQ (XAgainR I L hp μ base g) Q) [] (stX (L g)) (hp g)) : Walk P N ρ (.loop c) Q [] σ H := by
  constructor
  refine AWp.loopR (G := {g : G // I g}) (fun g => stX (L g.1)) (fun g => hp g.1) (fun g => μ g.1) ⟨g0, h0⟩ (stX_sub hs) hH rfl fun g => ?_
  refine (XRun.sound ok (round g.1 g.2)).mono fun e D' σ' H' q => ?_
  cases e with
  | normal =>
    obtain ⟨h1, g', l, h2, h3, ⟨h4, h5, h6, h6'⟩, h7, h8, h9, h10⟩ := q
    have hfix : ∀ i, i < base → rnF l i = i := fun i hi => by unfold rnF; rw [h6 i hi]
    refine ⟨h1, ⟨g', h2⟩, rnF l, h3, ⟨fun i j hi hj e => ?_, by rw [← hb]; exact hfix, by rw [← hb, ← h4]; exact h6', fun i x e => ?_, fun i x hi e => ?_, h7, fun t r e => ?_⟩⟩
    · dsimp only at hi hj
      unfold rnF at e
      rw [lget_eq, lget_eq, List.getElem?_eq_getElem (by omega), List.getElem?_eq_getElem (by omega)] at e
      exact (List.getElem_inj h5).1 e
    · have := h9.get i x e
      rw [Nat.zero_add, lget_eq] at this
      rcases this with ⟨e1, e2⟩ | e1
      · rw [e1, Blk.ren_low hfix e2]
      · exact e1
    · rw [← hb] at hi
      exact Blk.ren_low hfix (h8 i x hi (by rw [lget_eq]; exact e))
    · obtain ⟨e0, e3⟩ := h10.get t r e
      refine ⟨?_, e3⟩
      rcases e0 with ⟨e1, e2⟩ | e1
      · rw [e1, AV.ren_low hfix e2]
      · exact e1
  | _ => exact q
theorem XAgainR.go {G : Type} {I : G → Prop} {L : G → List (Nat × AV)} {hp : G → List Blk} {μ : G → Nat} {base : Nat} {g : G} (g' : G) (l : List Nat) (h1 : I g') (h2 : μ g' < μ g) (h3 : l.length = (hp g').length ∧ l.Nodup ∧ (∀ i, i < base → lget l i = some i) ∧ base ≤ l.length)
    (h4 : ∀ x ∈ hp g', x.low (hp g').length = true) (h5 : ∀ (i : Nat) x, i < base → lget (hp g') i = some x → x.low base = true) (h6 : BlksR (rnF l) base H 0 (hp g')) (h7 : SubR (rnF l) base (hp g').length σ (L g')) : XAgainR I L hp μ base g [] σ H :=
  ⟨rfl, g', l, h1, h2, h3, h4, h5, h6, h7⟩

theorem opLoad_ex {t : TypeId} {p : AV} {k : AV → Prop} (x : opLoad P t H p k) : ∃ r, k r ∧ ∀ k' : AV → Prop, k' r → opLoad P t H p k' := by
  unfold opLoad at x
  obtain ⟨ti, h1, x⟩ := bnd_elim x
  obtain ⟨cs, h2, x⟩ := bnd_elim x
  split at x
  · rename_i e
    exact ⟨_, x.2, fun k' hk => by unfold opLoad; rw [h1, bnd_some, h2, bnd_some, if_pos e]; exact ⟨x.1, hk⟩⟩
  · rename_i e
    obtain ⟨c, h3, x⟩ := bnd_elim x
    exact ⟨c, x, fun k' hk => by unfold opLoad; rw [h1, bnd_some, h2, bnd_some, if_neg e, h3, bnd_some]; exact hk⟩
theorem resA_ex : ∀ {l : List ResultVar} {k : List AV → Prop}, resA P σ H l k → ∃ rs, k rs ∧ ∀ k' : List AV → Prop, k' rs → resA P σ H l k'
  | [], k, x => ⟨[], x, fun _ h => h⟩
  | .tmp t :: l, k, x => by
    obtain ⟨r, h1, x⟩ := bnd_elim x
    obtain ⟨rs, h2, h3⟩ := resA_ex x
    exact ⟨r :: rs, h2, fun k' h => by simp only [resA]; rw [h1, bnd_some]; exact h3 (fun rs => k' (r :: rs)) h⟩
  | .cell a t :: l, k, x => by
    obtain ⟨p, h1, x⟩ := bnd_elim x
    obtain ⟨r, x, h4⟩ := opLoad_ex x
    obtain ⟨rs, h2, h3⟩ := resA_ex x
    exact ⟨r :: rs, h2, fun k' h => by simp only [resA]; rw [h1, bnd_some]; exact h4 _ (h3 (fun rs => k' (r :: rs)) h)⟩
/-- The end of a function that changes the first blocks, which it was lent; the others it forgets. -/
structure XCut (n : Nat) (D : List Nat) (H : List Blk) (r : AV) (k : AV → List Blk → Prop) : Prop where
  o : ∃ H1 l, H = H1 ++ l ∧ H1.length = n ∧ (∀ x ∈ H1, x.low n = true) ∧ D.Nodup ∧ (∀ i ∈ D, n ≤ i ∧ H[i]? = some (.raw (.deferred (some [])))) ∧ r.low n = true ∧ k r H1
def XFk (T : Tab) (res : List ResultVar) (n : Nat) (k : AV → List Blk → Prop) : Post := fun e D σ H =>
  match e with
  | .normal | .ret => xRes T σ H res fun rs => XCut n D H (pack rs) k
  | _ => False
theorem ACall.bodyK {f : FuncId} {fn : Func} {c : Code} {rs : List AV} {res : List ResultVar} {k : AV → List Blk → Prop} (ok : TabOk P T) (own : List Nat) (hf : P.funcs[f]? = some fn) (hb : fn.body = some c) (hn : (fn.name == "runtime.NumGoroutine") = false)
    (hN : fn.ntmps = N) (hr : fn.results = res.toArray) (hl : rs.length ≤ N) (x : XRun P T N none own c (XFk T res H.length k) [] (argX rs) H) : ACall P f rs H k := by
  subst hN
  refine ACall.of_body hf hb hn hl ?_
  rw [hr, ← argX_eq]
  refine (XRun.sound ok x).mono fun e D σ H' q => ?_
  have go : xRes T σ H' res (fun rs => XCut H.length D H' (pack rs) k) → ∃ H1 l, H' = H1 ++ l ∧ H.length ≤ H1.length ∧ (∀ x ∈ H1, x ∈ H ∨ x.low H1.length = true) ∧ D.Nodup ∧
    (∀ i ∈ D, H1.length ≤ i ∧ H'[i]? = some (.raw (.deferred (some [])))) ∧ resA P σ H' res fun rs => (pack rs).low H1.length = true ∧ k (pack rs) H1 := by
    intro x
    obtain ⟨rs, ⟨H1, l, h1, h2, h3, h4, h5, h6, h7⟩, hx⟩ := resA_ex (xRes_sound ok x)
    exact ⟨H1, l, h1, by omega, fun x hx => .inr (by rw [h2]; exact h3 x hx), h4, by rw [h2]; exact h5, hx _ ⟨by rw [h2]; exact h6, h7⟩⟩
  cases e <;> first | exact ⟨.inl rfl, go q⟩ | exact ⟨.inr rfl, go q⟩ | exact q.elim
theorem XCut.mk' {n : Nat} {H : List Blk} {r : AV} {k : AV → List Blk → Prop} (H1 l : List Blk) (h1 : H1 ++ l = H) (h2 : H1.length = n) (h3 : ∀ x ∈ H1, x.low n = true) (h4 : r.low n = true) (h5 : k r H1) : XCut n [] H r k :=
  ⟨H1, l, h1.symm, h2, h3, by simp, by simp, h4, h5⟩
/-- What is known of a state's temporaries, as a list. -/
def snap (σ : St) : List Nat → List (Nat × AV)
  | [] => []
  | t :: l => match σ t with | some r => (t, r) :: snap σ l | none => snap σ l
end
end GA
