/- Loops whose rounds range over functions: marks are left behind. -/
import Derived.Test.YtlbdomhfcghjdaaAbs28
namespace GA
open Go Go.RowKit
set_option linter.unusedVariables false

section
variable {P : Program} {T : Tab} {N : Nat} {ρ : Option Nat} {own : List Nat} {D : List Nat} {σ : St} {H : List Blk} {Q : Post} {E : Env} {h : Nat → Option Obj} {β : Nat → Value} {w : World} {a : Act}

theorem DfL.mem {en : Nat → Option Obj} {D : List Nat} {ds : List Deferred} (d : DfL P h β H en D ds) {b : Nat} (hb : ({ target := .collected b, args := #[] } : Deferred) ∈ ds) : (∃ j ∈ D, Rep P h β H (.yld j) (.func (.yield b) #[] #[])) ∨ h b = some (.deferred (some [])) := by
  induction d with
  | nil => simp at hb
  | @own i b' D ds r t ih =>
    rcases List.mem_cons.1 hb with e | e
    · cases e; exact .inl ⟨i, List.mem_cons_self, r⟩
    · rcases ih e with ⟨j, h1, h2⟩ | h1
      · exact .inl ⟨j, List.mem_cons_of_mem _ h1, h2⟩
      · exact .inr h1
  | @lost b' D ds h1 he nd t ih =>
    rcases List.mem_cons.1 hb with e | e
    · cases e; exact .inr h1
    · exact ih e
theorem DfL.lose {en : Nat → Option Obj} {h' : Nat → Option Obj} {H' : List Blk} {i b : Nat} {D0 : List Nat} {ds : List Deferred} (s : SR P E h β H w) (X : Ext h β H h' β H') (hbo : blkOf β H i = some b) (hb' : h' b = some (.deferred (some []))) (he : en b = none) (hm : h b = none) (hi : H[i]? = some (.raw (.deferred (some []))))
    (d : DfL P h β H en D0 ds) : ∀ {D : List Nat}, D0 = i :: D → i ∉ D → (∀ j ∈ D, H[j]? = some (.raw (.deferred (some [])))) → DfL P h' β H' en D ds := by
  induction d with
  | nil => intro D e; cases e
  | @own i' b' D' ds r t ih =>
    intro D e hni hD
    cases e
    have hbb : b' = b := by
      cases r with
      | yld hlv hb =>
        have hbi := hb _ hi rfl
        have : blkOf β H i = some b' := by simp only [blkOf, hi, hbi]; rfl
        rw [hbo] at this; cases this; rfl
    subst hbb
    refine .lost hb' he (fun b2 hb2 => ?_) (t.ext X)
    rintro rfl
    rcases t.mem hb2 with ⟨j, h1, h2⟩ | h1
    · cases h2 with
      | yld hlv hb =>
        have hj := hD j h1
        have hbj := hb _ hj rfl
        have : blkOf β H j = some b2 := by simp only [blkOf, hj, hbj]; rfl
        exact hni (s.own _ _ _ hbo this ▸ h1)
    · rw [hm] at h1; cases h1
  | @lost b' D' ds h1 he' nd t ih =>
    intro D e hni hD
    exact .lost (X.imm _ _ h1) he' nd (ih e hni hD)
theorem Stands.lose : ∀ {D : List Nat} {h : Nat → Option Obj} {H : List Blk}, Stands P E N h β D σ H a w → D.Nodup → (∀ i ∈ D, H[i]? = some (.raw (.deferred (some [])))) →
    ∃ h' H', Stands P E N h' β [] σ H' a w ∧ Ext h β H h' β H' ∧ H'.length = H.length ∧ ∀ j, j ∉ D → H'[j]? = H[j]?
  | [], h, H, s, _, _ => ⟨h, H, s, Ext.refl _ _ _, rfl, fun _ _ => rfl⟩
  | i :: D, h, H, s, hnd, hD => by
    have hi := hD i List.mem_cons_self
    obtain ⟨b, hb1, hb2⟩ := s.sr.blk i _ hi
    have hbo : blkOf β H i = some b := by simp only [blkOf, hi, hb1]; rfl
    have hm := s.sr.fresh _ _ hbo
    have he : E.en b = none := by
      cases hx : E.en b with
      | none => rfl
      | some o => rw [s.df.en b o hx] at hm; cases hm
    obtain ⟨h1, s1, X1, hf⟩ := s.sr.freeze hi
    have hni := (List.nodup_cons.1 hnd).1
    have hDs : ∀ j ∈ D, H[j]? = some (.raw (.deferred (some []))) := fun j hj => hD j (List.mem_cons_of_mem _ hj)
    have d1 := DfL.lose s.sr X1 hbo (hf b _ hbo hb2) he hm hi s.df.l rfl hni hDs
    have s2 : Stands P E N h1 β D σ (H.set i .dead) a w := ⟨s1, s.fits.ext X1, s.size, ⟨(s.df.ext X1).en, d1⟩⟩
    obtain ⟨h', H', s3, X3, hl, ho⟩ := Stands.lose s2 (List.nodup_cons.1 hnd).2 (fun j hj => by rw [List.getElem?_set_ne (show i ≠ j from fun e => hni (by rw [e]; exact hj))]; exact hDs j hj)
    refine ⟨h', H', s3, X1.trans X3, by rw [hl]; simp, fun j hj => ?_⟩
    rw [ho j (fun h => hj (List.mem_cons_of_mem _ h)), List.getElem?_set_ne (show i ≠ j from fun e => hj (by rw [← e]; exact List.mem_cons_self))]

/-- A region with many ways, from what is known of a few temporaries alone. -/
theorem Walk.norm {id : Nat} {ops : Array Oper} (ok : TabOk P T) (own : List Nat) (L : List (Nat × AV)) (hs : SubX L σ) (x : XReg P T N own ops.toList ops.toList (stX L) H (Q .normal D)) : Walk P N ρ (.region id ops false) Q D σ H :=
  ⟨AWp.weaken (stX_sub hs) (AWp.regionX ok x)⟩
structure MarksOk (D : List Nat) (H : List Blk) (f : Nat → Nat) (n : Nat) : Prop where
  nd : D.Nodup
  raw : ∀ i ∈ D, H[i]? = some (.raw (.deferred (some [])))
  out : ∀ i, i < n → f i ∉ D

theorem AWp.loopM {c : Code} {G : Type} (st : G → St) (hp : G → List Blk) (μ : G → Nat) (g0 : G) (hσ : ∀ t r, st g0 t = some r → σ t = some r) (hH : hp g0 = H) (hD : D = [])
    (round : ∀ g, AWp P N ρ c (thenQ (fun D' σ' H' => ∃ g' f, μ g' < μ g ∧ MarksOk D' H' f (hp g').length ∧ RenS f H.length (hp g') (st g') H' σ') Q) D (st g) (hp g)) : AWp P N ρ (.loop c) Q D σ H := by
  intro E h β a w s
  subst hH; subst hD
  let I : G → Act → World → Prop := fun g a w => ∃ h' β', Ext h β (hp g0) h' β' (hp g) ∧ Stands P E N h' β' [] (st g) (hp g) a w
  have least : ∀ a w, (∃ g, I g a w) → ∃ n, (∃ g, I g a w ∧ μ g = n) ∧ ∀ m, m < n → ¬ ∃ g, I g a w ∧ μ g = m :=
    fun a w ⟨g, hg⟩ => exists_least ⟨μ g, g, hg, rfl⟩
  classical
  let M : Act → World → Nat := fun a w => if e : ∃ g, I g a w then Classical.choose (least a w e) else 0
  have hM : ∀ a w (e : ∃ g, I g a w), (∃ g, I g a w ∧ μ g = M a w) ∧ ∀ g, I g a w → M a w ≤ μ g := by
    intro a w e
    have hc := Classical.choose_spec (least a w e)
    have hm : M a w = Classical.choose (least a w e) := by simp only [M, dif_pos e]
    rw [hm]
    refine ⟨hc.1, fun g hg => ?_⟩
    rcases Nat.lt_or_ge (μ g) (Classical.choose (least a w e)) with hlt | hge
    · exact absurd ⟨g, hg, rfl⟩ (hc.2 _ hlt)
    · exact hge
  refine wpIn_loop (fun a w => ∃ g, I g a w) M ⟨g0, h, β, Ext.refl _ _ _, s.sr, fun t r e => s.fits t r (hσ t r e), s.size, s.df⟩ ?_
  intro a' w' hI
  obtain ⟨⟨g, hg, hmu⟩, _⟩ := hM a' w' hI
  obtain ⟨h', β', X, s'⟩ := hg
  refine wpIn_mono (round g E h' β' a' w' s') ?_
  rintro e a'' w'' ⟨D'', σ'', H0', h0', β'', q, X0', s0''⟩
  cases e with
  | normal =>
    obtain ⟨g', f, hlt, m, r0⟩ := q
    obtain ⟨h'', H'', s'', X1, hl, ho⟩ := s0''.lose m.nd m.raw
    have X' := X0'.trans X1
    have hm : ∀ (i : Nat) x1, (hp g')[i]? = some x1 → H''[f i]? = some (x1.ren f) := fun i x1 e => by
      rw [ho _ (m.out i (List.getElem?_eq_some_iff.1 e).1)]; exact r0.hm i x1 e
    have R : Ren f (fun i => β'' (f i)) (hp g') β'' H'' := ⟨hm, fun _ _ => rfl⟩
    have hI' : I g' a'' w'' := by
      refine ⟨h'', fun i => β'' (f i), ⟨(X.trans X').imm, r0.len, fun i x x' e e' => ?_⟩, R.sr s''.sr r0.inj r0.low, fun t r e => ?_, s''.size, s''.df.any⟩
      · have hi := (List.getElem?_eq_some_iff.1 e).1
        have h1 := hm i x' e'
        rw [r0.fix i hi, r0.lowb i x' hi e'] at h1
        have h2 := (X.trans X').to i x x' e h1
        cases x with
        | dead => exact h2
        | free => trivial
        | _ => simpa only [Blk.to, r0.fix i hi] using h2
      · obtain ⟨h1, h2⟩ := r0.st t r e
        obtain ⟨v, h3, h4⟩ := s''.fits t _ h1
        exact ⟨v, h3, R.unrep h4 rfl h2⟩
    refine ⟨⟨g', hI'⟩, ?_⟩
    have := (hM a'' w'' ⟨g', hI'⟩).2 g' hI'
    omega
  | _ => exact ⟨D'', σ'', H0', h0', β'', q, X.trans X0', s0''⟩

structure XAgainM {G : Type} (I : G → Prop) (L : G → List (Nat × AV)) (hp : G → List Blk) (μ : G → Nat) (base : Nat) (g : G) (D' : List Nat) (σ' : St) (H' : List Blk) : Prop where
  o : ∃ g' f, I g' ∧ μ g' < μ g ∧ MarksOk D' H' f (hp g').length ∧ RenS f base (hp g') (stX (L g')) H' σ'
theorem Walk.loopM {c : Code} {G : Type} (ok : TabOk P T) (own : List Nat) (I : G → Prop) (L : G → List (Nat × AV)) (hp : G → List Blk) (μ : G → Nat) (g0 : G) (base : Nat) (h0 : I g0) (hH : hp g0 = H) (hb : base = H.length) (hs : SubX (L g0) σ)
    (round : ∀ g, I g → XRun P T N ρ own c (thenQ (XAgainM I L hp μ base g) Q) [] (stX (L g)) (hp g)) : Walk P N ρ (.loop c) Q [] σ H := by
  constructor
  refine AWp.loopM (G := {g : G // I g}) (fun g => stX (L g.1)) (fun g => hp g.1) (fun g => μ g.1) ⟨g0, h0⟩ (stX_sub hs) hH rfl fun g => ?_
  refine (XRun.sound ok (round g.1 g.2)).mono fun e D' σ' H' q => ?_
  cases e with
  | normal => obtain ⟨g', f, h2, h3, h4, h5⟩ := q; exact ⟨⟨g', h2⟩, f, h3, h4, hb ▸ h5⟩
  | _ => exact q
theorem stX_mem : ∀ (l : List (Nat × AV)) t r, stX l t = some r → (t, r) ∈ l := by
  intro l; induction l with
  | nil => intro t r h; cases h
  | cons p l ih =>
    obtain ⟨u, x⟩ := p
    intro t r h; simp only [stX, updX_eq, upd] at h
    split at h
    · rename_i e; cases h; subst e; exact List.mem_cons_self
    · exact List.mem_cons_of_mem _ (ih t r h)
theorem AV.ren_id (a : AV) : a.ren id = a := by
  refine AV.rec (motive_1 := fun a => a.ren id = a) (motive_2 := fun l => renL id l = l) ?_ ?_ ?_ ?_ ?_ ?_ ?_ ?_ ?_ ?_ ?_ ?_ ?_ ?_ ?_ ?_ ?_ ?_ a
  all_goals first | (intros; rfl) | (intro cs ih; simp only [AV.ren, ih]) | (intro f cs ih; simp only [AV.ren, ih]) | (intro x l ih1 ih2; simp only [renL, ih1, ih2])
theorem Blk.ren_id (x : Blk) : x.ren id = x := by
  have hL : ∀ l : List AV, renL id l = l := fun l => by have := AV.ren_id (.agg l); simpa [AV.ren] using this
  cases x with
  | cells cs => simp only [Blk.ren, hL]
  | grow t nl els => simp only [Blk.ren, hL]
  | map es =>
    simp only [Blk.ren]
    have : ∀ p ∈ es, (fun p : Int × AV => (p.1, p.2.ren id)) p = id p := fun p _ => by simp only [AV.ren_id]; rfl
    rw [List.map_congr_left this, List.map_id]
  | lp st pend f tm ps x y n =>
    simp only [Blk.ren]
    have : ∀ p ∈ tm, (fun p : Nat × AV => (p.1, p.2.ren id)) p = id p := fun p _ => by simp only [AV.ren_id]; rfl
    rw [List.map_congr_left this, List.map_id]
  | _ => rfl
/-- The rest of memory is forgotten, its marks too. -/
theorem XAgainM.go {G : Type} {I : G → Prop} {L : G → List (Nat × AV)} {hp : G → List Blk} {μ : G → Nat} {base : Nat} {g : G} {D : List Nat} (g' : G) (l : List Blk) (h1 : I g') (h2 : μ g' < μ g) (h3 : hp g' ++ l = H) (h4 : SubX (L g') σ) (hb : base ≤ (hp g').length)
    (h5 : ∀ x ∈ hp g', x.low (hp g').length = true) (h6 : ∀ p ∈ L g', p.2.low (hp g').length = true) (hnd : D.Nodup) (hD : ∀ i ∈ D, (hp g').length ≤ i ∧ lget H i = some (.raw (.deferred (some [])))) : XAgainM I L hp μ base g D σ H :=
  ⟨g', id, h1, h2, ⟨hnd, fun i hi => by have := (hD i hi).2; rwa [lget_eq] at this, fun i hi h => by have := (hD _ h).1; simp only [id] at this; omega⟩,
    ⟨fun _ _ _ _ e => e, fun _ _ => rfl, hb, fun i x1 e => by
      rw [← h3, Blk.ren_id]; simp only [id]
      rw [List.getElem?_append_left (List.getElem?_eq_some_iff.1 e).1]; exact e, fun _ x1 _ _ => Blk.ren_id x1, h5, fun t r e => by
      refine ⟨by rw [AV.ren_id]; exact stX_sub h4 t r e, h6 (t, r) (stX_mem _ _ _ e)⟩⟩⟩
end
end GA
