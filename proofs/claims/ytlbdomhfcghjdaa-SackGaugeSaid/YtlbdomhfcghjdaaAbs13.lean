/- A function's contract, out of its body. -/
import Derived.Test.YtlbdomhfcghjdaaAbs12
namespace GA
open Go Go.RowKit

section
variable {P : Program} {N : Nat} {E : Env} {h : Nat → Option Obj} {β : Nat → Value} {H : List Blk} {w : World} {σ : St} {a : Act}

theorem atP_raw {i : Nat} {o o' : Obj} (hi : H[i]? = some (.raw o)) {p : AV} {cs : List AV} (e : atP H p = some cs) : atP (H.set i (.raw o')) p = some cs := by
  have hlt := (List.getElem?_eq_some_iff.1 hi).1
  have hg : ∀ (j : Nat) (x : Blk), H[j]? = some x → (∀ o, x ≠ Blk.raw o) → (H.set i (.raw o'))[j]? = some x := by
    intro j x hj hx
    by_cases hij : i = j
    · subst hij; rw [hi] at hj; cases hj; exact absurd rfl (hx _)
    · rw [List.getElem?_set_ne hij]; exact hj
  cases p with
  | pim cs => exact e
  | ptr j o =>
    simp only [atP] at e ⊢
    split at e <;> cases e
    rename_i h1
    rw [hg j _ h1 (by simp)]
  | gp j n e' o =>
    simp only [atP] at e ⊢
    split at e
    · rename_i h1; rw [hg j _ h1 (by simp)]; exact e
    · cases e
  | _ => cases e

theorem resA_raw {i : Nat} {o o' : Obj} (hi : H[i]? = some (.raw o)) : ∀ {l : List ResultVar} {k : List AV → Prop}, resA P σ H l k → resA P σ (H.set i (.raw o')) l k
  | [], _, hk => hk
  | .tmp t :: l, k, hk => by
    obtain ⟨r, h1, hk⟩ := bnd_elim hk
    simp only [resA, h1, bnd_some]; exact resA_raw hi hk
  | .cell p t :: l, k, hk => by
    obtain ⟨r, h1, hk⟩ := bnd_elim hk
    obtain ⟨ti, h2, hk⟩ := bnd_elim hk
    obtain ⟨cs, h3, hk⟩ := bnd_elim hk
    simp only [resA, h1, bnd_some, opLoad, h2, atP_raw hi h3]
    split at hk
    · rename_i h4; rw [if_pos h4]; exact ⟨hk.1, resA_raw hi hk.2⟩
    · rename_i h4; rw [if_neg h4]
      obtain ⟨y, h5, hk⟩ := bnd_elim hk
      rw [h5, bnd_some]; exact resA_raw hi hk

/-- A mark that nobody looks at any more is taken away. -/
def hid (h : Nat → Option Obj) (b : Nat) : Nat → Option Obj := fun x => if x = b then none else h x
theorem hid_ne {b x : Nat} (hx : x ≠ b) : hid h b x = h x := by simp [hid, hx]
theorem Rep.hid {b : Nat} {x : Option (List Deferred)} (hb : h b = some (.deferred x)) {r : AV} {v : Value} (y : Rep P h β H r v) : Rep P (GA.hid h b) β H r v := by
  have hc : ∀ {q : Nat} {c t fz}, h q = some (.cells c t fz) → GA.hid h b q = some (.cells c t fz) := by
    intro q c t fz e
    rw [hid_ne]; exact e
    rintro rfl; rw [hb] at e; cases e
  induction y with
  | bool b => exact .bool b
  | int k n => exact .int k n
  | nilp => exact .nilp
  | ptr hi h1 => exact .ptr hi h1
  | pim us h1 h2 h3 _ ih => exact .pim us h1 (hc h2) h3 ih
  | slnil => exact .slnil
  | slemp => exact .slemp
  | sl us h1 h2 h3 h4 h5 h6 h7 h8 _ ih => exact .sl us h1 h2 (hc h3) h4 h5 h6 h7 h8 ih
  | se => exact .se
  | gr h1 hi h2 => exact .gr h1 hi h2
  | gp hi h2 => exact .gp hi h2
  | nilm => exact .nilm
  | mp hi h1 => exact .mp hi h1
  | nilf => exact .nilf
  | yld hi h1 => exact .yld hi h1
  | fn us h1 h2 _ ih => exact .fn us h1 h2 ih
  | agg us h1 h2 h3 _ ih => exact .agg us h1 h2 h3 ih
  | tup us h1 h2 _ ih => exact .tup us h1 h2 ih
theorem CellsOk.map {h' : Nat → Option Obj} (f : ∀ r v, Rep P h β H r v → Rep P h' β H r v) {cs : List AV} {c : Array Value} (k : CellsOk P h β H cs c) : CellsOk P h' β H cs c :=
  let ⟨us, a, b⟩ := k; ⟨us, a, fun j x e => f _ _ (b j x e)⟩
theorem BlkOk.map {h' : Nat → Option Obj} (f : ∀ r v, Rep P h β H r v → Rep P h' β H r v) {heap heap' : Array Obj} {i : Nat} {x : Blk} (hh : x ≠ .dead → x ≠ .free → ∀ b, anchor (β i) = some b → heap'[b]? = heap[b]?)
    (k : BlkOk P h β H heap i x) : BlkOk P h' β H heap' i x := by
  cases x with
  | dead => trivial
  | free => trivial
  | lp st pend f' tm ps x y n =>
    obtain ⟨b, dfr, tmps, h1, h2, h3, h4⟩ := k
    exact ⟨b, dfr, tmps, h1, by rw [hh (by simp) (by simp) b (by rw [h1]; rfl)]; exact h2, h3, fun t r e => let ⟨v, a, c⟩ := h4 t r e; ⟨v, a, f _ _ c⟩⟩
  | cells cs =>
    obtain ⟨b, c, t, h1, h2, h3, h4, h5⟩ := k
    exact ⟨b, c, t, h1, by rw [hh (by simp) (by simp) b (by rw [h1]; rfl)]; exact h2, h3, h4, h5.map f⟩
  | grow t nl els =>
    rcases k with ⟨h1, h2, h3⟩ | ⟨h1, h2, a, h3⟩ | ⟨h1, b, cap, c, h2, h3, h4, h5, h6, h7, h8, h9, h10, h11⟩
    · exact .inl ⟨h1, h2, h3⟩
    · exact .inr (.inl ⟨h1, h2, a, h3⟩)
    · exact .inr (.inr ⟨h1, b, cap, c, h2, h3, by rw [hh (by simp) (by simp) b (by rw [h2]; simp [anchor]; omega)]; exact h4, h5, h6, h7, h8, h9, h10, h11.map f⟩)
  | map es =>
    obtain ⟨r, ents, clock, h1, h2, h3, h4, us, h5⟩ := k
    exact ⟨r, ents, clock, h1, by rw [hh (by simp) (by simp) r (by rw [h1]; rfl)]; exact h2, h3, h4, us, fun j q x e => let ⟨a, b⟩ := h5 j q x e; ⟨f _ _ a, b⟩⟩
  | raw o =>
    obtain ⟨b, h1, h2⟩ := k
    exact ⟨b, h1, by rw [hh (by simp) (by simp) b (by rw [h1]; rfl)]; exact h2⟩
theorem SR.hid {b : Nat} {x : Option (List Deferred)} (hb : h b = some (.deferred x)) (o : Obj) (s : SR P E h β H w) : SR P E (GA.hid h b) β H (w.putObj b o) := by
  have hne : ∀ {q}, h q = none → q ≠ b := fun e => by rintro rfl; rw [hb] at e; cases e
  refine ⟨s.env, fun q p e => ?_, fun i y e => ?_, s.own, fun i q e => ?_, fun q p e => ?_, s.fro⟩
  · unfold GA.hid at e; split at e
    · cases e
    · rename_i hq; rw [World.putObj_heap_other hq]; exact s.imm q p e
  · refine (s.blk i y e).map (fun r v => Rep.hid hb) fun hd hd' q hq => World.putObj_heap_other ?_
    refine hne (s.fresh i q ?_)
    unfold blkOf; rw [e]; cases y <;> first | exact absurd rfl hd | exact absurd rfl hd' | exact hq
  · rw [hid_ne (hne (s.fresh i q e))]; exact s.fresh i q e
  · obtain ⟨h1, h2⟩ := s.frm q p e
    exact ⟨by rw [World.putObj_heap_other (hne h2)]; exact h1, by rw [hid_ne (hne h2)]; exact h2⟩
theorem DfL.hid {b : Nat} {x : Option (List Deferred)} {en : Nat → Option Obj} (hb : h b = some (.deferred x)) {D : List Nat} {ds : List Deferred} (d : DfL P h β H en D ds) (nd : ∀ b', ({ target := .collected b', args := #[] } : Deferred) ∈ ds → b' ≠ b) : DfL P (GA.hid h b) β H en D ds := by
  induction d with
  | nil => exact .nil
  | own r _ ih => exact .own (Rep.hid hb r) (ih fun b' hb' => nd b' (List.mem_cons_of_mem _ hb'))
  | lost h1 he nd' _ ih => exact .lost (by rw [hid_ne (nd _ List.mem_cons_self)]; exact h1) he nd' (ih fun b' hb' => nd b' (List.mem_cons_of_mem _ hb'))
theorem DfOk.hid {b : Nat} {x : Option (List Deferred)} (hb : h b = some (.deferred x)) (he : E.en b = none) {D : List Nat} {ds : List Deferred} (d : DfOk P E h β H D ds) (nd : ∀ b', ({ target := .collected b', args := #[] } : Deferred) ∈ ds → b' ≠ b) : DfOk P E (GA.hid h b) β H D ds :=
  ⟨fun q o e => by rw [hid_ne (by rintro rfl; rw [he] at e; cases e)]; exact d.en q o e, d.l.hid hb nd⟩
theorem Ext.hid {b : Nat} {h0 : Nat → Option Obj} {β0 : Nat → Value} {H0 : List Blk} (X : Ext h0 β0 H0 h β H) (he : h0 b = none) : Ext h0 β0 H0 (GA.hid h b) β H :=
  ⟨fun q o e => by rw [hid_ne (by rintro rfl; rw [he] at e; cases e)]; exact X.imm q o e, X.len, X.to⟩
theorem Fits.hid {b : Nat} {x : Option (List Deferred)} (hb : h b = some (.deferred x)) (F : Fits P h β H σ a) : Fits P (GA.hid h b) β H σ a := fun t r e => let ⟨v, a, c⟩ := F t r e; ⟨v, a, Rep.hid hb c⟩

theorem leaves {fn : Func} {h0 : Nat → Option Obj} {β0 : Nat → Value} {H0 H1 : List Blk} {k : AV → List Blk → Prop} (hen : ∀ b, E.en b = none → h0 b = none) (hlen : H0.length ≤ H1.length) (hlow : ∀ x ∈ H1, x.low H1.length = true) :
    ∀ (ds : List Deferred) (D : List Nat) (h : Nat → Option Obj) (β : Nat → Value) (l : List Blk) (w : World), Ext h0 β0 H0 h β (H1 ++ l) → SR P E h β (H1 ++ l) w → Fits P h β (H1 ++ l) σ a → DfOk P E h β (H1 ++ l) D ds → D.Nodup →
      (∀ i ∈ D, H1.length ≤ i ∧ (H1 ++ l)[i]? = some (.raw (.deferred (some [])))) → resA P σ (H1 ++ l) fn.results.toList (fun rs => (pack rs).low H1.length = true ∧ k (pack rs) H1) →
      LeavesInM (FW none) 0 P fn a.tmps (Ends P E h0 β0 H0 k) ds .returning w
  | [], D, h, β, l, w, X, s, F, df, _, _, hr => by
    obtain ⟨v, rs, e1, e2, e3, e4⟩ := results_run s F hr
    exact ⟨v, e1, pack rs, H1, h, β, v, rfl, e4, X.cut hlen, s.cut hlow, e2.cut e3⟩
  | d :: ds, D, h, β, l, w, X, s, F, ⟨hen2, df⟩, hnd, hD, hr => by
    cases df with
    | @lost b _ _ hb he nd t =>
      have h4 := s.imm _ _ hb
      have htake := run_takeDeferred (P := P) h4
      refine ⟨by simp, .inl ⟨b, _, rfl, htake, ?_⟩⟩
      exact leaves hen hlen hlow ds D _ β l _ (X.hid (hen _ he)) (s.hid hb _) (F.hid hb) (DfOk.hid hb he ⟨hen2, t⟩ nd) hnd hD hr
    | @own i b D _ h2 t =>
      obtain ⟨hi1, hi2⟩ := hD i (by simp)
      cases h2 with
      | yld hlt hb =>
        have hb' := hb _ hi2 rfl
        obtain ⟨b', h3, h4⟩ := s.blk i _ hi2
        rw [hb'] at h3; cases h3
        have htake := run_takeDeferred (P := P) h4
        refine ⟨by simp, .inl ⟨b, _, rfl, htake, ?_⟩⟩
        have hset : (H1 ++ l).set i (.raw (.deferred none)) = H1 ++ l.set (i - H1.length) (.raw (.deferred none)) := by rw [List.set_append_right _ _ hi1]
        have hbo : blkOf β (H1 ++ l) i = some b := by simp only [blkOf, hi2, hb']; rfl
        obtain ⟨s', X'⟩ := s.modify (β' := β) (w' := w.putObj b (.deferred none)) (x' := .raw (.deferred none)) hi2 (fun _ _ => rfl) (.inr ⟨_, rfl, rfl⟩) s.env
          (fun q _ hn => World.putObj_heap_other (fun e => hn (by rw [hbo, e]))) (fun b0 e => .inl (by rw [hbo]; rw [hb'] at e; exact e))
          (fun _ => ⟨b, hb', World.putObj_heap_same (Array.getElem?_eq_some_iff.1 h4).1⟩)
        rw [hset] at s' X'
        refine leaves hen hlen hlow ds D h β _ _ (X.trans X') s' (F.ext X') (DfOk.ext ⟨hen2, t⟩ X') (List.nodup_cons.1 hnd).2 (fun i' hi' => ⟨(hD i' (by simp [hi'])).1, ?_⟩) ?_
        · have hne : i ≠ i' := fun e => (List.nodup_cons.1 hnd).1 (e ▸ hi')
          rw [← hset, List.getElem?_set_ne hne]
          exact (hD i' (by simp [hi'])).2
        · rw [← hset]; exact resA_raw hi2 hr
theorem Ends.unen {h0 : Nat → Option Obj} {β0 : Nat → Value} {H0 : List Blk} {k : AV → List Blk → Prop} {x : Nat → Option Obj} {e : Ending} {w : World} (y : Ends P ⟨E.b, E.fr, x⟩ h0 β0 H0 k e w) : Ends P E h0 β0 H0 k e w :=
  let ⟨r, H', h', β', v, a, b, c, d, f⟩ := y; ⟨r, H', h', β', v, a, b, c, d.unen, f⟩

def argsSt (rs : List AV) : St := fun t => rs[t]?

theorem ACall.of_body {f : FuncId} {fn : Func} {c : Code} {rs : List AV} {k : AV → List Blk → Prop} (hf : P.funcs[f]? = some fn) (hb : fn.body = some c) (hn : (fn.name == "runtime.NumGoroutine") = false) (hl : rs.length ≤ fn.ntmps)
    (x : AWp P fn.ntmps none c (FnPost P fn.results.toList H k) [] (argsSt rs) H) : ACall P f rs H k := by
  refine ⟨⟨fn, hf, hn, by rw [hb]; rfl⟩, fun E h β w vs s hr => ?_⟩
  refine (show CallsIn (FW none) 0 P f vs.toArray w (Ends P ⟨E.b, E.fr, h⟩ h β H k) from ?_).mono fun _ _ => Ends.unen
  refine callsIn_of_wp_marks hf hb trivial ?_ rfl
  have hsz : (vs.toArray ++ Array.replicate (fn.ntmps - vs.toArray.size) undef).size = fn.ntmps := by simp [hr.1]; omega
  refine wpIn_mono (x ⟨E.b, E.fr, h⟩ h β _ w ⟨s.en h, fun t r e => ?_, hsz, ⟨fun _ _ e => e, .nil⟩⟩) ?_
  · obtain ⟨v, h1, h2⟩ := hr.2 t r e
    refine ⟨v, ?_, h2⟩
    rw [Array.getElem?_append_left (by simpa using (List.getElem?_eq_some_iff.1 h1).1)]; simpa using h1
  · rintro e a' w' ⟨D', σ', H', h', β', ⟨he, H1, l, rfl, hlen, hcl, hnd, hD, hres⟩, X, s'⟩
    have hlow : ∀ x ∈ H1, x.low H1.length = true := by
      intro x hx
      rcases hcl x hx with h1 | h1
      · obtain ⟨j, hj⟩ := mem_get h1
        have := s.low hj
        exact low_mono hlen this
      · exact h1
    have := leaves (fn := fn) (k := k) (fun _ e => e) hlen hlow a'.defers D' h' β' l w' X s'.sr s'.fits s'.df hnd hD hres
    rcases he with rfl | rfl <;> exact this
end
end GA
