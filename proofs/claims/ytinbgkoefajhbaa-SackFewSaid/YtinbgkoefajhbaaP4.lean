/- Part 4 of a proof: Abs31, Abs32, Abs33, Abs34, AbsS, Abs35, AbsI, K1a, K1b. -/
import Derived.Test.YtinbgkoefajhbaaP3
import Derived.Shelf.Spec.SlicesInsert
import Derived.Shelf.Spec.SlicesInsertGrow
section
namespace GA
open Go Go.RowKit
set_option linter.unusedVariables false
set_option linter.unusedSimpArgs false

section
variable {P : Program} {T : Tab} {N : Nat} {ρ : Option Nat} {own : List Nat} {E : Env} {h h' : Nat → Option Obj} {β β' : Nat → Value} {H H' Hn : List Blk} {w w' : World} {σ : St} {D : List Nat}

structure Gives (P : Program) (f : FuncId) (rs : List AV) (r : AV) (Hn : List Blk) : Prop where
  lo : lowL 0 rs = true
  lr : r.low Hn.length = true
  lH : ∀ x ∈ Hn, x.low Hn.length = true
  o : ACall P f rs [] fun r' H' => r' = r ∧ H' = Hn

theorem Gives.comp {f : FuncId} {rs : List AV} {r r0 : AV} (x : Gives P f rs r Hn) (hf : Froz P Hn r r0) : Comp P f rs r0 := by
  refine ⟨x.lo, x.o.1, fun E h β w vs s hr => ?_⟩
  refine (x.o.2 E h β w vs s hr).mono ?_
  rintro e w' ⟨r1, H1, h', β', v, rfl, ⟨rfl, rfl⟩, X, s', hrep⟩
  refine ⟨r0, [], hall h' β' H1 w', β, v, rfl, ⟨rfl, rfl⟩, ⟨fun b o e => hall_imm s' (X.imm b o e), Nat.le_refl _, fun i x x' e => by simp at e⟩, ?_, (hf _ _ _ _ s' v hrep).none⟩
  have s2 := s'.all
  exact ⟨s2.env, s2.imm, fun i x e => by simp at e, fun i j x e => by simp [blkOf] at e, fun i x e => by simp [blkOf] at e, s2.frm, fun i x e => by simp [blkOf] at e⟩

def SelR (f : Nat → Nat) (H : List Blk) : Nat → List Blk → Prop
  | _, [] => True
  | i, x :: l => lget H (f i) = some (x.ren f) ∧ SelR f H (i + 1) l
theorem SelR.get {f : Nat → Nat} {H : List Blk} : ∀ {l : List Blk} {i : Nat}, SelR f H i l → ∀ (j : Nat) x, l[j]? = some x → lget H (f (i + j)) = some (x.ren f)
  | [], _, _, j, x, e => by simp at e
  | y :: l, i, h, 0, x, e => by simp at e; subst e; exact h.1
  | y :: l, i, h, j + 1, x, e => by
    have := SelR.get h.2 j x (by simpa using e)
    rwa [Nat.add_right_comm] at this
structure XGive (H : List Blk) (r' r : AV) (Hn : List Blk) : Prop where
  o : ∃ l : List Nat, l.length = Hn.length ∧ l.Nodup ∧ SelR (rnF l) H 0 Hn ∧ r' = r.ren (rnF l)
theorem XGive.mk' {H : List Blk} {r' r : AV} {Hn : List Blk} (l : List Nat) (h1 : l.length = Hn.length) (h2 : l.Nodup) (h3 : SelR (rnF l) H 0 Hn) (h4 : r' = r.ren (rnF l)) : XGive H r' r Hn := ⟨l, h1, h2, h3, h4⟩
theorem Gives.body {f : FuncId} {fn : Func} {c : Code} {rs : List AV} {res : List ResultVar} {r : AV} (ok : TabOk P T) (own : List Nat) (hf : P.funcs[f]? = some fn) (hb : fn.body = some c) (hn : (fn.name == "runtime.NumGoroutine") = false)
    (hN : fn.ntmps = N) (hr : fn.results = res.toArray) (hl : rs.length ≤ N) (lo : lowL 0 rs = true) (lr : r.low Hn.length = true) (lH : ∀ x ∈ Hn, x.low Hn.length = true)
    (x : XRun P T N none own c (XIn T res fun r' H' => XGive H' r' r Hn) [] (argX rs) []) : Gives P f rs r Hn := by
  refine ⟨lo, lr, lH, ?_⟩
  obtain ⟨h1, h2⟩ := ACall.inl ok own hf hb hn hN hr hl x
  refine ⟨h1, fun E h β w vs s hrs => (h2 E h β w vs s hrs).mono ?_⟩
  rintro e w' ⟨r', H', h', β', v, rfl, ⟨l, g1, g2, g3, g4⟩, X, s', hrep⟩
  have inj : ∀ i j, i < Hn.length → j < Hn.length → rnF l i = rnF l j → i = j := by
    intro i j hi hj e
    unfold rnF at e
    rw [lget_eq, lget_eq, List.getElem?_eq_getElem (by omega), List.getElem?_eq_getElem (by omega)] at e
    exact (List.getElem_inj g2).1 e
  have R : Ren (rnF l) (fun i => β' (rnF l i)) Hn β' H' := ⟨fun i x e => by
    have := g3.get i x e
    rw [Nat.zero_add, lget_eq] at this; exact this, fun _ _ => rfl⟩
  exact ⟨r, Hn, h', _, v, rfl, ⟨rfl, rfl⟩, ⟨X.imm, Nat.zero_le _, fun i x x' e => by simp at e⟩, R.sr s' inj lH, R.unrep hrep g4.symm lr⟩

theorem Walk.nilcell {c : Code} {Q : Post} (j o : Nat) (te : TypeId) {cs : List AV} (hj : lget H j = some (.cells cs)) (hc : lget cs o = some (.sl true [])) (x : Walk P N ρ c Q D σ (H.set j (.cells (cs.set o (.gr H.length 0))) ++ [.grow te true []])) : Walk P N ρ c Q D σ H := by
  constructor
  intro E h β a w s
  rw [lget_eq] at hj hc
  have hlt := (List.getElem?_eq_some_iff.1 hj).1
  have hlo := (List.getElem?_eq_some_iff.1 hc).1
  obtain ⟨s1, X1⟩ := s.sr.push (w' := w) s.sr.env (fun _ _ => rfl) (.slice none 0 0) (.grow te true []) (by intro b hb; simp [anchor] at hb) (fun _ => .inl ⟨rfl, rfl, by simp [upb]⟩)
  have hj1 : (H ++ [Blk.grow te true []])[j]? = some (.cells cs) := by rw [List.getElem?_append_left hlt]; exact hj
  obtain ⟨s2, X2⟩ := s1.modify (β' := upb β H.length (.slice none 0 0)) (w' := w) (x' := .cells (cs.set o (.gr H.length 0))) hj1 (fun _ _ => rfl) (.inr ⟨_, rfl, rfl⟩) s1.env (fun _ _ _ => rfl) (fun b e => .inl (by unfold blkOf; rw [hj1]; exact e)) (fun X => by
    obtain ⟨b, c, t, h1, h2, h3, h4, us, h5, h6⟩ := s1.blk j _ hj1
    refine ⟨b, c, t, h1, h2, by rw [List.length_set]; exact h3, fun y hy => ?_, us, fun i y e => ?_, fun i y e => ?_⟩
    · rcases List.mem_or_eq_of_mem_set hy with hy | rfl
      · exact h4 y hy
      · rfl
    · by_cases hio : o = i
      · subst hio; exact h5 o _ hc
      · rw [List.getElem?_set_ne hio] at e; exact h5 i y e
    · by_cases hio : o = i
      · subst hio
        rw [List.getElem?_set_self hlo] at e; cases e
        have h7 := h6 o _ hc
        cases h : us o <;> rw [h] at h7 <;> cases h7
        refine .gr rfl ⟨_, by rw [List.getElem?_set_ne (by omega), List.getElem?_append_right (Nat.le_refl _), Nat.sub_self]; rfl, rfl⟩ fun t' nl els e => ?_
        rw [List.getElem?_set_ne (by omega), List.getElem?_append_right (Nat.le_refl _), Nat.sub_self] at e
        simp at e; obtain ⟨_, _, rfl⟩ := e
        exact ⟨Nat.le_refl _, fun _ => by simp [upb]⟩
      · rw [List.getElem?_set_ne hio] at e; exact X.rep (h6 i y e))
  rw [List.set_append_left _ _ hlt] at s2 X2
  exact wpIn_mono (x.o E h _ a w ⟨s2, fun u r e => let ⟨v, h1, h2⟩ := s.fits u r e; ⟨v, h1, (X1.trans X2).rep h2⟩, s.size, s.df.ext (X1.trans X2)⟩) fun _ _ _ => Conc.ext (X1.trans X2)

noncomputable def hallN (n : Nat) (h : Nat → Option Obj) (β : Nat → Value) (H : List Blk) (w : World) : Nat → Option Obj := by
  classical exact fun b => if ∃ i, n ≤ i ∧ blkOf β H i = some b then w.heap[b]? else h b
theorem hallN_own {n b i : Nat} (hi : n ≤ i) (e : blkOf β H i = some b) : hallN n h β H w b = w.heap[b]? := by
  unfold hallN; rw [if_pos ⟨i, hi, e⟩]
theorem hallN_imm {n : Nat} (s : SR P E h β H w) {b : Nat} {o : Obj} (e : h b = some o) : hallN n h β H w b = some o := by
  unfold hallN; split
  · rename_i hh; obtain ⟨i, _, hi⟩ := hh; rw [s.fresh _ _ hi] at e; cases e
  · exact e
theorem SR.allN {H1 l : List Blk} (s : SR P E h β (H1 ++ l) w) (lo : ∀ x ∈ H1, x.low H1.length = true) : SR P E (hallN H1.length h β (H1 ++ l) w) β H1 w := by
  have s1 := s.cut lo
  have hb : ∀ i, i < H1.length → blkOf β H1 i = blkOf β (H1 ++ l) i := fun i hi => by unfold blkOf; rw [List.getElem?_append_left hi]
  have hlt : ∀ {i x}, blkOf β H1 i = some x → i < H1.length := fun e => (blkOf_some e).1
  have X : Ext h β H1 (hallN H1.length h β (H1 ++ l) w) β H1 := ⟨fun b o e => hallN_imm s e, Nat.le_refl _, fun i x x' e e' => by rw [e] at e'; cases e'; exact Blk.to_refl _ _ _⟩
  refine ⟨s1.env, fun b o e => ?_, fun i x e => (s1.blk i x e).keep X rfl (fun _ _ _ _ => rfl), s1.own, fun i x e => ?_, fun b o e => ⟨(s.frm b o e).1, ?_⟩, s1.fro⟩
  · unfold hallN at e; split at e
    · exact e
    · exact s.imm b o e
  · have hi := hlt e
    unfold hallN; rw [if_neg]
    · exact s1.fresh i x e
    · rintro ⟨j, hj, hj2⟩
      have := s.own i j x (by rw [← hb i hi]; exact e) hj2
      omega
  · unfold hallN; rw [if_neg]
    · exact (s.frm b o e).2
    · rintro ⟨j, hj, hj2⟩
      rw [s.fro _ _ hj2] at e; cases e
def FrozN (P : Program) (n : Nat) (H : List Blk) (r r' : AV) : Prop :=
  ∀ E h β w, SR P E h β H w → ∀ v, Rep P h β H r v → ∀ H1 : List Blk, Rep P (hallN n h β H w) β H1 r' v
def FrozNL (P : Program) (n : Nat) (H : List Blk) (rs rs' : List AV) : Prop := rs'.length = rs.length ∧ ∀ (j : Nat) x, rs'[j]? = some x → ∃ y, rs[j]? = some y ∧ FrozN P n H y x
theorem FrozN.low {n : Nat} {r : AV} (hl : r.low 0 = true) : FrozN P n H r r := by
  intro E h β w s v hr H1
  have h0 : Rep P h β [] r v := Rep.cut (H := []) (l := H) hr hl
  have X : Ext h β [] (hallN n h β H w) β [] := ⟨fun b o e => hallN_imm s e, Nat.le_refl _, by simp⟩
  exact (X.rep h0).none
theorem FrozNL.nil {n : Nat} : FrozNL P n H [] [] := ⟨rfl, by simp⟩
theorem FrozNL.cons {n : Nat} {r r' : AV} {rs rs' : List AV} (h1 : FrozN P n H r r') (h2 : FrozNL P n H rs rs') : FrozNL P n H (r :: rs) (r' :: rs') := by
  refine ⟨by simp [h2.1], fun j x e => ?_⟩
  cases j with
  | zero => simp at e; subst e; exact ⟨r, rfl, h1⟩
  | succ j => exact h2.2 j x (by simpa using e)
theorem FrozN.tup {n : Nat} {rs rs' : List AV} (hs : FrozNL P n H rs rs') : FrozN P n H (.tup rs) (.tup rs') := by
  intro E h β w s v hr H1
  cases hr with
  | tup us h1 h2 h3 =>
    refine .tup us (by rw [h1, hs.1]) (fun j x e => ?_) (fun j x e => ?_)
    · obtain ⟨y, e1, _⟩ := hs.2 j x e; exact h2 j y e1
    · obtain ⟨y, e1, e2⟩ := hs.2 j x e; exact e2 E h β w s _ (h3 j y e1) H1
theorem FrozN.agg {n : Nat} {rs rs' : List AV} (hone : ∀ x ∈ rs', x.one = true) (hs : FrozNL P n H rs rs') : FrozN P n H (.agg rs) (.agg rs') := by
  intro E h β w s v hr H1
  cases hr with
  | agg us h1 h0 h2 h3 =>
    refine .agg us (by rw [h1, hs.1]) hone (fun j x e => ?_) (fun j x e => ?_)
    · obtain ⟨y, e1, _⟩ := hs.2 j x e; exact h2 j y e1
    · obtain ⟨y, e1, e2⟩ := hs.2 j x e; exact e2 E h β w s _ (h3 j y e1) H1
theorem FrozN.grow {n i m : Nat} {t : TypeId} {nl : Bool} {els : List AV} (hi : n ≤ i) (hb : lget H i = some (.grow t nl els)) (hn : els.length = m) (hl : lowL 0 els = true) : FrozN P n H (.gr i m) (.sl nl els) := by
  have hb' := hb; rw [lget_eq] at hb'
  intro E h β w s v hr H1
  cases hr with
  | gr ho hlv hv =>
    obtain ⟨h1, h2⟩ := hv _ _ _ hb'
    have hβ := h2 hn
    subst hβ
    rcases s.blk i _ hb' with ⟨rfl, rfl, h3⟩ | ⟨rfl, rfl, b, h3⟩ | ⟨rfl, b, cap, c, h3, h4, h5, h6, h7, h8, h9, h10, h11, us, h12, h13⟩
    · rw [h3]; exact .slnil
    · rw [h3]; exact .slemp
    · rw [h3]
      cases els with
      | nil => exact .slemp
      | cons e0 l0 =>
        have hbo : blkOf β H i = some b := by simp only [blkOf, hb', h3, anchor]; rw [if_neg (by omega)]
        refine .sl us rfl (by simp) ((hallN_own hi hbo).trans h5) h10 h9 h11 h6 (fun j x e => ?_) (fun j x e => ?_)
        · rw [Nat.zero_add]; exact h12 j x e
        · exact FrozN.low (lowL_iff.1 (by rw [lowL_iff]; exact low_flat.1 hl) x (List.mem_of_getElem? e)) E h β w s _ (h13 j x e) H1

structure XEnd (P : Program) (n : Nat) (H : List Blk) (r' r : AV) (H1 : List Blk) : Prop where
  o : H.take n = H1 ∧ H1.length = n ∧ (∀ x ∈ H1, x.low n = true) ∧ FrozN P n H r' r
theorem ACall.bodyN {f : FuncId} {fn : Func} {c : Code} {rs : List AV} {res : List ResultVar} {r : AV} {H1 : List Blk} {k : AV → List Blk → Prop} (ok : TabOk P T) (own : List Nat) (hf : P.funcs[f]? = some fn) (hb : fn.body = some c) (hn : (fn.name == "runtime.NumGoroutine") = false)
    (hN : fn.ntmps = N) (hr : fn.results = res.toArray) (hl : rs.length ≤ N) (hk : k r H1)
    (x : XRun P T N none own c (XIn T res fun r' H' => XEnd P H.length H' r' r H1) [] (argX rs) H) : ACall P f rs H k := by
  obtain ⟨h1, h2⟩ := ACall.inl ok own hf hb hn hN hr hl x
  refine ⟨h1, fun E h β w vs s hrs => (h2 E h β w vs s hrs).mono ?_⟩
  rintro e w' ⟨r', H', h', β', v, rfl, ⟨g1, g2, g3, g4⟩, X, s', hrep⟩
  have hH : H' = H1 ++ H'.drop H.length := by rw [← g1, List.take_append_drop]
  rw [hH] at s' X hrep g4
  have s2 := s'.allN (by rw [g2]; exact g3)
  have X2 : Ext h β H h' β' H1 := X.cut (by omega)
  rw [g2] at s2
  exact ⟨r, H1, _, β', v, rfl, hk, ⟨fun b o e => hallN_imm s' (X2.imm b o e), by omega, X2.to⟩, s2, g4 E h' β' w' s' v hrep H1⟩
end
end GA
end

section
namespace GA
open Go Go.RowKit
set_option linter.unusedVariables false

section
variable {P : Program} {T : Tab} {N : Nat} {ρ : Option Nat} {H : List Blk} {σ : St} {D : List Nat}
theorem Walk.place {c : Code} {Q : Post} (x : Walk P N ρ c Q D σ (H ++ [.free])) : Walk P N ρ c Q D σ H := by
  constructor
  intro E h β a w s
  obtain ⟨s', X⟩ := s.sr.push (w' := w) s.sr.env (fun _ _ => rfl) (.pointer none) .free (by intro b hb; simp [anchor] at hb) (fun _ => trivial)
  exact wpIn_mono (x.o E h _ a w ⟨s', fun u r e => let ⟨v, h1, h2⟩ := s.fits u r e; ⟨v, h1, X.rep h2⟩, s.size, s.df.ext X⟩) fun _ _ _ => Conc.ext X
theorem XFree.at {H : List Blk} {b : Blk} {k : Nat → List Blk → Prop} (i : Nat) (h1 : lget H i = some .free) (h2 : hset H i b fun H' => k i H') : XFree H b k := ⟨i, h1, h2⟩
end
end GA
end

section
namespace GA
open Go Go.RowKit
set_option linter.unusedVariables false
section
variable {P : Program} {H : List Blk}

theorem take_ne {α : Type} {els : List α} {o n : Nat} (hz : n ≠ 0) (hle : o + n ≤ els.length) : ((els.drop o).take n).length = n ∧ (els.drop o).take n ≠ [] := by
  have hlen : ((els.drop o).take n).length = n := by simp; omega
  exact ⟨hlen, fun e => by rw [e] at hlen; simp at hlen; omega⟩
theorem Froz.osG {i m o n : Nat} {t : TypeId} {nl : Bool} {els : List AV} (hb : lget H i = some (.grow t nl els)) (hm : els.length = m) (hle : o + n ≤ m) (hl : lowL 0 els = true) : Froz P H (.os i m o n) (.sl false ((els.drop o).take n)) := by
  intro E h β w s v hr
  have hb' := hb; rw [lget_eq] at hb'
  cases hr with
  | @os _ _ _ _ b q cap hi hn hc hg _ =>
    by_cases hz : n = 0
    · subst hz; rw [List.take_zero]; exact .slemp
    · obtain ⟨_, g2⟩ := hg _ _ _ hb'
      obtain ⟨g3, g4, len, cap', g5⟩ := g2 hm hz
      obtain ⟨k1, k2⟩ := take_ne hz (by rw [hm]; exact hle)
      rcases s.blk i _ hb' with ⟨_, h7, h8⟩ | ⟨_, h7, a, h8⟩ | ⟨_, b', cap2, c, h8, h9, h10, h11, h12, h13, h14, h15, h16, us, h17, h18⟩
      · subst h7; simp at k2
      · subst h7; simp at k2
      · rw [h8] at g5; cases g5
        have hbo : blkOf β H i = some b := by simp only [blkOf, hb', h8, anchor]; rw [if_neg (by omega)]
        have hl' := low_flat.1 hl
        refine .sl (w := sz P t) (fun j => us (o * sz P t + j)) k1.symm k2 ((hall_own hbo).trans h10) (fun e he => h15 e (List.mem_of_mem_drop (List.mem_of_mem_take he))) h14 (fun x hx => h16 x (flat_mem_sub hx)) (by omega) (fun j x e => ?_) (fun j x e => ?_)
        · rw [g4]; exact h17 _ x (flat_drop_take h15 _ _ j x e)
        · have e' := flat_drop_take h15 _ _ j x e
          exact Froz.low (hl' x (List.mem_of_getElem? e')) E h β w s _ (h18 _ x e')
end
end GA
end

section
namespace GA
open Go Go.RowKit
set_option linter.unusedVariables false
section
variable {P : Program} {N : Nat} {ρ : Option Nat} {E : Env} {h h' : Nat → Option Obj} {β : Nat → Value} {H H' : List Blk} {w : World} {σ : St}

theorem gr_frz (s : SR P E h β H w) {i n : Nat} {t : TypeId} {nl : Bool} {els : List AV} (hi : H[i]? = some (.grow t nl els)) (hn : els.length = n) {v : Value} (hr : Rep P h β H (.gr i n) v) (X : Ext h β H h' β H')
    (hfz : ∀ b o, blkOf β H i = some b → w.heap[b]? = some o → h' b = some o) : Rep P h' β H' (.sl nl els) v := by
  cases hr with
  | gr ho hl hv =>
    obtain ⟨_, h2⟩ := hv _ _ _ hi
    have hβ := h2 hn
    subst hβ
    rcases s.blk i _ hi with ⟨rfl, rfl, h3⟩ | ⟨rfl, rfl, b, h3⟩ | ⟨rfl, b, cap, c, h3, h4, h5, h6, h7, h8, h9, h10, h11, us, h12, h13⟩
    · rw [h3]; exact .slnil
    · rw [h3]; exact .slemp
    · rw [h3]
      cases els with
      | nil => exact .slemp
      | cons e0 l0 =>
        have hbo : blkOf β H i = some b := by simp only [blkOf, hi, h3, anchor]; rw [if_neg (by omega)]
        exact .sl us rfl (by simp) (hfz b _ hbo h5) h10 h9 h11 h6 (fun j x e => by rw [Nat.zero_add]; exact h12 j x e) (fun j x e => X.rep (h13 j x e))

theorem Walk.freeze {c : Code} {Q : Post} {D : List Nat} (u i n : Nat) {t : TypeId} {nl : Bool} {els : List AV} (hu : σ u = some (.gr i n)) (hi : lget H i = some (.grow t nl els)) (hn : els.length = n) (x : Walk P N ρ c Q D (updX σ u (.sl nl els)) (H.set i .dead)) : Walk P N ρ c Q D σ H := by
  constructor
  intro E h β a w s
  rw [lget_eq] at hi
  obtain ⟨h', s1, X, hfz⟩ := s.sr.freeze hi
  refine wpIn_mono (x.o E h' _ a w ⟨s1, fun t' r e => ?_, s.size, s.df.ext X⟩) fun _ _ _ => Conc.ext X
  rw [updX_eq] at e; unfold upd at e
  split at e
  · rename_i hh; subst hh; cases e
    obtain ⟨v, h1, h2⟩ := s.fits _ _ hu
    exact ⟨v, h1, gr_frz s.sr hi hn h2 X hfz⟩
  · obtain ⟨v, h1, h2⟩ := s.fits t' r e
    exact ⟨v, h1, X.rep h2⟩
theorem Walk.freezeCell {c : Code} {Q : Post} {D : List Nat} (j o i n : Nat) {cs : List AV} {t : TypeId} {nl : Bool} {els : List AV} (hj : lget H j = some (.cells cs)) (hc : lget cs o = some (.gr i n)) (hi : lget H i = some (.grow t nl els)) (hn : els.length = n)
    (x : Walk P N ρ c Q D σ ((H.set i .dead).set j (.cells (cs.set o (.sl nl els))))) : Walk P N ρ c Q D σ H := by
  constructor
  intro E h β a w s
  rw [lget_eq] at hi hj hc
  have hlo := (List.getElem?_eq_some_iff.1 hc).1
  have hij : i ≠ j := by rintro rfl; rw [hi] at hj; cases hj
  obtain ⟨h', s1, X1, hfz⟩ := s.sr.freeze hi
  have hj1 : (H.set i .dead)[j]? = some (.cells cs) := by rw [List.getElem?_set_ne hij]; exact hj
  obtain ⟨s2, X2⟩ := s1.modify (β' := β) (w' := w) (x' := .cells (cs.set o (.sl nl els))) hj1 (fun _ _ => rfl) (.inr ⟨_, rfl, rfl⟩) s1.env (fun _ _ _ => rfl) (fun b e => .inl (by unfold blkOf; rw [hj1]; exact e)) (fun X => by
    obtain ⟨b, c, t, h1, h2, h3, h4, us, h5, h6⟩ := s.sr.blk j _ hj
    refine ⟨b, c, t, h1, h2, by rw [List.length_set]; exact h3, fun y hy => ?_, us, fun i y e => ?_, fun i y e => ?_⟩
    · rcases List.mem_or_eq_of_mem_set hy with hy | rfl
      · exact h4 y hy
      · rfl
    · by_cases hio : o = i
      · subst hio; exact h5 o _ hc
      · rw [List.getElem?_set_ne hio] at e; exact h5 i y e
    · by_cases hio : o = i
      · subst hio
        rw [List.getElem?_set_self hlo] at e; cases e
        exact gr_frz s.sr hi hn (h6 o _ hc) (X1.trans X) hfz
      · rw [List.getElem?_set_ne hio] at e; exact (X1.trans X).rep (h6 i y e))
  exact wpIn_mono (x.o E h' _ a w ⟨s2, fun u r e => let ⟨v, h1, h2⟩ := s.fits u r e; ⟨v, h1, (X1.trans X2).rep h2⟩, s.size, s.df.ext (X1.trans X2)⟩) fun _ _ _ => Conc.ext (X1.trans X2)

inductive FrzV (i n : Nat) (nl : Bool) (els : List AV) : AV → AV → Prop
  | same {x : AV} : FrzV i n nl els x x
  | gr : FrzV i n nl els (.gr i n) (.sl nl els)
  | agg {cs cs' : List AV} (hl : cs'.length = cs.length) (hone : ∀ x ∈ cs', x.one = true) (ho : ∀ (j : Nat) x', cs'[j]? = some x' → ∃ x, cs[j]? = some x ∧ (x' = x ∨ (x = .gr i n ∧ x' = .sl nl els))) : FrzV i n nl els (.agg cs) (.agg cs')
structure FrzL (i n : Nat) (nl : Bool) (els : List AV) (rs rs' : List AV) : Prop where
  l : rs'.length = rs.length
  o : ∀ (j : Nat) x', rs'[j]? = some x' → ∃ x, rs[j]? = some x ∧ FrzV i n nl els x x'
structure FrzC (i n : Nat) (nl : Bool) (els : List AV) (rs rs' : List AV) : Prop where
  l : rs'.length = rs.length
  o : ∀ (j : Nat) x', rs'[j]? = some x' → ∃ x, rs[j]? = some x ∧ (x' = x ∨ (x = .gr i n ∧ x' = .sl nl els))
section
variable {i n : Nat} {nl : Bool} {els : List AV}
theorem FrzC.nil : FrzC i n nl els [] [] := ⟨rfl, by simp⟩
theorem FrzC.cons {x y : AV} {rs rs' : List AV} (hx : y = x ∨ (x = .gr i n ∧ y = .sl nl els)) (h : FrzC i n nl els rs rs') : FrzC i n nl els (x :: rs) (y :: rs') := by
  refine ⟨by simp [h.l], fun j z e => ?_⟩
  cases j with
  | zero => simp at e; subst e; exact ⟨_, rfl, hx⟩
  | succ j => exact h.o j z (by simpa using e)
theorem FrzC.same {x : AV} {rs rs' : List AV} (h : FrzC i n nl els rs rs') : FrzC i n nl els (x :: rs) (x :: rs') := .cons (.inl rfl) h
theorem FrzC.gr {rs rs' : List AV} (h : FrzC i n nl els rs rs') : FrzC i n nl els (.gr i n :: rs) (.sl nl els :: rs') := .cons (.inr ⟨rfl, rfl⟩) h
theorem FrzL.nil : FrzL i n nl els [] [] := ⟨rfl, by simp⟩
theorem FrzL.cons {x y : AV} {rs rs' : List AV} (hx : FrzV i n nl els x y) (h : FrzL i n nl els rs rs') : FrzL i n nl els (x :: rs) (y :: rs') := by
  refine ⟨by simp [h.l], fun j z e => ?_⟩
  cases j with
  | zero => simp at e; subst e; exact ⟨_, rfl, hx⟩
  | succ j => exact h.o j z (by simpa using e)
theorem FrzL.same {x : AV} {rs rs' : List AV} (h : FrzL i n nl els rs rs') : FrzL i n nl els (x :: rs) (x :: rs') := .cons .same h
theorem FrzL.gr {rs rs' : List AV} (h : FrzL i n nl els rs rs') : FrzL i n nl els (.gr i n :: rs) (.sl nl els :: rs') := .cons .gr h
theorem FrzL.agg {cs cs' rs rs' : List AV} (hone : ∀ x ∈ cs', x.one = true) (hc : FrzC i n nl els cs cs') (h : FrzL i n nl els rs rs') : FrzL i n nl els (.agg cs :: rs) (.agg cs' :: rs') := .cons (.agg hc.l hone hc.o) h
theorem FrzV.rep (s : SR P E h β H w) {t : TypeId} (hi : H[i]? = some (.grow t nl els)) (hn : els.length = n) (X : Ext h β H h' β H') (hfz : ∀ b o, blkOf β H i = some b → w.heap[b]? = some o → h' b = some o) {x y : AV} (hv : FrzV i n nl els x y) {v : Value} (hr : Rep P h β H x v) : Rep P h' β H' y v := by
  cases hv with
  | same => exact X.rep hr
  | gr => exact gr_frz s hi hn hr X hfz
  | agg hl hone ho =>
    cases hr with
    | agg us h1 h2 h3 h4 =>
      refine .agg us (by rw [h1, hl]) hone (fun j x e => ?_) (fun j x e => ?_)
      · obtain ⟨z, e1, _⟩ := ho j x e; exact h3 j z e1
      · obtain ⟨z, e1, e2⟩ := ho j x e
        rcases e2 with rfl | ⟨rfl, rfl⟩
        · exact X.rep (h4 j _ e1)
        · exact gr_frz s hi hn (h4 j _ e1) X hfz
end
theorem XCall.frz {f : FuncId} {rs rs' : List AV} {k : AV → List Blk → Prop} (i n : Nat) {t : TypeId} {nl : Bool} {els : List AV} (hi : lget H i = some (.grow t nl els)) (hn : els.length = n) (hv : FrzL i n nl els rs rs')
    (H' : List Blk) (hH : ∀ E h β w, SR P E h β H w → ∀ h', SR P E h' β (H.set i .dead) w → Ext h β H h' β (H.set i .dead) → (∀ b o, blkOf β H i = some b → w.heap[b]? = some o → h' b = some o) → SR P E h' β H' w ∧ Ext h β H h' β H') (x : XCall P f rs' H' k) : XCall P f rs H k := by
  rw [lget_eq] at hi
  refine ⟨x.o.1, fun E h β w vs s hr => ?_⟩
  obtain ⟨h', s1, X, hfz⟩ := s.freeze hi
  obtain ⟨s2, X2⟩ := hH E h β w s h' s1 X hfz
  have hr' : RepL P h' β H' rs' vs := ⟨by rw [hv.l]; exact hr.1, fun j y e => by
    obtain ⟨z, e1, e2⟩ := hv.o j y e
    obtain ⟨v, e3, e4⟩ := hr.2 j z e1
    exact ⟨v, e3, e2.rep s hi hn X2 hfz e4⟩⟩
  refine (x.o.2 E h' β w vs s2 hr').mono ?_
  rintro e w' ⟨r, H'', h'', β'', v, e1, e2, e3, e4⟩
  exact ⟨r, H'', h'', β'', v, e1, e2, X2.trans e3, e4⟩
theorem XCall.freeze {f : FuncId} {rs rs' : List AV} {k : AV → List Blk → Prop} (i n : Nat) {t : TypeId} {nl : Bool} {els : List AV} (hi : lget H i = some (.grow t nl els)) (hn : els.length = n) (hv : FrzL i n nl els rs rs')
    (x : XCall P f rs' (H.set i .dead) k) : XCall P f rs H k :=
  .frz i n hi hn hv _ (fun _ _ _ _ _ _ s X _ => ⟨s, X⟩) x
theorem XCall.freezeCell {f : FuncId} {rs rs' : List AV} {k : AV → List Blk → Prop} (j o i n : Nat) {cs : List AV} {t : TypeId} {nl : Bool} {els : List AV} (hj : lget H j = some (.cells cs)) (hc : lget cs o = some (.gr i n)) (hi : lget H i = some (.grow t nl els)) (hn : els.length = n)
    (hv : FrzL i n nl els rs rs') (x : XCall P f rs' ((H.set i .dead).set j (.cells (cs.set o (.sl nl els)))) k) : XCall P f rs H k := by
  refine .frz i n hi hn hv _ (fun E h β w s h' s1 X1 hfz => ?_) x
  rw [lget_eq] at hi hj hc
  have hlo := (List.getElem?_eq_some_iff.1 hc).1
  have hij : i ≠ j := by rintro rfl; rw [hi] at hj; cases hj
  have hj1 : (H.set i .dead)[j]? = some (.cells cs) := by rw [List.getElem?_set_ne hij]; exact hj
  obtain ⟨s2, X2⟩ := s1.modify (β' := β) (w' := w) (x' := .cells (cs.set o (.sl nl els))) hj1 (fun _ _ => rfl) (.inr ⟨_, rfl, rfl⟩) s1.env (fun _ _ _ => rfl) (fun b e => .inl (by unfold blkOf; rw [hj1]; exact e)) (fun X => by
    obtain ⟨b, c, t, h1, h2, h3, h4, us, h5, h6⟩ := s.blk j _ hj
    refine ⟨b, c, t, h1, h2, by rw [List.length_set]; exact h3, fun y hy => ?_, us, fun i y e => ?_, fun i y e => ?_⟩
    · rcases List.mem_or_eq_of_mem_set hy with hy | rfl
      · exact h4 y hy
      · rfl
    · by_cases hio : o = i
      · subst hio; exact h5 o _ hc
      · rw [List.getElem?_set_ne hio] at e; exact h5 i y e
    · by_cases hio : o = i
      · subst hio
        rw [List.getElem?_set_self hlo] at e; cases e
        exact gr_frz s hi hn (h6 o _ hc) (X1.trans X) hfz
      · rw [List.getElem?_set_ne hio] at e; exact (X1.trans X).rep (h6 i y e))
  exact ⟨s2, X1.trans X2⟩
end
end GA
end

section
namespace GA
open Go Go.RowKit
set_option linter.unusedVariables false
section
variable {F : Fence} {n : Nat} {P : Program} {Q : Exit → Act → World → Prop} {a : Act} {w : World}
theorem stepR_scope {b : Frame} {k : List Item} {cs : List Frame} {c : Code} : step P (lone (b.atR a (.code (.scope c) :: k)) cs w) = .next (lone (b.atR a (.code c :: .inScope c :: k)) cs w) :=
  step_lone_go (by simp [stepG, stepG.exec, Frame.atR])
theorem stepR_inScope {b : Frame} {k : List Item} {cs : List Frame} {c : Code} : step P (lone (b.atR a (.inScope c :: k)) cs w) = .next (lone (b.atR a k) cs w) :=
  step_lone_go (by simp [stepG, stepG.exec, Frame.atR])
theorem wpIn_scope {c : Code} (h : c.wpIn F n P (Exit.noGoto Q) a w) : (Code.scope c).wpIn F n P Q a w := by
  intro b k cs hro hb hr
  have h0 : (lone (b.atR a (.code (.scope c) :: k)) cs w).fenced P F := fenced_calm hb hr rfl
  obtain ⟨e, a₁, w₁, hq, harr⟩ := h b (.inScope c :: k) cs hro hb hr
  cases e with
  | normal => exact ⟨.normal, a₁, w₁, hq, .head h0 stepR_scope (StepsIn.trans harr (.one (fenced_calm hb hr rfl) stepR_inScope))⟩
  | exit id =>
    have hx : exitTo id (.inScope c :: k) = exitTo id k := by simp [exitTo]
    exact ⟨.exit id, a₁, w₁, hq, fun k' hk => .head h0 stepR_scope (harr.1 k' (by rw [hx]; exact hk)),
      fun hr' hk => let ⟨k₁, h1, h2⟩ := harr.2 hr' (by rw [hx]; exact hk); ⟨k₁, h1, .head h0 stepR_scope h2⟩⟩
  | goto l => exact hq.elim
  | ret => exact ⟨_, a₁, w₁, hq, .of_steps (.one h0 stepR_scope) harr⟩
  | panic ch => exact ⟨_, a₁, w₁, hq, .of_steps (.one h0 stepR_scope) harr⟩
  | outgrown => exact ⟨_, a₁, w₁, hq, .of_steps (.one h0 stepR_scope) harr⟩
end
section
variable {P : Program} {T : Tab} {N : Nat} {ρ : Option Nat} {D : List Nat} {σ : St} {H : List Blk} {Q : Post} {own : List Nat}
def scopeX (Q : Post) : Post
  | .goto _, _, _, _ => False
  | e, D, σ, H => Q e D σ H
theorem Walk.scope {c : Code} (ok : TabOk P T) (own : List Nat) (x : XRun P T N ρ own c (scopeX Q) D σ H) : Walk P N ρ (.scope c) Q D σ H := by
  constructor
  intro E h β a w s
  refine wpIn_scope (wpIn_mono (XRun.sound ok x E h β a w s) ?_)
  rintro e a' w' ⟨D', σ', H', h', β', q, X, s'⟩
  cases e with
  | goto l => exact q.elim
  | _ => exact ⟨D', σ', H', h', β', q, X, s'⟩
theorem Walk.label {l : Nat} (x : Q .normal D σ H) : Walk P N ρ (.label l) Q D σ H :=
  ⟨fun E h β a w s => wpIn_label ⟨D, σ, H, h, β, x, Ext.refl _ _ _, s⟩⟩
end
end GA
end

section
namespace GA
open Go Go.RowKit
set_option linter.unusedVariables false

section
variable {P : Program} {T : Tab} {N : Nat} {ρ : Option Nat} {D : List Nat} {σ : St} {H : List Blk} {Q : Post}

def XKeep (P : Program) (n : Nat) (H : List Blk) (r r' : AV) : Prop := FrozN P n H r r' ∨ (r' = r ∧ r.low n = true)
theorem XKeep.same {n : Nat} {r : AV} (h : r.low n = true) : XKeep P n H r r := .inr ⟨rfl, h⟩
theorem XKeep.gr {n i m : Nat} {t : TypeId} {nl : Bool} {els : List AV} (hi : n ≤ i) (hb : lget H i = some (.grow t nl els)) (hn : els.length = m) (hl : lowL 0 els = true) : XKeep P n H (.gr i m) (.sl nl els) := .inl (.grow hi hb hn hl)
def SubF (P : Program) (n : Nat) (H : List Blk) : List (Nat × AV) → St → Prop
  | [], _ => True
  | (t, r') :: l, σ => (∃ r, σ t = some r ∧ XKeep P n H r r') ∧ SubF P n H l σ
theorem stX_subF {n : Nat} : ∀ {l : List (Nat × AV)} {σ : St}, SubF P n H l σ → ∀ t r, stX l t = some r → ∃ r0, σ t = some r0 ∧ XKeep P n H r0 r
  | [], _, _, _, _, e => by cases e
  | (u, x) :: l, σ, h, t, r, e => by
    simp only [stX, updX_eq, upd] at e
    split at e
    · rename_i h1; subst h1; cases e; exact h.1
    · exact stX_subF h.2 t r e

theorem AWp.loopF {c : Code} {G : Type} (st : G → St) (hp : G → List Blk) (μ : G → Nat) (g0 : G) (hσ : ∀ t r, st g0 t = some r → σ t = some r) (hH : hp g0 = H) (hD : D = [])
    (hlow : ∀ g, ∀ x ∈ hp g, x.low (hp g).length = true) (hlen : ∀ g, (hp g0).length ≤ (hp g).length)
    (round : ∀ g, AWp P N ρ c (thenQ (fun D' σ' H' => D' = D ∧ ∃ g' l, μ g' < μ g ∧ hp g' ++ l = H' ∧ ∀ t r, st g' t = some r → ∃ r0, σ' t = some r0 ∧ XKeep P (hp g').length H' r0 r) Q) D (st g) (hp g)) : AWp P N ρ (.loop c) Q D σ H := by
  intro E h β a w s
  subst hH; subst hD
  let I : G → Act → World → Prop := fun g a w => ∃ h' β', Ext h β (hp g0) h' β' (hp g) ∧ Stands P E N h' β' [] (st g) (hp g) a w
  have least : ∀ a w, (∃ g, I g a w) → ∃ n, (∃ g, I g a w ∧ μ g = n) ∧ ∀ m, m < n → ¬ ∃ g, I g a w ∧ μ g = m :=
    fun a w ⟨g, hg⟩ => exists_least ⟨μ g, g, hg, rfl⟩
  classical
  let M : Act → World → Nat := fun a w => if e : ∃ g, I g a w then Classical.choose (least a w e) else 0
  have hM : ∀ a w (e : ∃ g, I g a w), (∃ g, I g a w ∧ μ g = M a w) ∧ ∀ g, I g a w → M a w ≤ μ g := by
    intro a w e
    have hc := Classical.choose_spec (least a w e)
    have hm : M a w = Classical.choose (least a w e) := by simp only [M, dif_pos e]
    rw [hm]
    refine ⟨hc.1, fun g hg => ?_⟩
    rcases Nat.lt_or_ge (μ g) (Classical.choose (least a w e)) with hlt | hge
    · exact absurd ⟨g, hg, rfl⟩ (hc.2 _ hlt)
    · exact hge
  refine wpIn_loop (fun a w => ∃ g, I g a w) M ⟨g0, h, β, Ext.refl _ _ _, s.sr, fun t r e => s.fits t r (hσ t r e), s.size, s.df⟩ ?_
  intro a' w' hI
  obtain ⟨⟨g, hg, hmu⟩, _⟩ := hM a' w' hI
  obtain ⟨h', β', X, s'⟩ := hg
  refine wpIn_mono (round g E h' β' a' w' s') ?_
  rintro e a'' w'' ⟨D'', σ'', H'', h'', β'', q, X', s''⟩
  cases e with
  | normal =>
    obtain ⟨rfl, g', l, hlt, rfl, hsub⟩ := q
    have XA : Ext h'' β'' (hp g' ++ l) (hallN (hp g').length h'' β'' (hp g' ++ l) w'') β'' (hp g' ++ l) := ⟨fun b o e => hallN_imm s''.sr e, Nat.le_refl _, fun i x x' e e' => by rw [e] at e'; cases e'; exact Blk.to_refl _ _ _⟩
    have hI' : I g' a'' w'' := by
      refine ⟨hallN (hp g').length h'' β'' (hp g' ++ l) w'', β'', ((X.trans X').trans XA).cut (hlen g'), s''.sr.allN (hlow g'), fun t r e => ?_, s''.size, (s''.df.ext XA).any⟩
      obtain ⟨r0, e1, e2⟩ := hsub t r e
      obtain ⟨v, h1, h2⟩ := s''.fits t r0 e1
      rcases e2 with e2 | ⟨rfl, e2⟩
      · exact ⟨v, h1, e2 E h'' β'' w'' s''.sr v h2 (hp g')⟩
      · exact ⟨v, h1, (XA.rep h2).cut e2⟩
    refine ⟨⟨g', hI'⟩, ?_⟩
    have := (hM a'' w'' ⟨g', hI'⟩).2 g' hI'
    omega
  | _ => exact ⟨D'', σ'', H'', h'', β'', q, X.trans X', s''⟩

structure XAgainF {G : Type} (P : Program) (I : G → Prop) (L : G → List (Nat × AV)) (hp : G → List Blk) (μ : G → Nat) (g : G) (D' : List Nat) (σ' : St) (H' : List Blk) : Prop where
  d : D' = []
  o : ∃ g' l, I g' ∧ μ g' < μ g ∧ hp g' ++ l = H' ∧ SubF P (hp g').length H' (L g') σ'
theorem Walk.loopF {c : Code} {G : Type} (ok : TabOk P T) (own : List Nat) (I : G → Prop) (L : G → List (Nat × AV)) (hp : G → List Blk) (μ : G → Nat) (g0 : G) (h0 : I g0) (hH : hp g0 = H) (hs : SubX (L g0) σ)
    (hlow : ∀ g, I g → ∀ x ∈ hp g, x.low (hp g).length = true) (hlen : ∀ g, I g → (hp g0).length ≤ (hp g).length)
    (round : ∀ g, I g → XRun P T N ρ own c (thenQ (XAgainF P I L hp μ g) Q) [] (stX (L g)) (hp g)) : Walk P N ρ (.loop c) Q [] σ H := by
  constructor
  refine AWp.loopF (G := {g : G // I g}) (fun g => stX (L g.1)) (fun g => hp g.1) (fun g => μ g.1) ⟨g0, h0⟩ (stX_sub hs) hH rfl (fun g => hlow g.1 g.2) (fun g => hlen g.1 g.2) fun g => ?_
  refine (XRun.sound ok (round g.1 g.2)).mono fun e D' σ' H' q => ?_
  cases e with
  | normal => obtain ⟨h1, g', l, h2, h3, h4, h5⟩ := q; exact ⟨h1, ⟨g', h2⟩, l, h3, h4, stX_subF h5⟩
  | _ => exact q
theorem XAgainF.go {G : Type} {I : G → Prop} {L : G → List (Nat × AV)} {hp : G → List Blk} {μ : G → Nat} {g : G} (g' : G) (l : List Blk) (h1 : I g') (h2 : μ g' < μ g) (h3 : hp g' ++ l = H) (h4 : SubF P (hp g').length H (L g') σ) : XAgainF P I L hp μ g [] σ H := ⟨rfl, g', l, h1, h2, h3, h4⟩
theorem Walk.keep {c : Code} (ok : TabOk P T) (own : List Nat) (H1 l : List Blk) (L : List (Nat × AV)) (hH : H1 ++ l = H) (hlow : ∀ x ∈ H1, x.low H1.length = true) (hs : SubF P H1.length H L σ) (hD : D = []) (x : XRun P T N ρ own c Q D (stX L) (H1 ++ l.map fun _ => .dead)) : Walk P N ρ c Q D σ H := by
  subst hH; subst hD
  constructor
  intro E h β a w s
  have hd : ∀ (l : List Blk) (i : Nat) x, (l.map fun _ => Blk.dead)[i]? = some x → x = .dead := fun l i x e => by
    rw [List.getElem?_map] at e
    cases hx : l[i]? with
    | none => rw [hx] at e; cases e
    | some y => rw [hx] at e; cases e; rfl
  have hlen : (l.map fun _ => Blk.dead).length = l.length := List.length_map _
  have X : Ext h β (H1 ++ l) (hallN H1.length h β (H1 ++ l) w) β (H1 ++ l.map fun _ => .dead) := by
    refine ⟨fun b o e => hallN_imm s.sr e, by simp, fun i x x' e e' => ?_⟩
    by_cases hi : i < H1.length
    · rw [List.getElem?_append_left hi] at e e'
      rw [e] at e'; cases e'; exact Blk.to_refl _ _ _
    · rw [List.getElem?_append_right (by omega)] at e'
      have := hd _ _ _ e'
      subst this
      cases x <;> first | rfl | trivial | exact .inl rfl
  have s1 := s.sr.allN hlow
  have X1 : Ext (hallN H1.length h β (H1 ++ l) w) β H1 (hallN H1.length h β (H1 ++ l) w) β (H1 ++ l.map fun _ => .dead) :=
    ⟨fun _ _ e => e, by simp, fun i x x' e e' => by rw [List.getElem?_append_left (List.getElem?_eq_some_iff.1 e).1, e] at e'; cases e'; exact Blk.to_refl _ _ _⟩
  have hbo : ∀ i b, blkOf β (H1 ++ l.map fun _ => .dead) i = some b → blkOf β H1 i = some b := fun i b e => by
    have hlt := (blkOf_some e).1
    by_cases hi : i < H1.length
    · rw [← e]; exact (blkOf_congr rfl (List.getElem?_append_left hi)).symm
    · exfalso
      unfold blkOf at e
      cases hx : (H1 ++ l.map fun _ => Blk.dead)[i]? with
      | none => rw [hx] at e; cases e
      | some x =>
        rw [hx] at e
        rw [List.getElem?_append_right (by omega)] at hx
        have := hd _ _ _ hx
        subst this; cases e
  have s2 : SR P E (hallN H1.length h β (H1 ++ l) w) β (H1 ++ l.map fun _ => .dead) w := by
    refine s1.grown X1 s1.env s1.imm (fun i x e => ?_) (fun i j b e1 e2 => s1.own i j b (hbo _ _ e1) (hbo _ _ e2)) (fun i b e => s1.fresh i b (hbo _ _ e)) s1.frm (fun i b e => s1.fro i b (hbo _ _ e))
    by_cases hi : i < H1.length
    · rw [List.getElem?_append_left hi] at e; exact .inl ⟨e, rfl, fun _ _ => rfl⟩
    · rw [List.getElem?_append_right (by omega)] at e
      have := hd _ _ _ e
      subst this; exact .inr trivial
  refine wpIn_mono (XRun.sound ok x E _ β a w ⟨s2, fun t r e => ?_, s.size, s.df.ext X⟩) fun _ _ _ => Conc.ext X
  obtain ⟨r0, e1, e2⟩ := stX_subF hs t r e
  obtain ⟨v, h1, h2⟩ := s.fits t r0 e1
  rcases e2 with e2 | ⟨rfl, e2⟩
  · exact ⟨v, h1, e2 E h β w s.sr v h2 _⟩
  · refine ⟨v, h1, X1.rep (Rep.cut (l := l) ?_ e2)⟩
    have XA : Ext h β (H1 ++ l) (hallN H1.length h β (H1 ++ l) w) β (H1 ++ l) := ⟨fun b o e => hallN_imm s.sr e, Nat.le_refl _, fun i x x' e e' => by rw [e] at e'; cases e'; exact Blk.to_refl _ _ _⟩
    exact XA.rep h2
end
end GA
end

section
namespace GA
open Go Go.RowKit Go.Proofs
section
variable {P : Program} {E : Env} {h : Nat → Option Obj} {β : Nat → Value} {H : List Blk} {w w' : World} {ρ : Go.Shelf.Ren}

theorem setCells_env (b : Nat) : ∀ (vs : List Value) (o : Nat) (w : World), World.env (w.setCells b o vs) = World.env w
  | [], _, _ => rfl
  | v :: r, o, w => by rw [World.setCells, setCells_env b r]; rfl
theorem setCells_other (b : Nat) : ∀ (vs : List Value) (o : Nat) (w : World) (k : Nat), k ≠ b → (w.setCells b o vs).heap[k]? = w.heap[k]?
  | [], _, _, _, _ => rfl
  | v :: r, o, w, k, hk => by
    rw [World.setCells, setCells_other b r _ _ k hk]
    simp only [World.setCell, Array.getElem?_modify]
    rw [if_neg (fun e => hk e.symm)]
theorem setCells_heap (b : Nat) {t : TypeId} {fz : Nat × Nat} : ∀ (vs : List Value) (o : Nat) (w : World) (c : Array Value), w.heap[b]? = some (.cells c t fz) → o + vs.length ≤ c.size →
    ∃ c', (w.setCells b o vs).heap[b]? = some (.cells c' t fz) ∧ c'.size = c.size ∧ ∀ q, c'[q]? = if o ≤ q ∧ q < o + vs.length then vs[q - o]? else c[q]?
  | [], o, w, c, hb, _ => ⟨c, hb, rfl, fun q => by rw [if_neg (fun e => by have := e.2; simp at this; omega)]⟩
  | v :: r, o, w, c, hb, hl => by
    simp only [List.length_cons] at hl
    have h1 : (w.setCell ⟨b, o, none⟩ v).heap[b]? = some (.cells (c.setIfInBounds o v) t fz) := by
      simp only [World.setCell, Array.getElem?_modify]
      simp [hb]
    obtain ⟨c', a1, a2, a3⟩ := setCells_heap b r (o + 1) _ _ h1 (by simp; omega)
    refine ⟨c', a1, by simpa using a2, fun q => ?_⟩
    rw [a3]
    by_cases h0 : q = o
    · subst h0
      rw [if_neg (by omega), if_pos (by simp), Nat.sub_self, Array.getElem?_setIfInBounds, if_pos rfl, if_pos (by omega)]
      rfl
    · by_cases h2 : o + 1 ≤ q ∧ q < o + 1 + r.length
      · rw [if_pos h2, if_pos (by simp only [List.length_cons]; omega)]
        obtain ⟨d, rfl⟩ : ∃ d, q = o + 1 + d := ⟨q - (o + 1), by omega⟩
        rw [show o + 1 + d - (o + 1) = d by omega, show o + 1 + d - o = d + 1 by omega, List.getElem?_cons_succ]
      · rw [if_neg h2, if_neg (by simp only [List.length_cons]; omega), Array.getElem?_setIfInBounds, if_neg (fun e => h0 e.symm)]

def putAt (ys : List Int) (p : Nat) (x : Int) : List Int := ys.take p ++ x :: ys.drop p
theorem putAt_length {ys : List Int} {p : Nat} {x : Int} (hp : p ≤ ys.length) : (putAt ys p x).length = ys.length + 1 := by
  simp only [putAt, List.length_append, List.length_take, List.length_cons, List.length_drop]; omega
theorem putAt_get {ys : List Int} {p : Nat} {x : Int} (hp : p ≤ ys.length) (j : Nat) : (putAt ys p x)[j]? = if j < p then ys[j]? else if j = p then some x else ys[j - 1]? := by
  unfold putAt
  by_cases h1 : j < p
  · rw [if_pos h1, List.getElem?_append_left (by simp; omega), List.getElem?_take, if_pos h1]
  · rw [if_neg h1, List.getElem?_append_right (by simp; omega), List.length_take, Nat.min_eq_left hp]
    by_cases h2 : j = p
    · subst h2; simp
    · rw [if_neg h2]
      obtain ⟨d, rfl⟩ : ∃ d, j = p + 1 + d := ⟨j - (p + 1), by omega⟩
      rw [show p + 1 + d - p = d + 1 by omega, List.getElem?_cons_succ, List.getElem?_drop]
      congr 1; omega
def vint (z : Int) : Value := .int .i64 z
theorem flatI (ys : List Int) : flat (ys.map (AV.int .i64)) = ys.map (AV.int .i64) := by
  induction ys with
  | nil => rfl
  | cons y r ih => simp only [flat, List.map_cons, List.flatMap_cons] at ih ⊢; rw [ih]; rfl
theorem cells_ints {c : Array Value} {ys : List Int} (k : CellsOk P h β H (ys.map (AV.int .i64)) c) (j : Nat) (z : Int) (e : ys[j]? = some z) : c[j]? = some (.int .i64 z) := by
  obtain ⟨us, h1, h2⟩ := k
  have e' : (ys.map (AV.int .i64))[j]? = some (.int .i64 z) := by rw [List.getElem?_map, e]; rfl
  rw [h1 j _ e', rep_int (h2 j _ e')]
theorem ints_cells {c : Array Value} {ys : List Int} (hc : ∀ (j : Nat) z, ys[j]? = some z → c[j]? = some (.int .i64 z)) : CellsOk P h β H (ys.map (AV.int .i64)) c := by
  refine ⟨fun j => .int .i64 (ys.getD j 0), fun j x e => ?_, fun j x e => ?_⟩
  · rw [List.getElem?_map, Option.map_eq_some_iff] at e
    obtain ⟨z, e1, rfl⟩ := e
    rw [hc j z e1]; simp [List.getD, e1]
  · rw [List.getElem?_map, Option.map_eq_some_iff] at e
    obtain ⟨z, e1, rfl⟩ := e
    have e2 : ys.getD j 0 = z := by simp [List.getD, e1]
    simp only [e2]
    exact .int _ _

theorem insert_sr (s : SR P E h β H w) {i p cap b : Nat} {t : TypeId} {nl : Bool} {ys : List Int} {x : Int} (hi : H[i]? = some (.grow t nl (ys.map (AV.int .i64)))) (hp : p ≤ ys.length) (hsz : sz P t = 1)
    (hcap : ys.length + 1 ≤ cap) (hmax : cap ≤ maxLen) (he : World.env w' = World.env w) (hk : ∀ k, k < w.heap.size → blkOf β H i ≠ some k → w'.heap[k]? = w.heap[k]?)
    (hbo : blkOf β H i = some b ∨ w.heap.size ≤ b) {c' : Array Value} (hb : w'.heap[b]? = some (.cells c' t (0, 0))) (hcs : c'.size = cap) (hc : ∀ (j : Nat) z, (putAt ys p x)[j]? = some z → c'[j]? = some (.int .i64 z))
    {k : AV → List Blk → Prop} (hq : k (.gr i (ys.length + 1)) (H.set i (.grow t false ((putAt ys p x).map (AV.int .i64))))) :
    Ends P E h β H k (.returned (.slice (some ⟨b, 0, none⟩) (ys.length + 1) cap)) w' := by
  have hlt := (List.getElem?_eq_some_iff.1 hi).1
  have hpl := putAt_length (x := x) hp
  obtain ⟨s', X⟩ := s.modify (β' := upb β i (.slice (some ⟨b, 0, none⟩) (ys.length + 1) cap)) (w' := w') (x' := .grow t false ((putAt ys p x).map (AV.int .i64))) hi
    (fun j hj => by simp [upb, hj]) (.inr ⟨_, _, rfl, by simp [hpl], fun e => by simp [hpl] at e⟩) (he.trans s.env) hk
    (fun b0 hb => by simp [upb, anchor] at hb; rw [← hb.2]; exact hbo)
    (fun X => .inr (.inr ⟨rfl, b, cap, c', by simp [upb, hpl], by omega, hb, by simpa [hpl] using hcap, hmax, by rw [hsz, hcs, Nat.mul_one], by omega,
      fun e he => by rw [hsz]; obtain ⟨z, _, rfl⟩ := List.mem_map.1 he; rfl, fun e he => by rw [flatI] at he; obtain ⟨z, _, rfl⟩ := List.mem_map.1 he; rfl, by rw [flatI]; exact ints_cells hc⟩))
  refine ⟨_, _, _, _, _, rfl, hq, X, s', .gr rfl (.set hlt rfl) fun t' nl' els' e => ?_⟩
  simp [hlt] at e; obtain ⟨_, _, rfl⟩ := e; exact ⟨by simp [hpl], fun _ => by simp [upb]⟩

theorem ACall.insert (L : Lays2.n21 P ρ) {i j p : Nat} {nl : Bool} {ys : List Int} {x : Int} (hi : H[i]? = some (.grow (ρ.t 3) nl (ys.map (AV.int .i64)))) (hj : H[j]? = some (.grow (ρ.t 3) false [.int .i64 x])) (hij : i ≠ j)
    (hp : p ≤ ys.length) (hn : ys.length ≤ 1000000) {k : AV → List Blk → Prop} (hk : k (.gr i (ys.length + 1)) (H.set i (.grow (ρ.t 3) false ((putAt ys p x).map (AV.int .i64))))) :
    ACall P (ρ.f 21) [.gr i ys.length, .int .i64 p, .gr j 1] H k := by
  refine ⟨⟨_, L.f21, by kernel_rfl, by kernel_rfl⟩, fun E h β w vs s hr => ?_⟩
  obtain ⟨i0, hi0, hz0, hzs, hzb⟩ := info_parts L.i3
  have hsz : sz P (ρ.t 3) = 1 := by simp [sz, hi0, hzs]
  obtain ⟨hl, hr⟩ := hr
  match vs, hl, hr with
  | [v0, v1, v2], _, hr =>
  obtain ⟨_, e0, r0⟩ := hr 0 _ rfl
  obtain ⟨_, e1, r1⟩ := hr 1 _ rfl
  obtain ⟨_, e2, r2⟩ := hr 2 _ rfl
  cases e0; cases e1; cases e2
  have hv0 : v0 = β i := by cases r0 with | gr ho hii hv => exact (hv _ _ _ hi).2 (by simp)
  have hv2 : v2 = β j := by cases r2 with | gr ho hii hv => exact (hv _ _ _ hj).2 rfl
  have hv1 := rep_int r1
  subst hv0 hv1 hv2
  refine callsIn_wide.2 ?_
  rcases s.blk j _ hj with ⟨_, h7, _⟩ | ⟨_, h7, _⟩ | ⟨_, vb, vc, cv, j8, j9, j10, j11, j12, j13, j14, j15, j16, j17⟩
  · cases h7
  · cases h7
  have hvx : cv[0]? = some (.int .i64 x) := cells_ints (ys := [x]) (by simpa [flat, AV.cells] using j17) 0 x rfl
  have hjo : blkOf β H j = some vb := by simp [blkOf, hj, j8, anchor]; omega
  have hvs : ∀ (q : Nat) v, [vint x][q]? = some v → w.cell? ⟨vb, 0 + q, none⟩ = some v := fun q v e => by
    have hq : q = 0 := by have := (List.getElem?_eq_some_iff.1 e).1; simp at this; exact this
    subst hq; cases e
    rw [cell?_of j10]; exact hvx
  have hcsl : (ys.map vint).length = ys.length := by simp
  have h1c : ∀ v ∈ ys.map vint, v.oneCell' = true := fun v hv => by obtain ⟨z, _, rfl⟩ := List.mem_map.1 hv; rfl
  have h1v : ∀ v ∈ [vint x], v.oneCell' = true := fun v hv => by rw [List.mem_singleton.1 hv]; rfl
  have hzc : ∀ q, (Builtin.zeroCells (Value.int IntKind.i64 0).cells q).size = q := fun q => by rw [size_zeroCells]; exact Nat.mul_one q
  have hge := fun cap => grownCap_ge w (ys.length + 1) cap (ρ.t 3)
  have hle := fun cap => grownCap_le_maxLen w (ys.length + 1) cap (ρ.t 3) (by simp only [maxLen]; omega)
  -- the new row at the end
  have fresh_end : ∀ (base : Option Addr) (c : Nat), β i = .slice base ys.length c → ys.length ≤ c → c < ys.length + 1 → p = ys.length → (base = none → ys.length = 0) →
      (∀ a, base = some a → ∀ (q : Nat) v, (ys.map vint)[q]? = some v → w.cell? (a.add q) = some v) →
      Calls P (ρ.f 21) [β i, .int .i64 p, β j].toArray w (Ends P E h β H k) := by
    intro base c hb hnc hroom hpn hnil hcs
    rw [hb, j8, hpn]
    refine (Any2.slices_Insert_int_end_grow L base ys.length c vb 0 1 vc (ys.map vint) [vint x] w (by omega) hnc hroom (by omega) hcsl rfl hnil hcs hvs h1v).mono ?_
    rintro e w' ⟨rfl, rfl⟩
    refine insert_sr (w' := w.drew.alloc _) s hi (by omega : p ≤ ys.length) hsz (hge c) (hle c) rfl (fun k hk _ => Below.heap_alloc w.drew _ _ hk) (.inr (Nat.le_refl _)) (heap_alloc_new w.drew _) ?_ ?_ hk
    · simp only [Array.size_append, List.size_toArray, List.length_append, List.length_map, List.length_singleton, hzc]; have := hge c; omega
    · intro q z e
      rw [putAt_get hp] at e
      have hlq : q < ys.length + 1 := by
        split at e
        · omega
        · split at e
          · omega
          · have := (List.getElem?_eq_some_iff.1 e).1; omega
      rw [Array.getElem?_append_left (by simpa using hlq), List.getElem?_toArray]
      by_cases h1 : q < p
      · rw [if_pos h1] at e
        rw [List.getElem?_append_left (by simp; omega), List.getElem?_map, e]; rfl
      · rw [if_neg h1] at e
        have h2 : q = p := by omega
        rw [if_pos h2] at e; cases e
        rw [List.getElem?_append_right (by simp; omega), h2, hpn]; simp [vint]
  rcases s.blk i _ hi with ⟨h6, h7, h8⟩ | ⟨h6, h7, a0, h8⟩ | ⟨h6, b, cap, c, h8, h9, h10, h11, h12, h13, h14, h15, h16, h17⟩
  · have h7' : ys = [] := by simpa using h7
    subst h7'
    exact fresh_end none 0 h8 (by simp) (by simp) (by simpa using hp) (fun _ => rfl) (fun a e => by cases e)
  · have h7' : ys = [] := by simpa using h7
    subst h7'
    exact fresh_end (some a0) 0 h8 (by simp) (by simp) (by simpa using hp) (fun e => by cases e) (fun a e q v e' => by simp at e')
  · rw [flatI] at h17
    rw [hsz, Nat.mul_one] at h13
    simp only [List.length_map] at h8 h11
    have hcell := cells_ints h17
    have hcs : ∀ (q : Nat) v, (ys.map vint)[q]? = some v → w.cell? ⟨b, 0 + q, none⟩ = some v := fun q v e => by
      rw [List.getElem?_map, Option.map_eq_some_iff] at e
      obtain ⟨z, e1, rfl⟩ := e
      rw [cell?_of h10, Nat.zero_add]; exact hcell q z e1
    have hbo : blkOf β H i = some b := by simp [blkOf, hi, h8, anchor]; omega
    have hvb : vb ≠ b := fun e => hij (s.own i j b hbo (by rw [hjo, e]))
    by_cases hroom : ys.length + 1 ≤ cap
    · have hsp : ∀ q, q < ys.length + 1 → (w.cell? ⟨b, 0 + q, none⟩).isSome = true := fun q hq => by
        rw [cell?_of h10, Nat.zero_add, Array.getElem?_eq_getElem (by omega)]; rfl
      have hfz : ∀ (q : Nat), w.frozen? ⟨b, q, none⟩ = false := fun q => by simp [World.frozen?, h10]
      by_cases hpn : p = ys.length
      · rw [h8, j8, hpn]
        refine (Any2.slices_Insert_int_end_room L b 0 ys.length cap vb 0 1 vc [vint x] w (by omega) hroom (by simp only [maxLen] at h12; omega) rfl
          (fun q hq => by rw [Nat.zero_add, cell?_of h10, Array.getElem?_eq_getElem (by omega)]; rfl) (fun q hq => hfz _) hvs h1v).mono ?_
        rintro e w' ⟨rfl, rfl⟩
        obtain ⟨c', g1, g2, g3⟩ := setCells_heap b [vint x] (0 + ys.length) w c h10 (by simp; omega)
        refine insert_sr s hi hp hsz hroom h12 (setCells_env _ _ _ _) (fun k _ hne => setCells_other _ _ _ _ _ (fun e => hne (by rw [hbo, e]))) (.inl hbo) g1 (by omega) ?_ hk
        intro q z e
        rw [putAt_get hp] at e
        rw [g3]
        by_cases h1 : q < p
        · rw [if_pos h1] at e
          rw [if_neg (by omega)]; exact hcell q z e
        · rw [if_neg h1] at e
          by_cases h2 : q = p
          · rw [if_pos h2] at e; cases e
            rw [if_pos (by simp; omega)]; rw [h2, hpn]; simp [vint]
          · rw [if_neg h2] at e; have := (List.getElem?_eq_some_iff.1 e).1; omega
      · rw [h8, j8]
        refine (Any2.slices_Insert_int_shift L b 0 ys.length cap p vb 0 1 vc (ys.map vint) [vint x] w (by omega) (by omega) hroom (by simp only [maxLen] at h12; omega) hvb hcsl rfl hcs hsp (fun q _ => hfz _) hvs h1c h1v
          (ρ.t 3) (ρ.t 3) cv.size c.size (by simp [World.shape?, j10]) (by simp [World.shape?, h10]) (by omega) (by simp [World.frozen?, j10]) (by simp [World.frozen?, j10])).mono ?_
        rintro e w' ⟨rfl, rfl⟩
        obtain ⟨c1, f1, f2, f3⟩ := setCells_heap b ((ys.map vint).drop p) (0 + (p + 1)) w.drew c h10 (by simp; omega)
        obtain ⟨c', g1, g2, g3⟩ := setCells_heap b [vint x] (0 + p) _ c1 f1 (by simp; omega)
        refine insert_sr (w' := (w.drew.setCells b (0 + (p + 1)) ((ys.map vint).drop p)).setCells b (0 + p) [vint x]) s hi hp hsz hroom h12 ((setCells_env _ _ _ _).trans ((setCells_env _ _ _ _).trans rfl)) (fun k _ hne => (setCells_other _ _ _ _ _ (fun e => hne (by rw [hbo, e]))).trans (setCells_other _ _ _ _ _ (fun e => hne (by rw [hbo, e])))) (.inl hbo) g1 (by omega) ?_ hk
        intro q z e
        rw [putAt_get hp] at e
        rw [g3]
        by_cases h1 : q < p
        · rw [if_pos h1] at e
          rw [if_neg (by omega), f3, if_neg (by omega)]; exact hcell q z e
        · rw [if_neg h1] at e
          by_cases h2 : q = p
          · rw [if_pos h2] at e; cases e
            rw [if_pos (by simp; omega)]; rw [h2]; simp [vint]
          · rw [if_neg h2] at e
            have h3 := (List.getElem?_eq_some_iff.1 e).1
            rw [if_neg (by simp; omega), f3, if_pos (by simp; omega), List.getElem?_drop, List.getElem?_map, show p + (q - (0 + (p + 1))) = q - 1 by omega, e]; rfl
    · by_cases hpn : p = ys.length
      · exact fresh_end (some ⟨b, 0, none⟩) cap h8 h11 (by omega) hpn (fun e => by cases e) (fun a e q v e' => by cases e; have := hcs q v e'; rw [addr_add]; exact this)
      · rw [h8, j8]
        refine (Any2.slices_Insert_int_grow L b 0 ys.length cap p vb 0 1 vc (ys.map vint) [vint x] w (by omega) (by omega) h11 (by omega) (by omega) hcsl rfl hcs hvs h1c h1v).mono ?_
        rintro e w' ⟨rfl, rfl⟩
        obtain ⟨R, hR⟩ : ∃ R : Array Value, R = (((ys.map vint).take p).toArray ++ Builtin.zeroCells (Value.int .i64 0).cells (ys.length + 1 - p) ++ Builtin.zeroCells (Value.int .i64 0).cells (grownCap w (ys.length + 1) cap (ρ.t 3) - (ys.length + 1))) := ⟨_, rfl⟩
        have hRs : R.size = grownCap w (ys.length + 1) cap (ρ.t 3) := by
          rw [hR]; simp only [Array.size_append, List.size_toArray, List.length_take, List.length_map, hzc]; have := hge cap; omega
        rw [← hR]
        have hgc := hge cap
        have f0 : (w.alloc (.cells R (ρ.t 3))).drew.heap[w.heap.size]? = some (.cells R (ρ.t 3) (0, 0)) := heap_alloc_new w _
        obtain ⟨c1, f1, f2, f3⟩ := setCells_heap w.heap.size [vint x] p _ R f0 (by simp; omega)
        have f1' : ((w.alloc (.cells R (ρ.t 3))).drew.setCells w.heap.size p [vint x]).drew.heap[w.heap.size]? = some (.cells c1 (ρ.t 3) (0, 0)) := f1
        obtain ⟨c', g1, g2, g3⟩ := setCells_heap w.heap.size ((ys.map vint).drop p) (p + 1) _ c1 f1' (by simp; omega)
        refine insert_sr (w' := ((w.alloc (.cells R (ρ.t 3))).drew.setCells w.heap.size p [vint x]).drew.setCells w.heap.size (p + 1) ((ys.map vint).drop p)) s hi hp hsz (hge cap) (hle cap) ((setCells_env _ _ _ _).trans ((setCells_env _ _ _ _).trans rfl)) (fun k hk _ => (setCells_other _ _ _ _ _ (by omega)).trans ((setCells_other _ _ _ _ _ (by omega)).trans (Below.heap_alloc w _ _ hk))) (.inr (Nat.le_refl _)) g1 (by omega) ?_ hk
        intro q z e
        rw [putAt_get hp] at e
        rw [g3]
        by_cases h1 : q < p
        · rw [if_pos h1] at e
          rw [if_neg (by omega), f3, if_neg (by omega), hR, Array.getElem?_append_left (by simp [hzc]; omega), Array.getElem?_append_left (by simp; omega), List.getElem?_toArray, List.getElem?_take, if_pos h1, List.getElem?_map, e]; rfl
        · rw [if_neg h1] at e
          by_cases h2 : q = p
          · rw [if_pos h2] at e; cases e
            rw [if_neg (by omega), f3, if_pos (by simp; omega)]; rw [h2]; simp [vint]
          · rw [if_neg h2] at e
            have h3 := (List.getElem?_eq_some_iff.1 e).1
            rw [if_pos (by simp; omega), List.getElem?_drop, List.getElem?_map, show p + (q - (p + 1)) = q - 1 by omega, e]; rfl

structure Late (G : Prop) : Prop where
  g : G
theorem XGetM.row {es : List (Int × AV)} {n : Int} {k : AV → Prop} (i : Nat) {te : TypeId} {nl : Bool} {els : List AV} (hi : lget H i = some (.grow te nl els)) (hnl : nl = els.isEmpty) (he : mget n es = if els.isEmpty = true then none else some (.gr i els.length)) (h : k (.gr i els.length)) : XGetM H (.sl true []) false n es k := by
  rw [lget_eq] at hi
  cases els with
  | nil => subst hnl; exact ⟨.inr ⟨rfl, rfl, he, i, te, hi, h⟩⟩
  | cons e els => exact ⟨.inl (by rw [he]; exact h)⟩
structure FrzE (i n : Nat) (nl : Bool) (els : List AV) (es es' : List (Int × AV)) : Prop where
  k : es'.map (·.1) = es.map (·.1)
  o : ∀ (j : Nat) q x', es'[j]? = some (q, x') → ∃ x, es[j]? = some (q, x) ∧ (x' = x ∨ (x = .gr i n ∧ x' = .sl nl els))
end
end GA
end

section
namespace GA
open Go Go.RowKit Go.Proofs
set_option pp.deepTerms true
set_option maxRecDepth 8000
set_option linter.unusedVariables false
set_option linter.unusedSimpArgs false

theorem mixed_ok : Try.prog.follows .mixedOrders = true := by kernel_rfl

theorem find_none {α : Type} {p : α → Bool} {xs : List α} {d : α} (h : ∀ j, j < xs.length → p (xs.getD j d) = false) : xs.findIdx? p = none := by
  rw [List.findIdx?_eq_none_iff]; intro x hx
  obtain ⟨j, hj, rfl⟩ := List.mem_iff_getElem.1 hx
  have := h j hj; rwa [List.getD_eq_getElem?_getD, List.getElem?_eq_getElem hj] at this
theorem find_some {α : Type} {p : α → Bool} {xs : List α} {d : α} {i : Nat} (hi : i < xs.length) (hp : p (xs.getD i d) = true) (h : ∀ j, j < i → p (xs.getD j d) = false) : xs.findIdx? p = some i := by
  rw [List.findIdx?_eq_some_iff_getElem]
  refine ⟨hi, by rwa [List.getD_eq_getElem?_getD, List.getElem?_eq_getElem hi] at hp, fun j hj => ?_⟩
  have := h j hj; rw [List.getD_eq_getElem?_getD, List.getElem?_eq_getElem (by omega)] at this; simpa using this
theorem getD_mem {α : Type} {xs : List α} {d : α} {i : Nat} (hi : i < xs.length) : xs.getD i d ∈ xs := by
  rw [List.getD_eq_getElem?_getD, List.getElem?_eq_getElem hi]; exact List.getElem_mem hi
def idxR {α : Type} (p : α → Bool) (xs : List α) : Int := match xs.findIdx? p with | some i => i | none => -1
theorem idxR_pos {α : Type} {p : α → Bool} {xs : List α} : (0 ≤ idxR p xs) ↔ xs.any p = true := by
  unfold idxR
  cases h : xs.findIdx? p with
  | none => rw [List.findIdx?_eq_none_iff] at h; simp; intro x hx; simpa using h x hx
  | some i =>
    rw [List.findIdx?_eq_some_iff_getElem] at h; obtain ⟨h1, h2, _⟩ := h
    simp; exact ⟨_, List.getElem_mem h1, h2⟩

def inB (n lo hi : Int) : Bool := decide (lo ≤ n) && decide (n ≤ hi)
theorem in_c (n lo hi : Int) : Comp Try.prog 64 [.int .i64 n, .int .i64 lo, .int .i64 hi] (.bool (inB n lo hi)) := by
  refine Comp.body (T := tab) (res := [.tmp 6]) tab_ok [] Try.func64 rfl (by kernel_rfl) Try.ntmps64 rfl (by simp only [List.length_cons, List.length_nil]; decide) (by rfl) ?_; conv => whnf
  repeat' first | ((first | (with_reducible apply XBr.tt) | (with_reducible apply XBr.ff)); conv => whnf) | ((with_reducible apply XBr.dec) <;> (intro h; first | (exfalso; omega) | ((try simp only [List.length_map] at h); first | (exfalso; omega) | (conv => whnf)))) | fail
  all_goals (refine XOut.bool ?_; rw [Bool.eq_iff_iff]; simp [inB]; try omega)

theorem idxf_int (nl : Bool) (xs : List Int) (g : FuncId) (caps : List AV) (p : Int → Bool) (hl : lowL 0 caps = true) (hx : xs.length ≤ 100000) (hp : ∀ x ∈ xs, Comp Try.prog g (.int .i64 x :: caps) (.bool (p x))) :
    Comp Try.prog 70 [.sl nl (ints xs), .fn g caps] (.int .i64 (idxR p xs)) := by
  refine Comp.body (T := tab) (res := [.tmp 4]) tab_ok [] Try.func70 rfl (by kernel_rfl) Try.ntmps70 rfl (by simp only [List.length_cons, List.length_nil]; decide) (by simp only [lowL, AV.low, lowI, hl]; rfl) ?_; conv => whnf
  refine Walk.loop tab_ok [] (fun i : Nat => i ≤ xs.length ∧ ∀ j, j < i → p (xs.getD j default) = false) (fun i => [(0, .sl nl (ints xs)), (1, .fn g caps), (7, .int .i64 xs.length), (8, .int .i64 i)]) (fun _ => []) (fun i => xs.length - i) 0 ⟨by omega, by omega⟩ rfl ⟨rfl, rfl, by simp only [List.length_map]; rfl, rfl, trivial⟩ ?_
  rintro i ⟨h2, h3⟩
  conv => whnf
  repeat' first | ((with_reducible apply XBr.dec) <;> (intro h; first | (exfalso; omega) | ((try simp only [List.length_map] at h); first | (exfalso; omega) | (conv => whnf)))) | (((with_reducible refine XIx.nat ?_ ?_ ?_); omega; (intro _; rfl)); conv => whnf) | fail
  · refine XCall.ret (hp _ (getD_mem (i := i) (d := default) (by omega))) ?_
    conv => whnf
    refine XBr.mk' ?_ ?_ <;> intro h4 <;> (conv => whnf)
    · refine XOut.int ?_
      simp only [idxR, find_some (d := default) (i := i) (by omega) h4 h3]
    · skip
      repeat' first | ((with_reducible refine XInt.i64 (by omega) (by omega) ?_); conv => whnf) | fail
      refine XAgain.go (i + 1) ⟨by omega, fun j hj => ?_⟩ (by omega) rfl ⟨rfl, rfl, rfl, rfl, trivial⟩
      by_cases hji : j = i
      · subst hji; exact h4
      · exact h3 j (by omega)
  · refine XOut.int ?_
    simp only [idxR, find_none (d := default) fun j hj => h3 j (by omega)]
theorem contf_int (nl : Bool) (xs : List Int) (g : FuncId) (caps : List AV) (p : Int → Bool) (hl : lowL 0 caps = true) (hx : xs.length ≤ 100000) (hp : ∀ x ∈ xs, Comp Try.prog g (.int .i64 x :: caps) (.bool (p x))) :
    Comp Try.prog 142 [.sl nl (ints xs), .fn g caps] (.bool (xs.any p)) := by
  refine Comp.body (T := tab) (res := [.tmp 4]) tab_ok [] Try.func142 rfl (by kernel_rfl) Try.ntmps142 rfl (by simp only [List.length_cons, List.length_nil]; decide) (by simp only [lowL, AV.low, lowI, hl]; rfl) ?_; conv => whnf
  refine XCall.ret (idxf_int nl xs g caps p hl hx hp) ?_
  conv => whnf
  refine XOut.bool ?_
  rw [Bool.eq_iff_iff, decide_eq_true_eq]; exact idxR_pos
theorem every1_int (x : Int) (g : FuncId) (caps : List AV) (p : Int → Bool) (hl : lowL 0 caps = true) (hp : Comp Try.prog g (.int .i64 x :: caps) (.bool (p x))) :
    Comp Try.prog 167 [.int .i64 x, .pim [.fn g caps]] (.bool (!p x)) := by
  refine Comp.body (T := tab) (res := [.tmp 3]) tab_ok [] Try.func167 rfl (by kernel_rfl) Try.ntmps167 rfl (by simp only [List.length_cons, List.length_nil]; decide) (by simp only [lowL, AV.low, hl]; rfl) ?_; conv => whnf
  refine XCall.ret hp ?_
  conv => whnf
  exact XOut.bool rfl
theorem every_int (nl : Bool) (xs : List Int) (g : FuncId) (caps : List AV) (p : Int → Bool) (hl : lowL 0 caps = true) (hx : xs.length ≤ 100000) (hp : ∀ x ∈ xs, Comp Try.prog g (.int .i64 x :: caps) (.bool (p x))) :
    Comp Try.prog 150 [.sl nl (ints xs), .fn g caps] (.bool (xs.all p)) := by
  refine Comp.body (T := tab) (res := [.tmp 4]) tab_ok [] Try.func150 rfl (by kernel_rfl) Try.ntmps150 rfl (by simp only [List.length_cons, List.length_nil]; decide) (by simp only [lowL, AV.low, lowI, hl]; rfl) ?_; conv => whnf
  refine XCall.ret (contf_int nl xs 167 [.pim [.fn g caps]] (fun x => !p x) (by simp only [lowL, AV.low, hl]; rfl) hx fun x hm => every1_int x g caps p hl (hp x hm)) ?_
  conv => whnf
  refine XOut.bool ?_
  rw [List.not_any_eq_all_not]; simp
theorem riddled1_c (x : Int) : Comp Try.prog 149 [.int .i64 x] (.bool (inB x 1 40)) := by
  refine Comp.body (T := tab) (res := [.tmp 2]) tab_ok [] Try.func149 rfl (by kernel_rfl) Try.ntmps149 rfl (by simp only [List.length_cons, List.length_nil]; decide) (by rfl) ?_; conv => whnf
  refine XCall.ret (in_c _ _ _) ?_
  conv => whnf
  exact XOut.bool rfl
def riddledR (xs : List Int) (g : Int) : Int := if 100 < xs.length then 2 else if xs.all (inB · 1 40) && inB g 1 40 then 0 else 3
theorem riddled_c (nl : Bool) (xs : List Int) (g : Int) (hx : xs.length ≤ 100000) : Comp Try.prog 117 [.sl nl (ints xs), .int .i64 g] (.int .i64 (riddledR xs g)) := by
  refine Comp.body (T := tab) (res := [.tmp 4]) tab_ok [] Try.func117 rfl (by kernel_rfl) Try.ntmps117 rfl (by simp only [List.length_cons, List.length_nil]; decide) (by simp only [lowL, AV.low, lowI]; rfl) ?_; conv => whnf
  repeat' first | ((with_reducible apply XBr.dec) <;> (intro h; first | (exfalso; omega) | ((try simp only [List.length_map] at h); first | (exfalso; omega) | (conv => whnf)))) | fail
  · refine XOut.int ?_
    unfold riddledR; rw [if_pos (by omega)]
  refine XCall.ret (every_int nl xs 149 [] (inB · 1 40) rfl hx fun x _ => riddled1_c x) ?_
  conv => whnf
  refine XBr.not (XBr.mk' ?_ ?_) <;> intro h4 <;> (conv => whnf)
  · skip
    repeat' first | ((with_reducible apply XBr.ff); conv => whnf) | fail
    refine XCall.ret (riddled1_c _) ?_
    conv => whnf
    repeat' first | ((with_reducible apply XBr.ff); conv => whnf) | (with_reducible apply XBr.not) | ((with_reducible apply XBr.mk') <;> (intro h; conv => whnf)) | fail
    · refine XOut.int ?_
      unfold riddledR; rw [if_neg (by omega)]; simp [h4, h]
    · refine XOut.int ?_
      unfold riddledR; rw [if_neg (by omega)]; simp [h4, h]
  · skip
    repeat' first | ((with_reducible apply XBr.tt); conv => whnf) | fail
    refine XOut.int ?_
    unfold riddledR; rw [if_neg (by omega)]; simp [h4]
theorem eq_of_getD {α : Type} {xs ys : List α} {d : α} (hl : xs.length = ys.length) (h : ∀ j, j < xs.length → xs.getD j d = ys.getD j d) : xs = ys := by
  apply List.ext_getElem hl
  intro j h1 h2
  have := h j h1
  rwa [List.getD_eq_getElem?_getD, List.getD_eq_getElem?_getD, List.getElem?_eq_getElem h1, List.getElem?_eq_getElem h2] at this

theorem equal_int (n1 n2 : Bool) (xs ys : List Int) (hx : xs.length ≤ 100000) : Comp Try.prog 122 [.sl n1 (ints xs), .sl n2 (ints ys)] (.bool (xs == ys)) := by
  refine Comp.body (T := tab) (res := [.tmp 4]) tab_ok [] Try.func122 rfl (by kernel_rfl) Try.ntmps122 rfl (by simp only [List.length_cons, List.length_nil]; decide) (by simp only [lowL, AV.low, lowI]; rfl) ?_; conv => whnf
  repeat' first | ((with_reducible apply XBr.bne) <;> (intro h; first | (exfalso; omega) | (conv => whnf))) | fail
  · refine XOut.bool ?_
    rw [Bool.eq_iff_iff]; simp; intro e; subst e; simp at h
  have hl : (xs.length : Int) = ys.length := by simpa using h
  refine Walk.loop tab_ok [] (fun i : Nat => i ≤ xs.length ∧ ∀ j, j < i → xs.getD j default = ys.getD j default) (fun i => [(0, .sl n1 (ints xs)), (1, .sl n2 (ints ys)), (12, .int .i64 xs.length), (13, .int .i64 i)]) (fun _ => []) (fun i => xs.length - i) 0 ⟨by omega, by omega⟩ rfl ⟨rfl, rfl, by simp only [List.length_map]; rfl, rfl, trivial⟩ ?_
  rintro i ⟨h2, h3⟩
  conv => whnf
  repeat' first | ((with_reducible apply XBr.dec) <;> (intro h; first | (exfalso; omega) | ((try simp only [List.length_map] at h); first | (exfalso; omega) | (conv => whnf)))) | fail
  · apply Walk.drawX tab_ok mixed_ok [] [] (fun _ => []) [_, _, _, _, _, _, _, _, _] (by kernel_rfl) rfl
    · skip
      repeat' first | (((with_reducible refine XIx.nat ?_ ?_ ?_); omega; (intro _; rfl)); conv => whnf) | (with_reducible apply XAnd.mk) | ((first | (with_reducible apply Chk.go) | (with_reducible apply ChkA.go)); conv => whnf) | (exact XSame.mk rfl rfl) | (with_reducible exact trivial) | fail
    · skip
      repeat' first | (with_reducible apply XAnd.mk) | ((first | (with_reducible apply ChkF.go) | (with_reducible apply ChkB.go)); conv => whnf) | (with_reducible exact trivial) | fail
    · conv => whnf
      repeat' first | ((with_reducible apply XBr.bne) <;> (intro h; first | (exfalso; omega) | (conv => whnf))) | ((with_reducible refine XInt.i64 (by omega) (by omega) ?_); conv => whnf) | fail
      · refine XOut.bool ?_
        rw [Bool.eq_iff_iff]; simp
        intro e; subst e; exact h rfl
      · refine XAgain.go (i + 1) ⟨by omega, fun j hj => ?_⟩ (by omega) rfl ⟨rfl, rfl, rfl, rfl, trivial⟩
        by_cases hji : j = i
        · subst hji; exact h
        · exact h3 j (by omega)
  · refine XOut.bool ?_
    have := eq_of_getD (by omega) fun j hj => h3 j (by omega)
    rw [this]; simp
theorem eq_int (n1 n2 : Bool) (xs ys : List Int) (hx : xs.length ≤ 100000) : Comp Try.prog 76 [.sl n1 (ints xs), .sl n2 (ints ys)] (.bool (xs == ys)) := by
  refine Comp.body (T := tab) (res := [.tmp 4]) tab_ok [] Try.func76 rfl (by kernel_rfl) Try.ntmps76 rfl (by simp only [List.length_cons, List.length_nil]; decide) (by simp only [lowL, AV.low, lowI]; rfl) ?_; conv => whnf
  refine XCall.ret (equal_int n1 n2 xs ys hx) ?_
  conv => whnf
  exact XOut.bool rfl

def keptL (xs : List Int) (g : Int) : List Int := xs.filter fun x => decide (g ≤ x)
def thruL (xs : List Int) (g : Int) : List Int := xs.filter fun x => decide (x < g)
theorem kept_next {xs : List Int} {g : Int} {i : Nat} (h : i < xs.length) : keptL (xs.take (i + 1)) g = if g ≤ xs.getD i default then keptL (xs.take i) g ++ [xs.getD i default] else keptL (xs.take i) g := by
  unfold keptL; rw [take_next h, List.filter_append]
  by_cases hg : g ≤ xs.getD i default
  · rw [if_pos hg, List.filter_cons_of_pos (by simpa only [decide_eq_true_eq] using hg)]; rfl
  · rw [if_neg hg, List.filter_cons_of_neg (by simpa only [decide_eq_true_eq] using hg)]; simp only [List.filter_nil, List.append_nil]
theorem thru_next {xs : List Int} {g : Int} {i : Nat} (h : i < xs.length) : thruL (xs.take (i + 1)) g = if xs.getD i default < g then thruL (xs.take i) g ++ [xs.getD i default] else thruL (xs.take i) g := by
  unfold thruL; rw [take_next h, List.filter_append]
  by_cases hg : xs.getD i default < g
  · rw [if_pos hg, List.filter_cons_of_pos (by simpa only [decide_eq_true_eq] using hg)]; rfl
  · rw [if_neg hg, List.filter_cons_of_neg (by simpa only [decide_eq_true_eq] using hg)]; simp only [List.filter_nil, List.append_nil]
theorem kept_le (xs : List Int) (g : Int) (i : Nat) : (keptL (xs.take i) g).length ≤ xs.length := by
  have h1 := List.length_filter_le (fun x => decide (g ≤ x)) (xs.take i)
  have h2 : (xs.take i).length = min i xs.length := List.length_take
  unfold keptL; omega
theorem thru_le (xs : List Int) (g : Int) (i : Nat) : (thruL (xs.take i) g).length ≤ xs.length := by
  have h1 := List.length_filter_le (fun x => decide (x < g)) (xs.take i)
  have h2 : (xs.take i).length = min i xs.length := List.length_take
  unfold thruL; omega
def slA (xs : List Int) : AV := .sl xs.isEmpty (ints xs)
def riddleA (xs : List Int) (g : Int) : AV := .tup [slA (keptL xs g), slA (thruL xs g), .int .i64 0]
def riddleR (xs : List Int) (g : Int) : AV := if riddledR xs g = 0 then riddleA xs g else .tup [.sl true [], .sl true [], .int .i64 (riddledR xs g)]

theorem riddle_c (nl : Bool) (xs : List Int) (g : Int) (hx : xs.length ≤ 100000) : Comp Try.prog 73 [.sl nl (ints xs), .int .i64 g] (riddleR xs g) := by
  refine Comp.body (T := tab) (res := [.tmp 4, .tmp 5, .tmp 6]) tab_ok [] Try.func73 rfl (by kernel_rfl) Try.ntmps73 rfl (by simp only [List.length_cons, List.length_nil]; decide) (by simp only [lowL, AV.low, lowI]; rfl) ?_; conv => whnf
  refine XCall.ret (riddled_c nl xs g hx) ?_
  conv => whnf
  repeat' first | ((with_reducible apply XBr.bne) <;> (intro h; first | (exfalso; omega) | (conv => whnf))) | fail
  · refine ⟨?_⟩
    unfold riddleR; rw [if_neg h]
    exact Froz.low rfl
  · refine Walk.nilgr 4 3 rfl (Walk.nilgr 5 3 rfl ?_)
    refine Walk.loop tab_ok [] (fun i : Nat => i ≤ xs.length) (fun i => [(0, .sl nl (ints xs)), (1, .int .i64 g), (16, .sl nl (ints xs)), (17, .int .i64 xs.length), (18, .int .i64 i), (4, .gr 0 (keptL (xs.take i) g).length), (5, .gr 1 (thruL (xs.take i) g).length)])
      (fun i => [.grow 3 (keptL (xs.take i) g).isEmpty (ints (keptL (xs.take i) g)), .grow 3 (thruL (xs.take i) g).isEmpty (ints (thruL (xs.take i) g))]) (fun i => xs.length - i) 0 (by omega) rfl ⟨rfl, rfl, rfl, by simp only [List.length_map]; rfl, rfl, rfl, rfl, trivial⟩ ?_
    intro i h2
    have hk := kept_le xs g i
    have ht := thru_le xs g i
    conv => whnf
    repeat' first | ((with_reducible apply XBr.dec) <;> (intro h; first | (exfalso; omega) | ((try simp only [List.length_map] at h); first | (exfalso; omega) | (conv => whnf)))) | ((with_reducible refine XInt.i64 (by omega) (by omega) ?_); conv => whnf) | ((with_reducible refine XHold.mk ?_ ?_); (first | omega | rfl | decide | exact ⟨rfl, by decide, rfl⟩ | exact wideI _ | exact widePr _ | exact wideSk _ | (unfold Room; constructor <;> ((try simp) <;> omega)) | exact ⟨rfl, by simp only [List.length_map], by unfold Room; constructor <;> ((try simp) <;> omega)⟩ | exact ⟨by omega, by omega, by unfold Room; constructor <;> ((try simp) <;> omega)⟩); conv => whnf) | (((with_reducible refine XIx.nat ?_ ?_ ?_); omega; (intro _; rfl)); conv => whnf) | fail
    · refine XAgain.go (i + 1) (by omega) (by omega) ?_ ⟨rfl, rfl, rfl, rfl, rfl, ?_, ?_, trivial⟩
      · simp only [kept_next (show i < xs.length by omega), thru_next (show i < xs.length by omega), if_pos h, if_neg (show ¬ xs.getD i default < g by omega), List.map_append]
        simp
      · simp only [kept_next (show i < xs.length by omega), if_pos h, List.length_append]; rfl
      · simp only [thru_next (show i < xs.length by omega), if_neg (show ¬ xs.getD i default < g by omega)]; rfl
    · refine XAgain.go (i + 1) (by omega) (by omega) ?_ ⟨rfl, rfl, rfl, rfl, rfl, ?_, ?_, trivial⟩
      · simp only [kept_next (show i < xs.length by omega), thru_next (show i < xs.length by omega), if_neg h, if_pos (show xs.getD i default < g by omega), List.map_append]
        simp
      · simp only [kept_next (show i < xs.length by omega), if_neg h]; rfl
      · simp only [thru_next (show i < xs.length by omega), if_pos (show xs.getD i default < g by omega), List.length_append]; rfl
    · have hi : i = xs.length := by omega
      subst hi
      rw [List.take_length]
      refine ⟨?_⟩
      unfold riddleR; rw [if_pos (by assumption)]
      exact Froz.tup (.cons (Froz.grow rfl (by simp) (lowI _)) (.cons (Froz.grow rfl (by simp) (lowI _)) (.cons (Froz.low rfl) .nil)))
structure Sk where
  m : Int
  o : Int
  deriving Inhabited, DecidableEq
def skA (s : Sk) : AV := .agg [.int .i64 s.m, .int .i64 s.o]
def prA (p : Int × Int) : AV := .agg [.int .i64 p.1, .int .i64 p.2]
theorem skL {n : Nat} (s : Sk) : (skA s).low n = true := rfl
theorem prL {n : Nat} (p : Int × Int) : (prA p).low n = true := rfl
theorem lowSk {n : Nat} (xs : List Sk) : lowL n (xs.map skA) = true := lowL_map (fun _ => rfl) xs
theorem lowPr {n : Nat} (xs : List (Int × Int)) : lowL n (xs.map prA) = true := lowL_map (fun _ => rfl) xs
theorem wideSk (xs : List Sk) : wide 2 (xs.map skA) = true := wide_map (f := skA) (n := 2) (fun _ => rfl) (fun _ => rfl) xs
theorem widePr (xs : List (Int × Int)) : wide 2 (xs.map prA) = true := wide_map (f := prA) (n := 2) (fun _ => rfl) (fun _ => rfl) xs


theorem idxf_sk (nl : Bool) (xs : List (Sk)) (g : FuncId) (caps : List AV) (p : Sk → Bool) (hl : lowL 0 caps = true) (hx : xs.length ≤ 100000) (hp : ∀ x ∈ xs, Comp Try.prog g (skA x :: caps) (.bool (p x))) :
    Comp Try.prog 166 [.sl nl (xs.map skA), .fn g caps] (.int .i64 (idxR p xs)) := by
  refine Comp.body (T := tab) (res := [.tmp 4]) tab_ok [] Try.func166 rfl (by kernel_rfl) Try.ntmps166 rfl (by simp only [List.length_cons, List.length_nil]; decide) (by simp only [lowL, AV.low, lowSk, hl]; rfl) ?_; conv => whnf
  refine Walk.loop tab_ok [] (fun i : Nat => i ≤ xs.length ∧ ∀ j, j < i → p (xs.getD j default) = false) (fun i => [(0, .sl nl (xs.map skA)), (1, .fn g caps), (7, .int .i64 xs.length), (8, .int .i64 i)]) (fun _ => []) (fun i => xs.length - i) 0 ⟨by omega, by omega⟩ rfl ⟨rfl, rfl, by simp only [List.length_map]; rfl, rfl, trivial⟩ ?_
  rintro i ⟨h2, h3⟩
  conv => whnf
  repeat' first | ((with_reducible apply XBr.dec) <;> (intro h; first | (exfalso; omega) | ((try simp only [List.length_map] at h); first | (exfalso; omega) | (conv => whnf)))) | (((with_reducible refine XIx.nat ?_ ?_ ?_); omega; (intro _; rfl)); conv => whnf) | fail
  · refine XCall.ret (hp _ (getD_mem (i := i) (d := default) (by omega))) ?_
    conv => whnf
    refine XBr.mk' ?_ ?_ <;> intro h4 <;> (conv => whnf)
    · refine XOut.int ?_
      simp only [idxR, find_some (d := default) (i := i) (by omega) h4 h3]
    · skip
      repeat' first | ((with_reducible refine XInt.i64 (by omega) (by omega) ?_); conv => whnf) | fail
      refine XAgain.go (i + 1) ⟨by omega, fun j hj => ?_⟩ (by omega) rfl ⟨rfl, rfl, rfl, rfl, trivial⟩
      by_cases hji : j = i
      · subst hji; exact h4
      · exact h3 j (by omega)
  · refine XOut.int ?_
    simp only [idxR, find_none (d := default) fun j hj => h3 j (by omega)]
theorem contf_sk (nl : Bool) (xs : List (Sk)) (g : FuncId) (caps : List AV) (p : Sk → Bool) (hl : lowL 0 caps = true) (hx : xs.length ≤ 100000) (hp : ∀ x ∈ xs, Comp Try.prog g (skA x :: caps) (.bool (p x))) :
    Comp Try.prog 146 [.sl nl (xs.map skA), .fn g caps] (.bool (xs.any p)) := by
  refine Comp.body (T := tab) (res := [.tmp 4]) tab_ok [] Try.func146 rfl (by kernel_rfl) Try.ntmps146 rfl (by simp only [List.length_cons, List.length_nil]; decide) (by simp only [lowL, AV.low, lowSk, hl]; rfl) ?_; conv => whnf
  refine XCall.ret (idxf_sk nl xs g caps p hl hx hp) ?_
  conv => whnf
  refine XOut.bool ?_
  rw [Bool.eq_iff_iff, decide_eq_true_eq]; exact idxR_pos
theorem every1_sk (x : Sk) (g : FuncId) (caps : List AV) (p : Sk → Bool) (hl : lowL 0 caps = true) (hp : Comp Try.prog g (skA x :: caps) (.bool (p x))) :
    Comp Try.prog 147 [skA x, .pim [.fn g caps]] (.bool (!p x)) := by
  refine Comp.body (T := tab) (res := [.tmp 3]) tab_ok [] Try.func147 rfl (by kernel_rfl) Try.ntmps147 rfl (by simp only [List.length_cons, List.length_nil]; decide) (by simp only [lowL, AV.low, skL, hl]; rfl) ?_; conv => whnf
  refine XCall.ret hp ?_
  conv => whnf
  exact XOut.bool rfl
theorem every_sk (nl : Bool) (xs : List (Sk)) (g : FuncId) (caps : List AV) (p : Sk → Bool) (hl : lowL 0 caps = true) (hx : xs.length ≤ 100000) (hp : ∀ x ∈ xs, Comp Try.prog g (skA x :: caps) (.bool (p x))) :
    Comp Try.prog 111 [.sl nl (xs.map skA), .fn g caps] (.bool (xs.all p)) := by
  refine Comp.body (T := tab) (res := [.tmp 4]) tab_ok [] Try.func111 rfl (by kernel_rfl) Try.ntmps111 rfl (by simp only [List.length_cons, List.length_nil]; decide) (by simp only [lowL, AV.low, lowSk, hl]; rfl) ?_; conv => whnf
  refine XCall.ret (contf_sk nl xs 147 [.pim [.fn g caps]] (fun x => !p x) (by simp only [lowL, AV.low, hl]; rfl) hx fun x hm => every1_sk x g caps p hl (hp x hm)) ?_
  conv => whnf
  refine XOut.bool ?_
  rw [List.not_any_eq_all_not]; simp


theorem idxf_pr (nl : Bool) (xs : List (Int × Int)) (g : FuncId) (caps : List AV) (p : Int × Int → Bool) (hl : lowL 0 caps = true) (hx : xs.length ≤ 100000) (hp : ∀ x ∈ xs, Comp Try.prog g (prA x :: caps) (.bool (p x))) :
    Comp Try.prog 109 [.sl nl (xs.map prA), .fn g caps] (.int .i64 (idxR p xs)) := by
  refine Comp.body (T := tab) (res := [.tmp 4]) tab_ok [] Try.func109 rfl (by kernel_rfl) Try.ntmps109 rfl (by simp only [List.length_cons, List.length_nil]; decide) (by simp only [lowL, AV.low, lowPr, hl]; rfl) ?_; conv => whnf
  refine Walk.loop tab_ok [] (fun i : Nat => i ≤ xs.length ∧ ∀ j, j < i → p (xs.getD j default) = false) (fun i => [(0, .sl nl (xs.map prA)), (1, .fn g caps), (7, .int .i64 xs.length), (8, .int .i64 i)]) (fun _ => []) (fun i => xs.length - i) 0 ⟨by omega, by omega⟩ rfl ⟨rfl, rfl, by simp only [List.length_map]; rfl, rfl, trivial⟩ ?_
  rintro i ⟨h2, h3⟩
  conv => whnf
  repeat' first | ((with_reducible apply XBr.dec) <;> (intro h; first | (exfalso; omega) | ((try simp only [List.length_map] at h); first | (exfalso; omega) | (conv => whnf)))) | (((with_reducible refine XIx.nat ?_ ?_ ?_); omega; (intro _; rfl)); conv => whnf) | fail
  · refine XCall.ret (hp _ (getD_mem (i := i) (d := default) (by omega))) ?_
    conv => whnf
    refine XBr.mk' ?_ ?_ <;> intro h4 <;> (conv => whnf)
    · refine XOut.int ?_
      simp only [idxR, find_some (d := default) (i := i) (by omega) h4 h3]
    · skip
      repeat' first | ((with_reducible refine XInt.i64 (by omega) (by omega) ?_); conv => whnf) | fail
      refine XAgain.go (i + 1) ⟨by omega, fun j hj => ?_⟩ (by omega) rfl ⟨rfl, rfl, rfl, rfl, trivial⟩
      by_cases hji : j = i
      · subst hji; exact h4
      · exact h3 j (by omega)
  · refine XOut.int ?_
    simp only [idxR, find_none (d := default) fun j hj => h3 j (by omega)]
theorem contf_pr (nl : Bool) (xs : List (Int × Int)) (g : FuncId) (caps : List AV) (p : Int × Int → Bool) (hl : lowL 0 caps = true) (hx : xs.length ≤ 100000) (hp : ∀ x ∈ xs, Comp Try.prog g (prA x :: caps) (.bool (p x))) :
    Comp Try.prog 67 [.sl nl (xs.map prA), .fn g caps] (.bool (xs.any p)) := by
  refine Comp.body (T := tab) (res := [.tmp 4]) tab_ok [] Try.func67 rfl (by kernel_rfl) Try.ntmps67 rfl (by simp only [List.length_cons, List.length_nil]; decide) (by simp only [lowL, AV.low, lowPr, hl]; rfl) ?_; conv => whnf
  refine XCall.ret (idxf_pr nl xs g caps p hl hx hp) ?_
  conv => whnf
  refine XOut.bool ?_
  rw [Bool.eq_iff_iff, decide_eq_true_eq]; exact idxR_pos
theorem every1_pr (x : Int × Int) (g : FuncId) (caps : List AV) (p : Int × Int → Bool) (hl : lowL 0 caps = true) (hp : Comp Try.prog g (prA x :: caps) (.bool (p x))) :
    Comp Try.prog 148 [prA x, .pim [.fn g caps]] (.bool (!p x)) := by
  refine Comp.body (T := tab) (res := [.tmp 3]) tab_ok [] Try.func148 rfl (by kernel_rfl) Try.ntmps148 rfl (by simp only [List.length_cons, List.length_nil]; decide) (by simp only [lowL, AV.low, prL, hl]; rfl) ?_; conv => whnf
  refine XCall.ret hp ?_
  conv => whnf
  exact XOut.bool rfl
theorem every_pr (nl : Bool) (xs : List (Int × Int)) (g : FuncId) (caps : List AV) (p : Int × Int → Bool) (hl : lowL 0 caps = true) (hx : xs.length ≤ 100000) (hp : ∀ x ∈ xs, Comp Try.prog g (prA x :: caps) (.bool (p x))) :
    Comp Try.prog 113 [.sl nl (xs.map prA), .fn g caps] (.bool (xs.all p)) := by
  refine Comp.body (T := tab) (res := [.tmp 4]) tab_ok [] Try.func113 rfl (by kernel_rfl) Try.ntmps113 rfl (by simp only [List.length_cons, List.length_nil]; decide) (by simp only [lowL, AV.low, lowPr, hl]; rfl) ?_; conv => whnf
  refine XCall.ret (contf_pr nl xs 148 [.pim [.fn g caps]] (fun x => !p x) (by simp only [lowL, AV.low, hl]; rfl) hx fun x hm => every1_pr x g caps p hl (hp x hm)) ?_
  conv => whnf
  refine XOut.bool ?_
  rw [List.not_any_eq_all_not]; simp


theorem sack_in (s : Sk) : Comp Try.prog 112 [skA s] (.bool (inB s.m 1 100 && inB s.o 0 5)) := by
  refine Comp.body (T := tab) (res := [.tmp 2]) tab_ok [] Try.func112 rfl (by kernel_rfl) Try.ntmps112 rfl (by simp only [List.length_cons, List.length_nil]; decide) (by rfl) ?_; conv => whnf
  refine XCall.ret (in_c _ _ _) ?_
  conv => whnf
  refine XBr.mk' ?_ ?_ <;> intro h <;> (conv => whnf)
  · skip
    repeat' first | ((with_reducible apply XBr.tt); conv => whnf) | fail
    refine XCall.ret (in_c _ _ _) ?_
    conv => whnf
    repeat' first | ((with_reducible apply XBr.tt); conv => whnf) | fail
    refine XOut.bool ?_
    simp [h]
  · skip
    repeat' first | ((with_reducible apply XBr.ff); conv => whnf) | fail
    refine XOut.bool ?_
    simp [h]
theorem pair_ne (p : Int × Int) : Comp Try.prog 116 [prA p] (.bool (p.1 != p.2)) := by
  refine Comp.body (T := tab) (res := [.tmp 2]) tab_ok [] Try.func116 rfl (by kernel_rfl) Try.ntmps116 rfl (by simp only [List.length_cons, List.length_nil]; decide) (by rfl) ?_; conv => whnf
  repeat' first | ((first | (with_reducible apply XArr.pim0) | (with_reducible apply XArr.pim1)); conv => whnf) | fail
  exact XOut.bool rfl

structure Ld where
  bears : Int
  shrink : Int
  nls : Bool
  sacks : List Sk
  nla : Bool
  apart : List (Int × Int)
  nlw : Bool
  wth : List (Int × Int)
def ldC (l : Ld) : List AV := [.int .i64 l.bears, .int .i64 l.shrink, .sl l.nls (l.sacks.map skA), .sl l.nla (l.apart.map prA), .sl l.nlw (l.wth.map prA)]
def ldA (l : Ld) : AV := .agg (ldC l)
theorem lowLd {n : Nat} (l : Ld) : lowL n (ldC l) = true := by simp only [ldC, lowL, AV.low, lowSk, lowPr]; rfl
theorem ldL {n : Nat} (l : Ld) : (ldA l).low n = true := by unfold ldA; simp only [AV.low, lowLd]

theorem sack_c (l : Ld) (n : Int) (hx : l.sacks.length ≤ 100000) : Comp Try.prog 115 [ldA l, .int .i64 n] (.bool (inB n 0 (l.sacks.length - 1))) := by
  refine Comp.body (T := tab) (res := [.tmp 4]) tab_ok [] Try.func115 rfl (by kernel_rfl) Try.ntmps115 rfl (by simp only [List.length_cons, List.length_nil]; decide) (by simp only [lowL, AV.low, ldL]; rfl) ?_; conv => whnf
  have hm : (l.sacks.map skA).length = l.sacks.length := List.length_map ..
  repeat' first | ((with_reducible refine XInt.i64 (by omega) (by omega) ?_); conv => whnf) | fail
  refine XCall.ret (in_c _ _ _) ?_
  conv => whnf
  refine XOut.bool ?_
  simp
theorem pair_in (l : Ld) (p : Int × Int) (hx : l.sacks.length ≤ 100000) : Comp Try.prog 114 [prA p, .pim (ldC l)] (.bool (inB p.1 0 (l.sacks.length - 1) && inB p.2 0 (l.sacks.length - 1))) := by
  refine Comp.body (T := tab) (res := [.tmp 3]) tab_ok [] Try.func114 rfl (by kernel_rfl) Try.ntmps114 rfl (by simp only [List.length_cons, List.length_nil]; decide) (by simp only [lowL, AV.low, prL, lowLd]; rfl) ?_; conv => whnf
  repeat' first | ((with_reducible apply XArr.pim0); conv => whnf) | fail
  refine XCall.ret (sack_c l _ hx) ?_
  conv => whnf
  refine XBr.mk' ?_ ?_ <;> intro h <;> (conv => whnf)
  · skip
    repeat' first | ((first | (with_reducible apply XBr.tt) | (with_reducible apply XArr.pim1)); conv => whnf) | fail
    refine XCall.ret (sack_c l _ hx) ?_
    conv => whnf
    repeat' first | ((with_reducible apply XBr.tt); conv => whnf) | fail
    refine XOut.bool ?_
    simp [h]
  · skip
    repeat' first | ((with_reducible apply XBr.ff); conv => whnf) | fail
    refine XOut.bool ?_
    simp [h]
def prIn (l : Ld) (p : Int × Int) : Bool := inB p.1 0 (l.sacks.length - 1) && inB p.2 0 (l.sacks.length - 1)
def checkR (l : Ld) : Int :=
  if 9 < l.sacks.length ∨ 8 < l.apart.length ∨ 8 < l.wth.length then 2
  else if (inB l.bears 1 100 && inB l.shrink 0 90) = false then 3
  else if (l.sacks.all fun s => inB s.m 1 100 && inB s.o 0 5) = false then 3
  else if ((l.apart ++ l.wth).all (prIn l)) = false then 1
  else if ((l.apart ++ l.wth).all fun p => p.1 != p.2) = false then 5 else 0

theorem check_c (l : Ld) (hw : l.nla = true → l.apart = []) (h1 : l.sacks.length ≤ 100000) (h2 : l.apart.length ≤ 1000) (h3 : l.wth.length ≤ 1000) : Comp Try.prog 71 [ldA l] (.int .i64 (checkR l)) := by
  refine Comp.body (T := tab) (res := [.tmp 2]) tab_ok [] Try.func71 rfl (by kernel_rfl) Try.ntmps71 rfl (by simp only [List.length_cons, List.length_nil]; decide) (by simp only [lowL, AV.low, ldL]; rfl) ?_; conv => whnf
  have hA : ∀ n, Froz Try.prog [.grow 76 n ((l.apart ++ l.wth).map prA)] (.gr 0 (l.apart ++ l.wth).length) (.sl n ((l.apart ++ l.wth).map prA)) := fun n => Froz.grow rfl (by simp) (lowPr _)
  cases hn : l.nla with
  | false =>
    apply Walk.drawX tab_ok mixed_ok [] [2, 5] (hsC [[], [.grow 76 false (l.apart.map prA)], [.grow 76 false ((l.apart ++ l.wth).map prA)]]) [_, _, .gr 0 l.apart.length, _, _, .gr 0 (l.apart ++ l.wth).length, _] (by kernel_rfl) rfl
    · skip
      repeat' first | ((with_reducible refine XHold.mk ?_ ?_); (first | omega | rfl | decide | exact ⟨rfl, by decide, rfl⟩ | exact wideI _ | exact widePr _ | exact wideSk _ | (unfold Room; constructor <;> ((try simp) <;> omega)) | exact ⟨rfl, by simp only [List.length_map], by unfold Room; constructor <;> ((try simp) <;> omega)⟩ | exact ⟨by omega, by omega, by unfold Room; constructor <;> ((try simp) <;> omega)⟩); conv => whnf) | (with_reducible apply XAnd.mk) | ((first | (with_reducible apply Chk.go) | (with_reducible apply ChkA.go)); conv => whnf) | (exact XSame.mk rfl rfl) | (exact XSame.mk (by first | rfl | (simp only [List.map_append, List.length_append, List.length_map]; done) | (simp only [List.map_append, List.length_append, List.length_map]; rfl)) (by first | rfl | (simp only [List.map_append]; done) | (simp only [List.map_append]; rfl))) | (with_reducible exact trivial) | fail
      · refine XCall.inl (T := tab) (res := [.tmp 2]) tab_ok [] Try.func110 rfl (by kernel_rfl) Try.ntmps110 rfl (by simp only [List.length_append, List.length_cons, List.length_nil]; decide) ?_; conv => whnf
        refine XBr.no hn ?_
        conv => whnf
        repeat' first | ((with_reducible refine XHold.mk ?_ ?_); (first | omega | rfl | decide | exact ⟨rfl, by decide, rfl⟩ | exact wideI _ | exact widePr _ | exact wideSk _ | (unfold Room; constructor <;> ((try simp) <;> omega)) | exact ⟨rfl, by simp only [List.length_map], by unfold Room; constructor <;> ((try simp) <;> omega)⟩ | exact ⟨by omega, by omega, by unfold Room; constructor <;> ((try simp) <;> omega)⟩); conv => whnf) | (exact XSame.mk (by first | rfl | (simp only [List.map_append, List.length_append, List.length_map]; done) | (simp only [List.map_append, List.length_append, List.length_map]; rfl)) (by first | rfl | (simp only [List.map_append]; done) | (simp only [List.map_append]; rfl))) | fail
    · skip
      repeat' first | (with_reducible apply XAnd.mk) | ((first | (with_reducible apply Chk.go) | (with_reducible apply ChkF.go) | (with_reducible apply ChkB.go)); conv => whnf) | (exact XSame.mk rfl rfl) | (with_reducible exact trivial) | fail
    · skip
      conv => whnf
      repeat' first | ((first | (with_reducible apply XBr.tt) | (with_reducible apply XBr.ff)); conv => whnf) | (with_reducible apply XBr.not) | ((with_reducible apply XBr.dec) <;> (intro h; first | (exfalso; omega) | ((try simp only [List.length_map] at h); first | (exfalso; omega) | (conv => whnf)))) | (refine XCall.ret (in_c _ _ _) ?_; conv => whnf) | (refine XCall.ret (every_sk l.nls l.sacks 112 [] _ rfl h1 fun x _ => sack_in x) ?_; conv => whnf) | (refine XCall.lend (every_pr _ (l.apart ++ l.wth) 114 [.pim (ldC l)] (prIn l) (by simp only [lowL, AV.low, lowLd]; rfl) (by simp; omega) fun x _ => pair_in l x h1) (.cons (hA _) (.cons (.low (by simp only [lowL, AV.low, lowLd]; rfl)) .nil)) rfl ?_; conv => whnf) | (refine XCall.lend (every_pr _ (l.apart ++ l.wth) 116 [] _ rfl (by simp; omega) fun x _ => pair_ne x) (.cons (hA _) (.cons (.low rfl) .nil)) rfl ?_; conv => whnf) | ((with_reducible apply XBr.mk') <;> (intro h; conv => whnf)) | fail
      all_goals ((try clear ha); clear hw hA hn; refine XOut.int ?_; unfold checkR; (repeat' split) <;> first | rfl | (exfalso; omega) | simp_all)
  | true =>
    have ha := hw hn
    apply Walk.drawX tab_ok mixed_ok [] [5] (hsC [[], [.grow 76 l.wth.isEmpty ((l.apart ++ l.wth).map prA)]]) [_, _, .sl true [], _, _, .gr 0 (l.apart ++ l.wth).length, _] (by kernel_rfl) rfl
    · skip
      repeat' first | ((with_reducible refine XHold.mk ?_ ?_); (first | omega | rfl | decide | exact ⟨rfl, by decide, rfl⟩ | exact wideI _ | exact widePr _ | exact wideSk _ | (unfold Room; constructor <;> ((try simp) <;> omega)) | exact ⟨rfl, by simp only [List.length_map], by unfold Room; constructor <;> ((try simp) <;> omega)⟩ | exact ⟨by omega, by omega, by unfold Room; constructor <;> ((try simp) <;> omega)⟩); conv => whnf) | (with_reducible apply XAnd.mk) | ((first | (with_reducible apply Chk.go) | (with_reducible apply ChkA.go)); conv => whnf) | (exact XSame.mk rfl rfl) | (with_reducible exact trivial) | fail
      · refine XCall.inl (T := tab) (res := [.tmp 2]) tab_ok [] Try.func110 rfl (by kernel_rfl) Try.ntmps110 rfl (by simp only [List.length_append, List.length_cons, List.length_nil]; decide) ?_; conv => whnf
        refine XBr.yes hn ?_
        conv => whnf
        repeat' first | (exact XSame.mk rfl rfl) | fail
      exact XSame.mk (by rw [ha]; simp) (by rw [ha, List.nil_append, List.isEmpty_map]; rfl)
    · skip
      repeat' first | (with_reducible apply XAnd.mk) | ((first | (with_reducible apply Chk.go) | (with_reducible apply ChkF.go) | (with_reducible apply ChkB.go)); conv => whnf) | (exact XSame.mk rfl rfl) | (with_reducible exact trivial) | fail
    · skip
      conv => whnf
      repeat' first | ((first | (with_reducible apply XBr.tt) | (with_reducible apply XBr.ff)); conv => whnf) | (with_reducible apply XBr.not) | ((with_reducible apply XBr.dec) <;> (intro h; first | (exfalso; omega) | ((try simp only [List.length_map] at h); first | (exfalso; omega) | (conv => whnf)))) | (refine XCall.ret (in_c _ _ _) ?_; conv => whnf) | (refine XCall.ret (every_sk l.nls l.sacks 112 [] _ rfl h1 fun x _ => sack_in x) ?_; conv => whnf) | (refine XCall.lend (every_pr _ (l.apart ++ l.wth) 114 [.pim (ldC l)] (prIn l) (by simp only [lowL, AV.low, lowLd]; rfl) (by simp; omega) fun x _ => pair_in l x h1) (.cons (hA _) (.cons (.low (by simp only [lowL, AV.low, lowLd]; rfl)) .nil)) rfl ?_; conv => whnf) | (refine XCall.lend (every_pr _ (l.apart ++ l.wth) 116 [] _ rfl (by simp; omega) fun x _ => pair_ne x) (.cons (hA _) (.cons (.low rfl) .nil)) rfl ?_; conv => whnf) | ((with_reducible apply XBr.mk') <;> (intro h; conv => whnf)) | fail
      all_goals ((try clear ha); clear hw hA hn; refine XOut.int ?_; unfold checkR; (repeat' split) <;> first | rfl | (exfalso; omega) | simp_all)
def weightR (l : Ld) (s : Sk) : Int := s.m - s.m * l.shrink / 100
theorem weight_c (l : Ld) (s : Sk) (h : 0 ≤ s.m) (h' : s.m ≤ 100) (h2 : 0 ≤ l.shrink) (h3 : l.shrink ≤ 100) : Comp Try.prog 102 [ldA l, skA s] (.int .i64 (weightR l s)) := by
  refine Comp.body (T := tab) (res := [.tmp 4]) tab_ok [] Try.func102 rfl (by kernel_rfl) Try.ntmps102 rfl (by simp only [List.length_cons, List.length_nil]; decide) (by simp only [lowL, AV.low, ldL, skL]; rfl) ?_; conv => whnf
  have e1 : 0 ≤ s.m * l.shrink := Int.mul_nonneg h h2
  have e2 : s.m * l.shrink ≤ 100 * 100 := Int.mul_le_mul h' h3 h2 (by omega)
  have e3 : (s.m * l.shrink).tdiv 100 = (s.m * l.shrink) / 100 := Int.tdiv_eq_ediv_of_nonneg e1
  repeat' first | ((with_reducible refine XInt.i64 (by omega) (by omega) ?_); conv => whnf) | ((with_reducible refine XHold.mk ?_ ?_); (first | omega | rfl | decide | exact ⟨rfl, by decide, rfl⟩ | exact wideI _ | exact widePr _ | exact wideSk _ | (unfold Room; constructor <;> ((try simp) <;> omega)) | exact ⟨rfl, by simp only [List.length_map], by unfold Room; constructor <;> ((try simp) <;> omega)⟩ | exact ⟨by omega, by omega, by unfold Room; constructor <;> ((try simp) <;> omega)⟩); conv => whnf) | fail
  · refine XOut.int ?_
    rw [e3]; rfl

def bitsF : Nat → Nat → Nat → List Int
  | 0, _, _ => []
  | f + 1, i, s => if s = 0 then [] else if s % 2 = 1 then (i : Int) :: bitsF f (i + 1) (s / 2) else bitsF f (i + 1) (s / 2)
theorem bitsF_zero : ∀ (f i : Nat), bitsF f i 0 = []
  | 0, _ => rfl
  | f + 1, _ => by simp [bitsF]
theorem bitsF_length : ∀ (f i s : Nat), (bitsF f i s).length ≤ f
  | 0, _, _ => by simp [bitsF]
  | f + 1, i, s => by
    unfold bitsF; have := bitsF_length f (i + 1) (s / 2)
    split
    · simp
    · split <;> simp <;> omega
def bits (s : Nat) : List Int := bitsF 62 0 s
theorem list_c (n : Nat) (hn : n < 4611686018427387904) : Comp Try.prog 63 [.int .i64 n] (slA (bits n)) := by
  refine Comp.body (T := tab) (res := [.tmp 2]) tab_ok [] Try.func63 rfl (by kernel_rfl) Try.ntmps63 rfl (by simp only [List.length_cons, List.length_nil]; decide) (by rfl) ?_; conv => whnf
  refine Walk.nilgr 3 3 rfl ?_
  refine Walk.loop tab_ok [] (fun g : Nat × Nat × List Int => g.1 ≤ 62 ∧ g.2.1 < 2 ^ (62 - g.1) ∧ g.2.2 ++ bitsF (62 - g.1) g.1 g.2.1 = bits n) (fun g => [(0, .int .i64 g.2.1), (3, .gr 0 g.2.2.length), (4, .int .i64 g.1)]) (fun g => [.grow 3 g.2.2.isEmpty (ints g.2.2)]) (fun g => g.2.1) (0, n, []) ⟨by omega, by simpa using hn, rfl⟩ rfl ⟨rfl, rfl, rfl, trivial⟩ ?_
  rintro ⟨i, s, out⟩ ⟨h1, h2, h3⟩
  simp only at h1 h2 h3
  have hlen : (out ++ bitsF (62 - i) i s).length = (bits n).length := by rw [h3]
  have hb := bitsF_length 62 0 n
  have hl : out.length ≤ 62 := by unfold bits at hlen; rw [List.length_append] at hlen; omega
  have hp : 2 ^ (62 - i) ≤ 2 ^ 62 := Nat.pow_le_pow_right (by omega) (by omega)
  have e1 : (s : Int).tdiv 2 = ((s / 2 : Nat) : Int) := rfl
  have e2 : (s : Int).tmod 2 = ((s % 2 : Nat) : Int) := rfl
  have step : 0 < s → 62 - i = (62 - (i + 1)) + 1 := fun h => by
    rcases Nat.lt_or_ge i 62 with h | h
    · omega
    · rw [show 62 - i = 0 by omega] at h2; simp at h2; omega
  have half : 0 < s → s / 2 < 2 ^ (62 - (i + 1)) := fun h => by
    rw [step h, Nat.pow_succ] at h2; omega
  dsimp only
  conv => whnf
  repeat' first | ((with_reducible apply XBr.dec) <;> (intro h; first | (exfalso; omega) | ((try simp only [List.length_map] at h); first | (exfalso; omega) | (conv => whnf)))) | ((with_reducible apply XBr.beq) <;> (intro h; first | (exfalso; omega) | (conv => whnf))) | ((with_reducible refine XInt.i64 (by omega) (by omega) ?_); conv => whnf) | ((with_reducible refine XHold.mk ?_ ?_); (first | omega | rfl | decide | exact ⟨rfl, by decide, rfl⟩ | exact wideI _ | exact widePr _ | exact wideSk _ | (unfold Room; constructor <;> ((try simp) <;> omega)) | exact ⟨rfl, by simp only [List.length_map], by unfold Room; constructor <;> ((try simp) <;> omega)⟩ | exact ⟨by omega, by omega, by unfold Room; constructor <;> ((try simp) <;> omega)⟩); conv => whnf) | fail
  · have hs := step (by omega)
    refine XAgain.go (i + 1, s / 2, out ++ [(i : Int)]) ⟨by dsimp only; omega, half (by omega), ?_⟩ (by dsimp only; omega) ?_ ⟨rfl, ?_, rfl, trivial⟩
    · rw [← h3, hs]
      have : s % 2 = 1 := by rw [e2] at h; omega
      simp only [bitsF, if_neg (show ¬ s = 0 by omega), if_pos this, List.append_assoc, List.singleton_append, Nat.add_sub_cancel]
    · simp
    · simp only [List.length_append]; rfl
  · have hs := step (by omega)
    refine XAgain.go (i + 1, s / 2, out) ⟨by dsimp only; omega, half (by omega), ?_⟩ (by dsimp only; omega) rfl ⟨rfl, rfl, rfl, trivial⟩
    rw [← h3, hs]
    have : ¬ s % 2 = 1 := by rw [e2] at h; omega
    simp only [bitsF, if_neg (show ¬ s = 0 by omega), if_neg this, Nat.add_sub_cancel]
  · have hs : s = 0 := by omega
    subst hs
    rw [bitsF_zero, List.append_nil] at h3
    subst h3
    exact ⟨Froz.grow rfl (by simp) (lowI _)⟩
theorem wrap_nat {n : Nat} (h : n < 9223372036854775808) : IntKind.i64.wrap (n : Int) = n := by
  simp only [IntKind.wrap, IntKind.bits, IntKind.signed]; simp; omega
theorem bv_nat (a : Nat) : BitVec.ofInt IntKind.i64.bits (a : Int) = BitVec.ofNat 64 a := BitVec.ofInt_natCast ..
theorem iand_nat {a b : Nat} (ha : a < 9223372036854775808) (hb : b < 9223372036854775808) : iand .i64 a b = ((a &&& b : Nat) : Int) := by
  have h : a &&& b < 9223372036854775808 := Nat.lt_of_le_of_lt Nat.and_le_left ha
  unfold iand
  rw [bv_nat, bv_nat]
  have : (BitVec.ofNat 64 a &&& BitVec.ofNat 64 b).toNat = a &&& b := by
    rw [BitVec.toNat_and, BitVec.toNat_ofNat, BitVec.toNat_ofNat, Nat.mod_eq_of_lt (by omega), Nat.mod_eq_of_lt (by omega)]
  exact (congrArg (fun n : Nat => IntKind.i64.wrap (n : Int)) this).trans (wrap_nat h)
theorem ior_nat {a b : Nat} (ha : a < 9223372036854775808) (hb : b < 9223372036854775808) : ior .i64 a b = ((a ||| b : Nat) : Int) := by
  have h : a ||| b < 2 ^ 63 := Nat.or_lt_two_pow (n := 63) (by omega) (by omega)
  unfold ior
  rw [bv_nat, bv_nat]
  have : (BitVec.ofNat 64 a ||| BitVec.ofNat 64 b).toNat = a ||| b := by
    rw [BitVec.toNat_or, BitVec.toNat_ofNat, BitVec.toNat_ofNat, Nat.mod_eq_of_lt (by omega), Nat.mod_eq_of_lt (by omega)]
  exact (congrArg (fun n : Nat => IntKind.i64.wrap (n : Int)) this).trans (wrap_nat (by omega))
theorem ixor_nat {a b : Nat} (ha : a < 9223372036854775808) (hb : b < 9223372036854775808) : ixor .i64 a b = ((a ^^^ b : Nat) : Int) := by
  have h : a ^^^ b < 2 ^ 63 := Nat.xor_lt_two_pow (n := 63) (by omega) (by omega)
  unfold ixor
  rw [bv_nat, bv_nat]
  have : (BitVec.ofNat 64 a ^^^ BitVec.ofNat 64 b).toNat = a ^^^ b := by
    rw [BitVec.toNat_xor, BitVec.toNat_ofNat, BitVec.toNat_ofNat, Nat.mod_eq_of_lt (by omega), Nat.mod_eq_of_lt (by omega)]
  exact (congrArg (fun n : Nat => IntKind.i64.wrap (n : Int)) this).trans (wrap_nat (by omega))
def diff (a b : Nat) : Nat := a ^^^ (a &&& b)
theorem iandn_nat {a b : Nat} (ha : a < 9223372036854775808) (hb : b < 9223372036854775808) : iandn .i64 a b = ((diff a b : Nat) : Int) := by
  have h0 : a &&& b < 2 ^ 63 := Nat.lt_of_le_of_lt Nat.and_le_left (by omega)
  have h : a ^^^ (a &&& b) < 2 ^ 63 := Nat.xor_lt_two_pow (n := 63) (by omega) h0
  unfold iandn
  rw [bv_nat, bv_nat]
  have hbv : BitVec.ofNat 64 a &&& ~~~ (BitVec.ofNat 64 b) = BitVec.ofNat 64 a ^^^ (BitVec.ofNat 64 a &&& BitVec.ofNat 64 b) := by
    apply BitVec.eq_of_getLsbD_eq; intro i hi; simp
    cases (BitVec.ofNat 64 a).getLsbD i <;> cases (BitVec.ofNat 64 b).getLsbD i <;> simp_all
  have : (BitVec.ofNat 64 a &&& ~~~ (BitVec.ofNat 64 b)).toNat = a ^^^ (a &&& b) := by
    rw [hbv, BitVec.toNat_xor, BitVec.toNat_and, BitVec.toNat_ofNat, BitVec.toNat_ofNat, Nat.mod_eq_of_lt (by omega), Nat.mod_eq_of_lt (by omega)]
  exact (congrArg (fun n : Nat => IntKind.i64.wrap (n : Int)) this).trans (wrap_nat (by omega))
theorem shr_nat {a k : Nat} (hk : k ≤ 64) : (a : Int).fdiv (2 ^ (min (k : Int).toNat IntKind.i64.bits)) = ((a / 2 ^ k : Nat) : Int) := by
  have : min (k : Int).toNat IntKind.i64.bits = k := by simp only [Int.toNat_natCast, IntKind.bits]; omega
  rw [this]
  have h2 : ((2 : Int) ^ k) = ((2 ^ k : Nat) : Int) := by simp
  rw [h2, Int.fdiv_eq_ediv_of_nonneg _ (Int.natCast_nonneg _)]; rfl
theorem shl_nat {k : Nat} (hk : k ≤ 64) : (1 : Int) * 2 ^ (min (k : Int).toNat IntKind.i64.bits) = ((2 ^ k : Nat) : Int) := by
  have : min (k : Int).toNat IntKind.i64.bits = k := by simp only [Int.toNat_natCast, IntKind.bits]; omega
  rw [this]; simp
def natA (n : Nat) : AV := .int .i64 n
abbrev nats (xs : List Nat) : List AV := xs.map natA
theorem lowN {n : Nat} (xs : List Nat) : lowL n (nats xs) = true := lowL_map (fun _ => rfl) xs
theorem nats_at {xs : List Nat} {i : Nat} (h : i < xs.length) (b : List AV) : (nats xs ++ b)[i * 1]? = some (.int .i64 (xs.getD i 0 : Nat)) := by
  rw [Nat.mul_one, List.getElem?_append_left (by simpa using h), List.getElem?_map, List.getElem?_eq_getElem h, List.getD_eq_getElem?_getD, List.getElem?_eq_getElem h]; rfl
theorem XArr.nats {xs : List Nat} {i m : Nat} {k : AV → Prop} (h2 : i < m) (hm : m ≤ xs.length) (h : k (.pim (.int .i64 (xs.getD i 0 : Nat) :: (GA.nats xs).drop (i * 1 + 1)))) : XArr (.pim (GA.nats xs)) (i : Int) m 1 k :=
  XArr.at _ (by omega) (by omega) (by have := nats_at (xs := xs) (i := i) (by omega) []; simpa using this) h
theorem XArr.natsA {xs : List Nat} {b : List AV} {i m : Nat} {k : AV → Prop} (h2 : i < m) (hm : m ≤ xs.length) (h : k (.pim (.int .i64 (xs.getD i 0 : Nat) :: (GA.nats xs ++ b).drop (i * 1 + 1)))) : XArr (.pim (GA.nats xs ++ b)) (i : Int) m 1 k :=
  XArr.at _ (by omega) (by omega) (nats_at (xs := xs) (i := i) (by omega) b) h
structure Dk where
  l : Ld
  hv : List Nat
  nd : List Nat
def deskC (d : Dk) : List AV := .int .i64 d.l.bears :: .int .i64 d.l.shrink :: .sl d.l.nls (d.l.sacks.map skA) :: .sl d.l.nla (d.l.apart.map prA) :: .sl d.l.nlw (d.l.wth.map prA) :: (nats d.hv ++ nats d.nd)
theorem lowL_append {n : Nat} (a b : List AV) : lowL n (a ++ b) = (lowL n a && lowL n b) := by
  induction a with | nil => rfl | cons x a ih => simp only [List.cons_append, lowL, ih, Bool.and_assoc]
theorem lowDk {n : Nat} (d : Dk) : lowL n (deskC d) = true := by simp only [deskC, lowL, AV.low, lowSk, lowPr, lowL_append, lowN]; rfl
theorem XDrop.desk {d : Dk} {k : List AV → Prop} (hh : d.hv.length = 512) (h : k (nats d.nd)) : XDrop 517 (deskC d) k := by
  have e : deskC d = (.int .i64 d.l.bears :: .int .i64 d.l.shrink :: .sl d.l.nls (d.l.sacks.map skA) :: .sl d.l.nla (d.l.apart.map prA) :: .sl d.l.nlw (d.l.wth.map prA) :: nats d.hv) ++ nats d.nd := rfl
  have l : (.int .i64 d.l.bears :: .int .i64 d.l.shrink :: .sl d.l.nls (d.l.sacks.map skA) :: .sl d.l.nla (d.l.apart.map prA) :: .sl d.l.nlw (d.l.wth.map prA) :: nats d.hv).length = 517 := by simp [hh]
  refine ⟨by rw [e, List.length_append, l]; omega, ?_⟩
  rw [e, List.drop_left' l]; exact h
structure DkOk (d : Dk) : Prop where
  hv : d.hv.length = 512
  nd : d.nd.length = 9
  small : ∀ i, d.nd.getD i 0 < 512
  big : ∀ i, d.hv.getD i 0 < 1000000

theorem whole1_c (d : Dk) (ok : DkOk d) (i set : Nat) (h2 : i < 9) (hs : set < 512) :
    Comp Try.prog 164 [.int .i64 i, .pim [.pim (deskC d)], .pim [.int .i64 set]] (.bool (diff (d.nd.getD i 0) set == 0)) := by
  refine Comp.body (T := tab) (res := [.tmp 4]) tab_ok [] Try.func164 rfl (by kernel_rfl) Try.ntmps164 rfl (by simp only [List.length_cons, List.length_nil]; decide) (by simp only [lowL, AV.low, lowDk]; rfl) ?_; conv => whnf
  have g1 := ok.hv
  have g2 := ok.nd
  apply Walk.drawX tab_ok mixed_ok [] [] (fun _ => []) [_, _, _, _, _, _, _, _, _, _] (by kernel_rfl) rfl
  · skip
    repeat' first | (with_reducible apply XAnd.mk) | ((first | (with_reducible apply Chk.go) | (with_reducible apply ChkA.go)); conv => whnf) | (exact XSame.mk rfl rfl) | (with_reducible exact trivial) | ((first | (with_reducible refine XDrop.desk (by assumption) ?_) | ((with_reducible refine XArr.nats ?_ ?_ ?_); omega; omega)); conv => whnf) | fail
  · skip
    repeat' first | (with_reducible apply XAnd.mk) | ((first | (with_reducible apply ChkF.go) | (with_reducible apply ChkB.go)); conv => whnf) | (with_reducible exact trivial) | fail
  · conv => whnf
    skip
    refine XOut.bool ?_
    have := ok.small i
    rw [iandn_nat (by omega) (by omega), Bool.eq_iff_iff]; simp
end GA
end

section
namespace GA
open Go Go.RowKit Go.Proofs
set_option pp.deepTerms true
set_option maxRecDepth 8000
set_option linter.unusedVariables false
set_option linter.unusedSimpArgs false
theorem bit_at {set : Nat} {p : Int} (h1 : 0 ≤ p) (h2 : p ≤ 62) (hs : set < 512) : iand .i64 ((set : Int).fdiv (2 ^ min p.toNat IntKind.i64.bits)) 1 = ((set / 2 ^ p.toNat % 2 : Nat) : Int) := by
  obtain ⟨k, rfl⟩ := Int.eq_ofNat_of_zero_le h1
  rw [shr_nat (by omega)]
  have : set / 2 ^ k ≤ set := Nat.div_le_self ..
  have := iand_nat (a := set / 2 ^ k) (b := 1) (by omega) (by omega)
  rw [Nat.and_one_is_mod] at this
  exact this
def inSet (set : Nat) (p : Int) : Bool := set / 2 ^ p.toNat % 2 == 1
theorem whole2_c (p : Int × Int) (set : Nat) (h1 : 0 ≤ p.1) (h2 : p.1 ≤ 62) (h3 : 0 ≤ p.2) (h4 : p.2 ≤ 62) (hs : set < 512) :
    Comp Try.prog 165 [prA p, .pim [.int .i64 set]] (.bool (!inSet set p.1 || !inSet set p.2)) := by
  refine Comp.body (T := tab) (res := [.tmp 3]) tab_ok [] Try.func165 rfl (by kernel_rfl) Try.ntmps165 rfl (by simp only [List.length_cons, List.length_nil]; decide) (by rfl) ?_; conv => whnf
  have e1 := bit_at h1 h2 hs
  have e2 := bit_at h3 h4 hs
  repeat' first | ((first | (with_reducible apply XBr.tt) | (with_reducible apply XBr.ff)); conv => whnf) | ((with_reducible apply XBr.beq) <;> (intro h; first | (exfalso; omega) | (conv => whnf))) | ((with_reducible refine XHold.mk ?_ ?_); (first | omega | rfl | decide | exact ⟨rfl, by decide, rfl⟩ | exact wideI _ | exact widePr _ | exact wideSk _ | (unfold Room; constructor <;> ((try simp) <;> omega)) | exact ⟨rfl, by simp only [List.length_map], by unfold Room; constructor <;> ((try simp) <;> omega)⟩ | exact ⟨by omega, by omega, by unfold Room; constructor <;> ((try simp) <;> omega)⟩); conv => whnf) | ((first | (with_reducible apply XArr.pim0) | (with_reducible apply XArr.pim1)); conv => whnf) | fail
  · rw [e1] at h
    refine XOut.bool ?_
    have : inSet set p.1 = false := by unfold inSet; simp; omega
    simp [this]
  · rw [e1] at h
    refine XOut.bool ?_
    rw [e2]
    have : inSet set p.1 = true := by unfold inSet; simp; omega
    have hb : (((set / 2 ^ p.2.toNat % 2 : Nat) : Int) == 0) = !(set / 2 ^ p.2.toNat % 2 == 1) := by
      rcases Nat.mod_two_eq_zero_or_one (set / 2 ^ p.2.toNat) with h | h <;> rw [h] <;> rfl
    rw [this, hb]; simp [inSet]

def wholeB (d : Dk) (set : Nat) : Bool := ((bits set).all fun i => diff (d.nd.getD i.toNat 0) set == 0) && (d.l.apart.all fun p => !inSet set p.1 || !inSet set p.2)
theorem bitsF_bound : ∀ (f i s k : Nat), s < 2 ^ k → ∀ x ∈ bitsF f i s, (i : Int) ≤ x ∧ x < (i + k : Nat)
  | 0, _, _, _, _, x, hx => by simp [bitsF] at hx
  | f + 1, i, s, k, hs, x, hx => by
    unfold bitsF at hx
    split at hx
    · simp at hx
    · rename_i h0
      cases k with
      | zero => simp at hs; omega
      | succ k =>
        have ih := bitsF_bound f (i + 1) (s / 2) k (by rw [Nat.pow_succ] at hs; omega)
        split at hx
        · rcases List.mem_cons.1 hx with rfl | hx
          · omega
          · have := ih x hx; omega
        · have := ih x hx; omega
theorem bits_bound {s : Nat} (hs : s < 512) : ∀ x ∈ bits s, 0 ≤ x ∧ x < 9 := fun x hx => by have := bitsF_bound 62 0 s 9 (by omega) x hx; omega
theorem bits_len (s : Nat) : (bits s).length ≤ 62 := bitsF_length ..
theorem whole_c (d : Dk) (ok : DkOk d) (set : Nat) (hs : set < 512) (ha : d.l.apart.length ≤ 1000) (hp : ∀ p ∈ d.l.apart, 0 ≤ p.1 ∧ p.1 ≤ 62 ∧ 0 ≤ p.2 ∧ p.2 ≤ 62) : Comp Try.prog 145 [.pim (deskC d), .int .i64 set] (.bool (wholeB d set)) := by
  refine Comp.body (T := tab) (res := [.tmp 4]) tab_ok [] Try.func145 rfl (by kernel_rfl) Try.ntmps145 rfl (by simp only [List.length_cons, List.length_nil]; decide) (by simp only [lowL, AV.low, lowDk]; rfl) ?_; conv => whnf
  refine XCall.ret (list_c set (by omega)) ?_
  conv => whnf
  refine XCall.ret (every_int _ (bits set) 164 [.pim [.pim (deskC d)], .pim [.int .i64 set]] (fun i => diff (d.nd.getD i.toNat 0) set == 0) (by simp only [lowL, AV.low, lowDk]; rfl) (by have := bits_len set; omega) fun x hx => ?_) ?_
  · obtain ⟨h1, h2⟩ := bits_bound hs x hx
    obtain ⟨k, rfl⟩ := Int.eq_ofNat_of_zero_le h1
    exact whole1_c d ok k set (by omega) hs
  conv => whnf
  repeat' first | ((first | (with_reducible apply XBr.tt) | (with_reducible apply XBr.ff)); conv => whnf) | ((with_reducible apply XBr.mk') <;> (intro h; conv => whnf)) | fail
  · refine XCall.ret (every_pr _ d.l.apart 165 [.pim [.int .i64 set]] (fun p => !inSet set p.1 || !inSet set p.2) rfl (by omega) fun p hm => ?_) ?_
    · obtain ⟨h1, h2, h3, h4⟩ := hp p hm
      exact whole2_c p set h1 h2 h3 h4 hs
    conv => whnf
    repeat' first | ((with_reducible apply XBr.tt); conv => whnf) | fail
    refine XOut.bool ?_
    unfold wholeB; rw [h]; simp
  · refine XOut.bool ?_
    unfold wholeB; rw [h]; simp
structure DkFull (d : Dk) : Prop extends DkOk d where
  al : d.l.apart.length ≤ 1000
  ap : ∀ p ∈ d.l.apart, 0 ≤ p.1 ∧ p.1 ≤ 62 ∧ 0 ≤ p.2 ∧ p.2 ≤ 62
def rightB (d : Dk) (set : Nat) : Bool := decide ((d.hv.getD set 0 : Nat) ≤ d.l.bears) && wholeB d set
theorem right_c (d : Dk) (ok : DkFull d) (set : Nat) (hs : set < 512) : Comp Try.prog 106 [.pim (deskC d), .int .i64 set] (.bool (rightB d set)) := by
  refine Comp.body (T := tab) (res := [.tmp 4]) tab_ok [] Try.func106 rfl (by kernel_rfl) Try.ntmps106 rfl (by simp only [List.length_cons, List.length_nil]; decide) (by simp only [lowL, AV.low, lowDk]; rfl) ?_; conv => whnf
  have g1 := ok.hv
  have g2 := ok.nd
  by_cases hc : ((d.hv.getD set 0 : Nat) : Int) ≤ d.l.bears
  · apply Walk.drawX tab_ok mixed_ok [] [] (fun _ => []) [_, _, _, _, _, _, _, _, _, _, _, .bool true, .bool true, _, _, _, _, _] (by kernel_rfl) rfl
    · skip
      repeat' first | ((with_reducible apply XBr.tt); conv => whnf) | (with_reducible apply XAnd.mk) | ((first | (with_reducible apply Chk.go) | (with_reducible apply ChkA.go)); conv => whnf) | (exact XSame.mk rfl rfl) | (with_reducible exact trivial) | (((with_reducible refine XArr.natsA ?_ ?_ ?_); omega; omega); conv => whnf) | (exact XSame.mk (by rw [decide_eq_true hc]) rfl) | (refine XCall.ret (whole_c d ok.toDkOk set hs ok.al ok.ap) ?_; conv => whnf) | fail
    · skip
      repeat' first | (with_reducible apply XAnd.mk) | ((first | (with_reducible apply ChkF.go) | (with_reducible apply ChkB.go)); conv => whnf) | (with_reducible exact trivial) | fail
    · conv => whnf
      skip
      refine XOut.bool ?_
      unfold rightB; rw [decide_eq_true hc]; rfl
  · apply Walk.drawX tab_ok mixed_ok [] [] (fun _ => []) [_, _, _, _, _, _, _, _, _, _, _, .bool false, .bool false, _, _, _, _, _] (by kernel_rfl) rfl
    · skip
      repeat' first | ((with_reducible apply XBr.ff); conv => whnf) | (with_reducible apply XAnd.mk) | ((first | (with_reducible apply Chk.go) | (with_reducible apply ChkA.go)); conv => whnf) | (exact XSame.mk rfl rfl) | (with_reducible exact trivial) | (((with_reducible refine XArr.natsA ?_ ?_ ?_); omega; omega); conv => whnf) | (exact XSame.mk (by rw [decide_eq_false hc]) rfl) | fail
    · skip
      repeat' first | (with_reducible apply XAnd.mk) | ((first | (with_reducible apply ChkF.go) | (with_reducible apply ChkB.go)); conv => whnf) | (with_reducible exact trivial) | fail
    · conv => whnf
      skip
      refine XOut.bool ?_
      unfold rightB; rw [decide_eq_false hc]; rfl
theorem xdrop_nats {xs : List Nat} {i : Nat} {k : List AV → Prop} (hi : i < xs.length) (h : k (.int .i64 (xs.getD i 0 : Nat) :: (nats xs).drop (0 + i * 1 + 1))) : xdrop (0 + i * 1) (nats xs) k :=
  xdrop_at _ (by have := nats_at (xs := xs) (i := i) hi []; rw [List.append_nil] at this; rw [Nat.zero_add]; exact this) h
theorem xspl_nats {xs : List Nat} {i : Nat} {v : Int} {k : List AV → Prop} (m : Nat) (hv : v = (m : Int)) (hi : i < xs.length) (h : k (nats (xs.set i m))) : xspl (nats xs) (0 + i * 1) [.int .i64 v] k := by
  subst hv
  refine xspl_to _ (by simp; omega) ?_ h
  rw [Nat.zero_add, Nat.mul_one]
  have e : (nats xs).set i (natA m) = nats (xs.set i m) := (List.map_set ..).symm
  rw [← e]
  have hl : i < (nats xs).length := by simpa using hi
  rw [List.set_eq_take_append_cons_drop, if_pos hl]
  simp [splice, natA]

theorem xtk_all : ∀ {n : Nat} {cs : List AV} {k : List AV → Prop}, cs.length = n → k cs → xtk n cs k
  | 0, [], _, _, h => h
  | n + 1, c :: cs, k, hl, h => xtk_all (n := n) (cs := cs) (k := fun l => k (c :: l)) (by simpa using hl) h
  | 0, _ :: _, _, hl, _ => by simp at hl
  | n + 1, [], _, hl, _ => by simp at hl
theorem xn_all : ∀ {n : Nat} {cs : List AV} {A : Prop}, cs.length = n → A → xn n cs A
  | 0, [], _, _, h => h
  | n + 1, c :: cs, A, hl, h => xn_all (n := n) (cs := cs) (A := A) (by simpa using hl) h
  | 0, _ :: _, _, hl, _ => by simp at hl
  | n + 1, [], _, hl, _ => by simp at hl
theorem xspl_all {c vs : List AV} {k : List AV → Prop} (hl : vs.length = c.length) (h : k vs) : xspl c 0 vs k :=
  xspl_to vs (by omega) (by simp [splice, hl]) h
def joinStep (b : List Nat) (p : Int × Int) : List Nat :=
  let all := b.getD p.1.toNat 0 ||| b.getD p.2.toNat 0
  b.mapIdx fun i x => if all / 2 ^ i % 2 = 1 then x ||| all else x
def joinR (l : Ld) (b : List Nat) : List Nat := l.wth.foldl joinStep b

def hsK (H : List Blk) : List Bool → List Blk := fun _ => H
theorem joinStep_len (b : List Nat) (p : Int × Int) : (joinStep b p).length = b.length := by simp [joinStep]
def joinI (l : Ld) (b : List Nat) (i : Nat) : List Nat := (l.wth.take i).foldl joinStep b
theorem foldl_len : ∀ (ps : List (Int × Int)) (b : List Nat), (ps.foldl joinStep b).length = b.length
  | [], _ => rfl
  | p :: ps, b => by rw [List.foldl_cons, foldl_len ps, joinStep_len]
def joinP (all : Nat) (b : List Nat) (j : Nat) : List Nat := b.mapIdx fun i x => if i < j ∧ all / 2 ^ i % 2 = 1 then x ||| all else x
theorem joinP_len (all : Nat) (b : List Nat) (j : Nat) : (joinP all b j).length = b.length := by simp [joinP]
theorem joinP_zero (all : Nat) (b : List Nat) : joinP all b 0 = b := by
  unfold joinP; apply List.ext_getElem (by simp); intro i h1 h2; simp
theorem joinP_at (all : Nat) (b : List Nat) (j : Nat) (hj : j < b.length) : (joinP all b j).getD j 0 = b.getD j 0 := by
  unfold joinP
  rw [List.getD_eq_getElem?_getD, List.getElem?_mapIdx, List.getD_eq_getElem?_getD, List.getElem?_eq_getElem hj]
  simp
theorem joinP_hit (all : Nat) (b : List Nat) (j : Nat) (hj : j < b.length) (hb : all / 2 ^ j % 2 = 1) : (joinP all b j).set j (b.getD j 0 ||| all) = joinP all b (j + 1) := by
  unfold joinP; apply List.ext_getElem (by simp)
  intro i h1 h2
  simp only [List.getElem_set, List.getElem_mapIdx]
  by_cases h : j = i
  · subst h; rw [if_pos rfl, if_pos ⟨by omega, hb⟩, List.getD_eq_getElem?_getD, List.getElem?_eq_getElem hj]; rfl
  · rw [if_neg h]
    by_cases h3 : i < j
    · simp [h3, show i < j + 1 by omega]
    · rw [if_neg (fun hh => h3 hh.1), if_neg (fun hh => by omega)]
theorem joinP_miss (all : Nat) (b : List Nat) (j : Nat) (hb : ¬ all / 2 ^ j % 2 = 1) : joinP all b j = joinP all b (j + 1) := by
  unfold joinP; apply List.ext_getElem (by simp)
  intro i h1 h2
  simp only [List.getElem_mapIdx]
  by_cases h : j = i
  · subst h; rw [if_neg (fun hh => hb hh.2), if_neg (fun hh => hb hh.2)]
  · by_cases h3 : i < j
    · simp [h3, show i < j + 1 by omega]
    · rw [if_neg (fun hh => h3 hh.1), if_neg (fun hh => by omega)]
theorem joinP_full (b : List Nat) (p : Int × Int) (hb : b.length = 9) : joinP (b.getD p.1.toNat 0 ||| b.getD p.2.toNat 0) b 9 = joinStep b p := by
  unfold joinP joinStep; apply List.ext_getElem (by simp)
  intro i h1 h2
  have : i < 9 := by simpa [hb] using h1
  simp only [List.getElem_mapIdx, this, true_and]
theorem joinStep_small (b : List Nat) (p : Int × Int) (hs : ∀ i, b.getD i 0 < 512) : ∀ i, (joinStep b p).getD i 0 < 512 := by
  intro i
  unfold joinStep
  rw [List.getD_eq_getElem?_getD, List.getElem?_mapIdx]
  rcases Nat.lt_or_ge i b.length with h | h
  · rw [List.getElem?_eq_getElem h]
    have h1 := hs i
    rw [List.getD_eq_getElem?_getD, List.getElem?_eq_getElem h] at h1
    have hall : (b.getD p.1.toNat 0 ||| b.getD p.2.toNat 0) < 2 ^ 9 := Nat.or_lt_two_pow (hs _) (hs _)
    simp only [Option.map_some, Option.getD_some] at h1 ⊢
    split
    · exact Nat.or_lt_two_pow (n := 9) h1 hall
    · exact h1
  · rw [List.getElem?_eq_none h]; simp
theorem joinI_small (l : Ld) (b : List Nat) (hs : ∀ i, b.getD i 0 < 512) (i : Nat) : ∀ j, (joinI l b i).getD j 0 < 512 := by
  unfold joinI
  generalize l.wth.take i = ps
  induction ps generalizing b with
  | nil => exact hs
  | cons p ps ih => rw [List.foldl_cons]; exact ih _ (joinStep_small b p hs)
theorem joinI_next (l : Ld) (b : List Nat) (i : Nat) (hi : i < l.wth.length) : joinI l b (i + 1) = joinStep (joinI l b i) (l.wth.getD i default) := by
  unfold joinI; rw [take_next hi, List.foldl_append]; rfl
theorem joined_c (l : Ld) (b : List Nat) (hb : b.length = 9) (hs : ∀ i, b.getD i 0 < 512) (hw : l.wth.length ≤ 8) (hp : ∀ p ∈ l.wth, 0 ≤ p.1 ∧ p.1 < 9 ∧ 0 ≤ p.2 ∧ p.2 < 9) : Comp Try.prog 103 [ldA l, .agg (nats b)] (.agg (nats (joinR l b))) := by
  refine Comp.body' (T := tab) (res := [.cell 4 131]) tab_ok [3] Try.func103 rfl (by kernel_rfl) Try.ntmps103 rfl (by simp only [List.length_cons, List.length_nil]; decide) (by simp only [lowL, AV.low, ldL, lowN]; rfl) ?_; conv => whnf
  refine Walk.loopG tab_ok [] (fun i : Nat => i ≤ l.wth.length) (fun i => [(2, .pim (ldC l)), (3, .ptr 0 0), (4, .ptr 1 0), (10, .sl l.nlw (l.wth.map prA)), (11, .int .i64 l.wth.length), (12, .int .i64 i)])
    (fun i => [.cells (nats (joinI l b i)), .cells (nats (List.replicate 9 0))]) (fun i => l.wth.length - i) 0 (by omega) rfl ⟨rfl, rfl, rfl, rfl, by simp only [List.length_map]; rfl, rfl, trivial⟩ ?_ ?_ ?_
  · intro i _
    constructor
    · intro x hx; simp at hx; rcases hx with rfl | rfl
      · simp only [Blk.low, lowN]
      · rfl
    · intro p hp; simp at hp; rcases hp with rfl | rfl | rfl | rfl | rfl | rfl <;> simp [AV.low, lowPr, lowLd]
  · intro i _; simp
  intro i hi
  have hlen : (joinI l b i).length = 9 := by unfold joinI; rw [foldl_len]; exact hb
  conv => whnf
  repeat' first | ((with_reducible apply XBr.dec) <;> (intro h; first | (exfalso; omega) | ((try simp only [List.length_map] at h); first | (exfalso; omega) | (conv => whnf)))) | (((with_reducible refine XIx.nat ?_ ?_ ?_); omega; (intro _; rfl)); conv => whnf) | fail
  · obtain ⟨p1, p2, p3, p4⟩ := hp _ (getD_mem (xs := l.wth) (i := i) (d := default) (by omega))
    apply Walk.drawX tab_ok mixed_ok [] [] (hsK _) [_, _, _, _, _, _, _, _, _, _] (by kernel_rfl) rfl
    · skip
      repeat' first | (with_reducible apply XAnd.mk) | ((first | (with_reducible apply Chk.go) | (with_reducible apply ChkA.go)); conv => whnf) | (exact XSame.mk rfl rfl) | (with_reducible exact trivial) | ((first | ((with_reducible refine XArr.ptr ?_ ?_ ?_); omega; omega) | (refine xdrop_nats (by omega) ?_)); conv => whnf) | fail
    · skip
      repeat' first | (with_reducible apply XAnd.mk) | ((first | (with_reducible apply ChkF.go) | (with_reducible apply ChkB.go)); conv => whnf) | (with_reducible exact trivial) | fail
    · conv => whnf
      skip
      have hsm := joinI_small l b hs i
      have hx := hsm (l.wth.getD i default).1.toNat
      have hy := hsm (l.wth.getD i default).2.toNat
      have hall : ((joinI l b i).getD (l.wth.getD i default).1.toNat 0 ||| (joinI l b i).getD (l.wth.getD i default).2.toNat 0) < 2 ^ 9 := Nat.or_lt_two_pow (n := 9) hx hy
      have hor := ior_nat (a := (joinI l b i).getD (l.wth.getD i default).1.toNat 0) (b := (joinI l b i).getD (l.wth.getD i default).2.toNat 0) (by omega) (by omega)
      generalize hae : ((joinI l b i).getD (l.wth.getD i default).1.toNat 0 ||| (joinI l b i).getD (l.wth.getD i default).2.toNat 0) = all at hall hor
      refine Walk.loop tab_ok [] (fun j : Nat => j ≤ 9) (fun j => [(2, .pim (ldC l)), (3, .ptr 0 0), (4, .ptr 1 0), (10, .sl l.nlw (l.wth.map prA)), (11, .int .i64 l.wth.length), (12, .int .i64 i), (7, .int .i64 all), (25, .int .i64 j)])
        (fun j => [.cells (nats (joinP all (joinI l b i) j)), .cells (nats (List.replicate 9 0)), .cells [.int .i64 (l.wth.getD i default).1, .int .i64 (l.wth.getD i default).2]]) (fun j => 9 - j) 0 (by omega) (by simp only [joinP_zero]; rfl) ⟨rfl, rfl, rfl, rfl, rfl, rfl, congrArg (fun n => some (AV.int .i64 n)) hor, rfl, trivial⟩ ?_
      intro j hj
      have hpl : (joinP all (joinI l b i) j).length = 9 := by rw [joinP_len]; exact hlen
      have hbit := bit_at (set := all) (p := (j : Int)) (by omega) (by omega) (by omega)
      rw [Int.toNat_natCast] at hbit
      conv => whnf
      repeat' first | ((with_reducible apply XBr.dec) <;> (intro h; first | (exfalso; omega) | ((try simp only [List.length_map] at h); first | (exfalso; omega) | (conv => whnf)))) | ((with_reducible apply XBr.beq) <;> (intro h; first | (exfalso; omega) | (conv => whnf))) | ((with_reducible refine XInt.i64 (by omega) (by omega) ?_); conv => whnf) | ((with_reducible refine XHold.mk ?_ ?_); (first | omega | rfl | decide | exact ⟨rfl, by decide, rfl⟩ | exact wideI _ | exact widePr _ | exact wideSk _ | (unfold Room; constructor <;> ((try simp) <;> omega)) | exact ⟨rfl, by simp only [List.length_map], by unfold Room; constructor <;> ((try simp) <;> omega)⟩ | exact ⟨by omega, by omega, by unfold Room; constructor <;> ((try simp) <;> omega)⟩); conv => whnf) | (((with_reducible refine XArr.ptr ?_ ?_ ?_); omega; omega); conv => whnf) | fail
      · rw [Int.toNat_natCast, hbit] at h
        have hb1 : all / 2 ^ j % 2 = 1 := by omega
        refine xdrop_nats (i := j) (by omega) ?_
        conv => whnf
        repeat' first | (((with_reducible refine XArr.ptr ?_ ?_ ?_); omega; omega); conv => whnf) | fail
        have hlt := hsm j
        refine xspl_nats ((joinI l b i).getD j 0 ||| all) (by rw [joinP_at _ _ _ (by omega)]; exact ior_nat (by omega) (by omega)) (by omega) ?_
        conv => whnf
        repeat' first | ((with_reducible refine XInt.i64 (by omega) (by omega) ?_); conv => whnf) | fail
        refine XAgain.go (j + 1) (by omega) (by omega) ?_ ⟨rfl, rfl, rfl, rfl, rfl, rfl, rfl, rfl, trivial⟩
        rw [Int.toNat_natCast, joinP_hit _ _ _ (by omega) hb1]
      · rw [Int.toNat_natCast, hbit] at h
        have hb1 : ¬ all / 2 ^ j % 2 = 1 := by omega
        refine XAgain.go (j + 1) (by omega) (by omega) ?_ ⟨rfl, rfl, rfl, rfl, rfl, rfl, rfl, rfl, trivial⟩
        rw [← joinP_miss _ _ _ hb1]
      · have : j = 9 := by omega
        subst this
        refine XAgainG.go (i + 1) [.cells [.int .i64 (l.wth.getD i default).1, .int .i64 (l.wth.getD i default).2]] (by omega) (by omega) ?_ ⟨rfl, rfl, rfl, rfl, rfl, rfl, trivial⟩
        rw [joinI_next l b i (by omega), ← joinP_full _ _ hlen, hae]; rfl
  · have hie : i = l.wth.length := by omega
    have hfin : joinI l b i = joinR l b := by unfold joinI joinR; rw [hie, List.take_length]
    rw [hfin] at hlen ⊢
    refine xtk_all (by rw [List.length_map]; exact hlen) ?_
    conv => whnf
    refine xn_all (by rw [List.length_map]; exact hlen) ?_
    conv => whnf
    refine xspl_all (by rw [List.length_map, List.length_map]; exact hlen) ?_
    conv => whnf
    refine xtk_all (by rw [List.length_map]; exact hlen) ?_
    conv => whnf
    exact ⟨Froz.low (by show lowL 0 _ = true; exact lowN _)⟩
theorem XInt.eq {x y : Int} {k : AV → Prop} (e : x = y) (h1 : -9223372036854775808 ≤ y) (h2 : y ≤ 9223372036854775807) (h : k (.int .i64 y)) : XInt .i64 x k := by subst e; exact .i64 h1 h2 h
theorem pow9 {n : Nat} (h : n ≤ 9) : 2 ^ n ≤ 512 ∧ 0 < 2 ^ n := ⟨Nat.pow_le_pow_right (n := 2) (by omega) h, Nat.two_pow_pos n⟩
theorem all_c (d : Dk) (h : d.l.sacks.length ≤ 9) : Comp Try.prog 61 [.pim (deskC d)] (.int .i64 ((2 ^ d.l.sacks.length - 1 : Nat) : Int)) := by
  refine Comp.body (T := tab) (res := [.tmp 2]) tab_ok [] Try.func61 rfl (by kernel_rfl) Try.ntmps61 rfl (by simp only [List.length_cons, List.length_nil]; decide) (by simp only [lowL, AV.low, lowDk]; rfl) ?_; conv => whnf
  repeat' first | ((with_reducible refine XHold.mk ?_ ?_); (first | omega | rfl | decide | exact ⟨rfl, by decide, rfl⟩ | exact wideI _ | exact widePr _ | exact wideSk _ | (unfold Room; constructor <;> ((try simp) <;> omega)) | exact ⟨rfl, by simp only [List.length_map], by unfold Room; constructor <;> ((try simp) <;> omega)⟩ | exact ⟨by omega, by omega, by unfold Room; constructor <;> ((try simp) <;> omega)⟩); conv => whnf) | fail
  · have := pow9 h
    refine XInt.eq (y := ((2 ^ d.l.sacks.length : Nat) : Int)) (by rw [List.length_map]; exact shl_nat (by omega)) (by omega) (by omega) ?_
    conv => whnf
    repeat' first | ((with_reducible refine XInt.i64 (by omega) (by omega) ?_); conv => whnf) | fail
    refine XOut.int ?_
    omega
theorem carts_c (d : Dk) (set : Nat) : Comp Try.prog 62 [.pim (deskC d), .int .i64 set] (.fn 105 [.pim [.int .i64 set], .pim [.pim (deskC d)]]) := by
  refine Comp.body (T := tab) (res := [.tmp 4]) tab_ok [] Try.func62 rfl (by kernel_rfl) Try.ntmps62 rfl (by simp only [List.length_cons, List.length_nil]; decide) (by simp only [lowL, AV.low, lowDk]; rfl) ?_; conv => whnf
  skip
  exact ⟨Froz.low (by show lowL 0 _ = true; simp only [lowL, AV.low, lowDk]; rfl)⟩
def lowb (s : Nat) : Nat := diff s (s - 1)
theorem low_all : ∀ s : Fin 512, iand .i64 (s.val : Int) (0 - (s.val : Int)) = ((lowb s.val : Nat) : Int) := by decide +kernel
theorem low_int {s : Nat} (h : s < 512) : iand .i64 (s : Int) (0 - (s : Int)) = ((lowb s : Nat) : Int) := low_all ⟨s, h⟩
theorem AYield.mono {P : Program} {i : Nat} {rs : List AV} {H : List Blk} {k k' : AV → List Blk → Prop} (x : AYield P i rs H k) (hk : ∀ r H', k r H' → k' r H') : AYield P i rs H k' :=
  ⟨x.1, fun E h β w b vs s r e => let ⟨f, tmps, assign, body, h1, h2⟩ := x.2 E h β w b vs s r e; ⟨f, tmps, assign, body, h1, h2.mono fun _ _ => Ends.mono hk⟩⟩
def IterOk (P : Program) (i : Nat) (K : List Blk → Prop) : List Nat → List Blk → Prop
  | [], H => K H
  | c :: cs, H => XYield P i [natA c] H fun r H' => (r = .bool true ∧ IterOk P i K cs H') ∨ (r = .bool false ∧ K H')

theorem diff_le (a b : Nat) : diff a b ≤ a := by
  unfold diff
  have h : a ^^^ (a &&& b) = a &&& (a ^^^ b) := by
    apply Nat.eq_of_testBit_eq; intro i; simp only [Nat.testBit_xor, Nat.testBit_and]
    cases a.testBit i <;> cases b.testBit i <;> rfl
  rw [h]; exact Nat.and_le_left
theorem or9 {a b : Nat} (ha : a < 512) (hb : b < 512) : a ||| b < 512 := Nat.or_lt_two_pow (n := 9) ha hb
theorem lowb_le (s : Nat) : lowb s ≤ s := diff_le ..
def cartsF (d : Dk) (set : Nat) : Nat → Nat → List Nat
  | 0, _ => []
  | f + 1, rest => (if rightB d (rest ||| lowb set) then [rest ||| lowb set] else []) ++ (if rest = 0 then [] else cartsF d set f (diff ((rest - 1) &&& set) (lowb set)))
def cartsL (d : Dk) (set : Nat) : List Nat := cartsF d set 512 (diff set (lowb set))

theorem cartsF_succ (d : Dk) (set f rest : Nat) : cartsF d set (f + 1) rest = (if rightB d (rest ||| lowb set) then [rest ||| lowb set] else []) ++ (if rest = 0 then [] else cartsF d set f (diff ((rest - 1) &&& set) (lowb set))) := rfl
theorem carts1_c (d : Dk) (ok : DkFull d) (set i : Nat) (hs : set < 512) (H : List Blk) (K : List Blk → Prop) (hK : IterOk Try.prog i K (cartsL d set) H) :
    XCall Try.prog 105 [.yld i, .pim [.int .i64 set], .pim [.pim (deskC d)]] H fun _ H' => K H' := by
  refine XCall.inl (T := tab) (res := []) tab_ok [] Try.func105 rfl (by kernel_rfl) Try.ntmps105 rfl (by simp only [List.length_append, List.length_cons, List.length_nil]; decide) ?_; conv => whnf
  repeat' first | ((with_reducible refine XInt.i64 (by omega) (by omega) ?_); conv => whnf) | fail
  have hl := lowb_le set
  have hd := diff_le set (lowb set)
  have e1 : iand .i64 (set : Int) (0 - (set : Int)) = ((lowb set : Nat) : Int) := low_int hs
  have e2 : iandn .i64 (set : Int) ((lowb set : Nat) : Int) = ((diff set (lowb set) : Nat) : Int) := iandn_nat (by omega) (by omega)
  refine Walk.loop tab_ok [] (fun g : Nat × Nat × List Blk => g.1 < 512 ∧ g.1 < g.2.1 ∧ IterOk Try.prog i K (cartsF d set g.2.1 g.1) g.2.2) (fun g => [(0, .yld i), (1, .pim [.int .i64 set]), (2, .pim [.pim (deskC d)]), (4, .int .i64 (lowb set : Nat)), (5, .int .i64 g.1)]) (fun g => g.2.2) (fun g => g.1) (diff set (lowb set), 512, H) ⟨by dsimp only; omega, by dsimp only; omega, hK⟩ rfl ⟨rfl, rfl, rfl, congrArg (fun n => some (AV.int .i64 n)) e1, ?_, trivial⟩ ?_
  · show some (AV.int .i64 (iandn .i64 (set : Int) (iand .i64 (set : Int) (0 - (set : Int))))) = _
    rw [e1, e2]
  rintro ⟨rest, f, H'⟩ ⟨h1, h2, h3⟩
  dsimp only at h1 h2 h3 ⊢
  conv => whnf
  have e3 : ior .i64 (rest : Int) ((lowb set : Nat) : Int) = ((rest ||| lowb set : Nat) : Int) := ior_nat (by omega) (by omega)
  have h4 : rest ||| lowb set < 512 := or9 h1 (by omega)
  have hf : f = (f - 1) + 1 := by omega
  rw [hf] at h3
  have hn := diff_le ((rest - 1) &&& set) (lowb set)
  have hn2 : (rest - 1) &&& set ≤ rest - 1 := Nat.and_le_left
  have e5 : 0 < rest → iandn .i64 (iand .i64 ((rest : Int) - 1) (set : Int)) ((lowb set : Nat) : Int) = ((diff ((rest - 1) &&& set) (lowb set) : Nat) : Int) := by
    intro h0
    have : (rest : Int) - 1 = ((rest - 1 : Nat) : Int) := by omega
    rw [this, iand_nat (by omega) (by omega), iandn_nat (by omega) (by omega)]
  rw [e3]
  refine XCall.ret (right_c d ok _ h4) ?_
  conv => whnf
  repeat' first | ((first | (with_reducible apply XBr.tt) | (with_reducible apply XBr.ff)); conv => whnf) | ((with_reducible apply XBr.beq) <;> (intro h; first | (exfalso; omega) | (conv => whnf))) | ((with_reducible refine XInt.i64 (by omega) (by omega) ?_); conv => whnf) | ((with_reducible apply XBr.mk') <;> (intro h; conv => whnf)) | fail
  · rw [e3]
    have hc : cartsF d set (f - 1 + 1) rest = (rest ||| lowb set) :: (if rest = 0 then [] else cartsF d set (f - 1) (diff ((rest - 1) &&& set) (lowb set))) := by
      rw [cartsF_succ, if_pos h]; rfl
    rw [hc] at h3
    refine ⟨AYield.mono h3.o ?_⟩
    rintro r H'' (⟨rfl, h5⟩ | ⟨rfl, h5⟩)
    · conv => whnf
      repeat' first | ((first | (with_reducible apply XBr.tt) | (with_reducible apply XBr.ff)); conv => whnf) | (with_reducible apply XBr.not) | ((with_reducible apply XBr.beq) <;> (intro h; first | (exfalso; omega) | (conv => whnf))) | ((with_reducible refine XInt.i64 (by omega) (by omega) ?_); conv => whnf) | fail
      · rename_i h0
        rw [if_pos (by omega)] at h5; exact h5
      · rename_i h0
        rw [if_neg (by omega)] at h5
        refine XAgain.go (diff ((rest - 1) &&& set) (lowb set), f - 1, H'') ⟨by dsimp only; omega, by dsimp only; omega, h5⟩ (by dsimp only; omega) rfl ⟨rfl, rfl, rfl, rfl, ?_, trivial⟩
        exact congrArg (fun n => some (AV.int .i64 n)) (e5 (by omega))
    · conv => whnf
      repeat' first | ((first | (with_reducible apply XBr.tt) | (with_reducible apply XBr.ff)); conv => whnf) | (with_reducible apply XBr.not) | fail
      exact h5
  · have hc : cartsF d set (f - 1 + 1) rest = (if rest = 0 then [] else cartsF d set (f - 1) (diff ((rest - 1) &&& set) (lowb set))) := by
      rw [cartsF_succ, if_neg (by simp [*])]; rfl
    rw [hc] at h3
    rename_i h0
    rw [if_pos (by omega)] at h3; exact h3
  · have hc : cartsF d set (f - 1 + 1) rest = (if rest = 0 then [] else cartsF d set (f - 1) (diff ((rest - 1) &&& set) (lowb set))) := by
      rw [cartsF_succ, if_neg (by simp [*])]; rfl
    rw [hc] at h3
    rename_i h0
    rw [if_neg (by omega)] at h3
    refine XAgain.go (diff ((rest - 1) &&& set) (lowb set), f - 1, H') ⟨by dsimp only; omega, by dsimp only; omega, h3⟩ (by dsimp only; omega) rfl ⟨rfl, rfl, rfl, rfl, ?_, trivial⟩
    exact congrArg (fun n => some (AV.int .i64 n)) (e5 (by omega))
def sumW : List Nat → Nat → Nat
  | [], _ => 0
  | w :: ws, s => (if s % 2 = 1 then w else 0) + sumW ws (s / 2)
def wt (l : Ld) (s : Sk) : Nat := (weightR l s).toNat
def wts (l : Ld) : List Nat := l.sacks.map (wt l)
def hvF (ws : List Nat) (n : Nat) : List Nat := (List.range 512).map fun s => if s < n then sumW ws s else 0
def ndI (n : Nat) : List Nat := (List.range 9).map fun i => if i < n then 2 ^ i else 0
theorem sumW_zero : ∀ ws : List Nat, sumW ws 0 = 0
  | [] => rfl
  | w :: ws => by unfold sumW; rw [Nat.zero_div, sumW_zero ws]; rfl
theorem sumW_add : ∀ (ws : List Nat) (i k : Nat), k < 2 ^ i → sumW ws (2 ^ i + k) = sumW ws k + ws.getD i 0
  | [], i, k, _ => by simp [sumW]
  | w :: ws, 0, k, h => by
    have : k = 0 := by simpa using h
    subst this
    simp [sumW, sumW_zero]
  | w :: ws, i + 1, k, h => by
    have e : 2 ^ (i + 1) = 2 * 2 ^ i := by rw [Nat.pow_succ]; omega
    have e1 : (2 ^ (i + 1) + k) % 2 = k % 2 := by omega
    have e2 : (2 ^ (i + 1) + k) / 2 = 2 ^ i + k / 2 := by omega
    unfold sumW
    rw [e1, e2, sumW_add ws i (k / 2) (by omega)]
    simp only [List.getD_cons_succ]; omega
theorem sumW_le : ∀ (ws : List Nat) (s : Nat), (∀ w ∈ ws, w ≤ 100) → sumW ws s ≤ 100 * ws.length
  | [], _, _ => by simp [sumW]
  | w :: ws, s, h => by
    have := sumW_le ws (s / 2) (fun x hx => h x (List.mem_cons_of_mem _ hx))
    have := h w List.mem_cons_self
    unfold sumW; simp only [List.length_cons]; split <;> omega
theorem hvF_len (ws : List Nat) (n : Nat) : (hvF ws n).length = 512 := by simp [hvF]
theorem ndI_len (n : Nat) : (ndI n).length = 9 := by simp [ndI]
theorem hvF_get {ws : List Nat} {n k : Nat} (hk : k < 512) : (hvF ws n).getD k 0 = if k < n then sumW ws k else 0 := by
  unfold hvF; rw [List.getD_eq_getElem?_getD, List.getElem?_map, List.getElem?_range hk]; rfl
theorem hvF_one (ws : List Nat) : hvF ws 1 = List.replicate 512 0 := by
  apply List.ext_getElem (by simp [hvF])
  intro i h1 h2
  simp only [hvF, List.getElem_map, List.getElem_range, List.getElem_replicate]
  split
  · rw [show i = 0 by omega, sumW_zero]
  · rfl
theorem hvF_set {ws : List Nat} {n v : Nat} (hn : n < 512) (hv : v = sumW ws n) : (hvF ws n).set n v = hvF ws (n + 1) := by
  subst hv
  apply List.ext_getElem (by simp [hvF])
  intro i h1 h2
  simp only [hvF, List.getElem_set, List.getElem_map, List.getElem_range]
  by_cases h : n = i
  · subst h; rw [if_pos rfl, if_pos (by omega)]
  · rw [if_neg h]
    by_cases h3 : i < n
    · rw [if_pos h3, if_pos (by omega)]
    · rw [if_neg h3, if_neg (by omega)]
theorem ndI_zero : ndI 0 = List.replicate 9 0 := by decide
theorem ndI_set {n : Nat} (hn : n < 9) : (ndI n).set n (2 ^ n) = ndI (n + 1) := by
  apply List.ext_getElem (by simp [ndI])
  intro i h1 h2
  simp only [ndI, List.getElem_set, List.getElem_map, List.getElem_range]
  by_cases h : n = i
  · subst h; rw [if_pos rfl, if_pos (by omega)]
  · rw [if_neg h]
    by_cases h3 : i < n
    · rw [if_pos h3, if_pos (by omega)]
    · rw [if_neg h3, if_neg (by omega)]
theorem ndI_small (n : Nat) : ∀ i, (ndI n).getD i 0 < 512 := by
  intro i
  rcases Nat.lt_or_ge i 9 with h | h
  · unfold ndI; rw [List.getD_eq_getElem?_getD, List.getElem?_map, List.getElem?_range h]
    simp only [Option.map_some, Option.getD_some]
    split
    · have := Nat.pow_le_pow_right (n := 2) (by omega) (show i ≤ 8 by omega); omega
    · omega
  · rw [List.getD_eq_getElem?_getD, List.getElem?_eq_none (by rw [ndI_len]; omega)]; simp

theorem desk_hv (d : Dk) {i : Nat} (hi : i < d.hv.length) : (deskC d)[5 + i]? = some (natA (d.hv.getD i 0)) := by
  unfold deskC
  rw [show 5 + i = i + 1 + 1 + 1 + 1 + 1 by omega]
  simp only [List.getElem?_cons_succ]
  rw [List.getElem?_append_left (by simpa using hi), List.getElem?_map, List.getD_eq_getElem?_getD, List.getElem?_eq_getElem hi]; rfl
theorem xdrop_dkW {d : Dk} {o : Nat} {k : List AV → Prop} (i : Nat) (ho : o = 5 + i) (hi : i < d.hv.length) (h : k (natA (d.hv.getD i 0) :: (deskC d).drop (o + 1))) : xdrop o (deskC d) k :=
  xdrop_at _ (by rw [ho]; exact desk_hv d hi) h
theorem splice_set {c : List AV} {o : Nat} {v : AV} (ho : o < c.length) : splice c o [v] = c.set o v := by
  rw [List.set_eq_take_append_cons_drop, if_pos ho]; simp [splice]
theorem xspl_dkW {d : Dk} {o : Nat} {v : Int} {k : List AV → Prop} (i m : Nat) (ho : o = 5 + i) (hv : v = (m : Int)) (hi : i < d.hv.length) (h : k (deskC { d with hv := d.hv.set i m })) : xspl (deskC d) o [.int .i64 v] k := by
  subst hv; subst ho
  have hl : 5 + i < (deskC d).length := by simp [deskC]; omega
  refine xspl_to _ (by simp only [List.length_cons, List.length_nil]; omega) ?_ h
  rw [splice_set hl]
  unfold deskC
  rw [show 5 + i = i + 1 + 1 + 1 + 1 + 1 by omega]
  simp only [List.set_cons_succ]
  rw [List.set_append, if_pos (by simpa using hi)]
  simp only [nats, List.map_set, natA]
theorem xspl_dkN {d : Dk} {o : Nat} {v : Int} {k : List AV → Prop} (i m : Nat) (hh : d.hv.length = 512) (ho : o = 517 + i) (hv : v = (m : Int)) (hi : i < d.nd.length) (h : k (deskC { d with nd := d.nd.set i m })) : xspl (deskC d) o [.int .i64 v] k := by
  subst hv; subst ho
  have hl : 517 + i < (deskC d).length := by simp [deskC]; omega
  refine xspl_to _ (by simp only [List.length_cons, List.length_nil]; omega) ?_ h
  rw [splice_set hl]
  unfold deskC
  rw [show 517 + i = 512 + i + 1 + 1 + 1 + 1 + 1 by omega]
  simp only [List.set_cons_succ]
  rw [List.set_append, if_neg (by simp [hh]), List.length_map, hh, Nat.add_sub_cancel_left]
  simp only [nats, List.map_set, natA]
theorem xspl_dkA {d : Dk} {b : List Nat} {k : List AV → Prop} (hh : d.hv.length = 512) (h1 : d.nd.length = 9) (h2 : b.length = 9) (h : k (deskC { d with nd := b })) : xspl (deskC d) 517 (nats b) k := by
  have hl : (deskC d).length = 526 := by simp [deskC, hh, h1]
  refine xspl_to _ (by simp [hl, h2]) ?_ h
  have e : deskC d = (.int .i64 d.l.bears :: .int .i64 d.l.shrink :: .sl d.l.nls (d.l.sacks.map skA) :: .sl d.l.nla (d.l.apart.map prA) :: .sl d.l.nlw (d.l.wth.map prA) :: nats d.hv) ++ nats d.nd := rfl
  unfold splice
  rw [List.drop_eq_nil_of_le (by simp [hl, h2]), List.append_nil, e, List.take_left' (by simp [hh])]
  rfl

def closeF (l : Ld) : Nat → List Nat → List Nat
  | 0, b => b
  | n + 1, b => if joinR l b = b then b else closeF l n (joinR l b)
def msr (b : List Nat) : Nat := (b.map fun x => 512 - x).sum
def openD (l : Ld) : Dk := ⟨l, hvF (wts l) (2 ^ l.sacks.length), closeF l 5000 (ndI l.sacks.length)⟩
theorem joinStep_ge (b : List Nat) (p : Int × Int) (i : Nat) : b.getD i 0 ≤ (joinStep b p).getD i 0 := by
  unfold joinStep
  simp only [List.getD_eq_getElem?_getD, List.getElem?_mapIdx]
  rcases Nat.lt_or_ge i b.length with h | h
  · rw [List.getElem?_eq_getElem h]
    simp only [Option.map_some, Option.getD_some]
    split
    · exact Nat.left_le_or
    · exact Nat.le_refl _
  · rw [List.getElem?_eq_none h]; simp
theorem foldl_ge : ∀ (ps : List (Int × Int)) (b : List Nat) (i : Nat), b.getD i 0 ≤ (ps.foldl joinStep b).getD i 0
  | [], _, _ => Nat.le_refl _
  | p :: ps, b, i => by rw [List.foldl_cons]; exact Nat.le_trans (joinStep_ge b p i) (foldl_ge ps _ i)
theorem joinR_ge (l : Ld) (b : List Nat) (i : Nat) : b.getD i 0 ≤ (joinR l b).getD i 0 := foldl_ge _ _ _
theorem joinR_len (l : Ld) (b : List Nat) : (joinR l b).length = b.length := foldl_len _ _
theorem joinR_small (l : Ld) (b : List Nat) (hs : ∀ i, b.getD i 0 < 512) : ∀ i, (joinR l b).getD i 0 < 512 := by
  have := joinI_small l b hs l.wth.length
  unfold joinI at this; rwa [List.take_length] at this
theorem msr_lt : ∀ (a b : List Nat), a.length = b.length → (∀ i, a.getD i 0 ≤ b.getD i 0) → (∀ i, b.getD i 0 < 512) → a ≠ b → msr b < msr a
  | [], [], _, _, _, h => absurd rfl h
  | x :: a, y :: b, hl, h1, h2, h3 => by
    have g1 := h1 0
    have g2 := h2 0
    simp only [List.getD_cons_zero] at g1 g2
    have i1 : ∀ i, a.getD i 0 ≤ b.getD i 0 := fun i => by simpa using h1 (i + 1)
    have i2 : ∀ i, b.getD i 0 < 512 := fun i => by simpa using h2 (i + 1)
    simp only [msr, List.map_cons, List.sum_cons]
    by_cases hab : a = b
    · subst hab
      have : x ≠ y := fun e => h3 (by rw [e])
      omega
    · have := msr_lt a b (by simpa using hl) i1 i2 hab
      unfold msr at this; omega
  | [], _ :: _, hl, _, _, _ => by simp at hl
  | _ :: _, [], hl, _, _, _ => by simp at hl
theorem msr_le (b : List Nat) (hb : b.length = 9) : msr b ≤ 4608 := by
  unfold msr
  match b, hb with
  | [a1, a2, a3, a4, a5, a6, a7, a8, a9], _ => simp; omega
theorem closeF_step (l : Ld) (n : Nat) (b : List Nat) (h : joinR l b ≠ b) : closeF l (n + 1) b = closeF l n (joinR l b) := by
  show (if joinR l b = b then b else _) = _; rw [if_neg h]
theorem closeF_stop (l : Ld) (n : Nat) (b : List Nat) (h : joinR l b = b) : closeF l n b = b := by
  cases n with
  | zero => rfl
  | succ n => show (if joinR l b = b then b else _) = _; rw [if_pos h]
structure LdOk (l : Ld) : Prop where
  n : l.sacks.length ≤ 9
  na : l.apart.length ≤ 8
  nw : l.wth.length ≤ 8
  b1 : 1 ≤ l.bears
  b2 : l.bears ≤ 100
  s1 : 0 ≤ l.shrink
  s2 : l.shrink ≤ 90
  sk : ∀ s ∈ l.sacks, 1 ≤ s.m ∧ s.m ≤ 100 ∧ 0 ≤ s.o ∧ s.o ≤ 5
  ap : ∀ p ∈ l.apart, 0 ≤ p.1 ∧ p.1 < l.sacks.length ∧ 0 ≤ p.2 ∧ p.2 < l.sacks.length ∧ p.1 ≠ p.2
  wp : ∀ p ∈ l.wth, 0 ≤ p.1 ∧ p.1 < l.sacks.length ∧ 0 ≤ p.2 ∧ p.2 < l.sacks.length ∧ p.1 ≠ p.2
theorem inB_iff {n lo hi : Int} : inB n lo hi = true ↔ lo ≤ n ∧ n ≤ hi := by simp [inB]
theorem checkR_ok (l : Ld) : checkR l = 0 ↔ LdOk l := by
  unfold checkR
  constructor
  · intro h
    split at h
    · cases h
    rename_i h1
    split at h
    · cases h
    rename_i h2
    split at h
    · cases h
    rename_i h3
    split at h
    · cases h
    rename_i h4
    split at h
    · cases h
    rename_i h5
    simp only [Bool.not_eq_false, Bool.and_eq_true, inB_iff, List.all_eq_true, prIn, List.mem_append, bne_iff_ne] at h2 h3 h4 h5
    refine ⟨by omega, by omega, by omega, by omega, by omega, by omega, by omega, fun s hs => ?_, fun p hp => ?_, fun p hp => ?_⟩
    · have := h3 s hs; omega
    · have a := h4 p (.inl hp); have b := h5 p (.inl hp); exact ⟨by omega, by omega, by omega, by omega, b⟩
    · have a := h4 p (.inr hp); have b := h5 p (.inr hp); exact ⟨by omega, by omega, by omega, by omega, b⟩
  · intro o
    rw [if_neg (by have := o.n; have := o.na; have := o.nw; omega)]
    rw [if_neg (by simp only [Bool.not_eq_false, Bool.and_eq_true, inB_iff]; have := o.b1; have := o.b2; have := o.s1; have := o.s2; omega)]
    rw [if_neg (by simp only [Bool.not_eq_false, Bool.and_eq_true, inB_iff, List.all_eq_true]; intro s hs; have := o.sk s hs; omega)]
    rw [if_neg (by
      simp only [Bool.not_eq_false, Bool.and_eq_true, inB_iff, List.all_eq_true, prIn, List.mem_append]
      rintro p (hp | hp)
      · have := o.ap p hp; omega
      · have := o.wp p hp; omega)]
    rw [if_neg (by
      simp only [Bool.not_eq_false, List.all_eq_true, List.mem_append, bne_iff_ne]
      rintro p (hp | hp)
      · exact (o.ap p hp).2.2.2.2
      · exact (o.wp p hp).2.2.2.2)]
theorem wt_le {l : Ld} (o : LdOk l) {s : Sk} (hs : s ∈ l.sacks) : (wt l s : Int) = weightR l s ∧ 1 ≤ wt l s ∧ wt l s ≤ 100 := by
  have h := o.sk s hs
  have h1 := o.s1
  have h2 := o.s2
  have e : s.m * l.shrink ≤ s.m * 90 := Int.mul_le_mul_of_nonneg_left h2 (by omega)
  have e0 : 0 ≤ s.m * l.shrink := Int.mul_nonneg (by omega) h1
  unfold wt weightR
  omega
theorem wts_le {l : Ld} (o : LdOk l) : ∀ w ∈ wts l, w ≤ 100 := by
  intro w hw
  obtain ⟨s, hs, rfl⟩ := List.mem_map.1 hw
  exact (wt_le o hs).2.2
theorem wts_get (l : Ld) {i : Nat} (hi : i < l.sacks.length) : (wts l).getD i 0 = wt l (l.sacks.getD i default) := by
  unfold wts; rw [List.getD_eq_getElem?_getD, List.getElem?_map, List.getD_eq_getElem?_getD, List.getElem?_eq_getElem hi]; rfl
theorem hvF_le {l : Ld} (o : LdOk l) (n i : Nat) : (hvF (wts l) n).getD i 0 ≤ 900 := by
  rcases Nat.lt_or_ge i 512 with h | h
  · rw [hvF_get h]
    split
    · have h1 := sumW_le (wts l) i (wts_le o)
      have h2 : (wts l).length = l.sacks.length := by simp [wts]
      have := o.n
      omega
    · omega
  · rw [List.getD_eq_getElem?_getD, List.getElem?_eq_none (by rw [hvF_len]; omega)]; simp
theorem lowOne {d : Dk} : ∀ x ∈ deskC d, x.one = true := by
  intro x hx
  simp only [deskC, List.mem_cons, List.mem_append, List.mem_map] at hx
  rcases hx with rfl | rfl | rfl | rfl | rfl | ⟨_, _, rfl⟩ | ⟨_, _, rfl⟩ <;> rfl
def openR (l : Ld) : AV := if checkR l = 0 then .tup [.pim (deskC (openD l)), .int .i64 0] else .tup [.nilp, .int .i64 (checkR l)]
theorem arr_eq {xs ys : List Nat} : ((xs.map fun n : Nat => (n : Int)) == (ys.map fun n : Nat => (n : Int))) = (xs == ys) := by
  rw [Bool.eq_iff_iff, beq_iff_eq, beq_iff_eq]
  exact ⟨fun h => (List.map_inj_right (fun _ _ => Int.ofNat.inj)).1 h, fun h => by rw [h]⟩
theorem nats_ints (b : List Nat) : nats b = (b.map fun n : Nat => (n : Int)).map (.int .i64) := by simp [nats, natA]

set_option maxHeartbeats 1000000 in
theorem opened_c (l : Ld) (hw : l.nla = true → l.apart = []) (h1 : l.sacks.length ≤ 100000) (h2 : l.apart.length ≤ 1000) (h3 : l.wth.length ≤ 1000) : Comp Try.prog 59 [ldA l] (openR l) := by
  refine Comp.body' (T := tab) (res := [.tmp 2, .tmp 3]) tab_ok [17] Try.func59 rfl (by kernel_rfl) Try.ntmps59 rfl (by simp only [List.length_cons, List.length_nil]; decide) (by simp only [lowL, AV.low, ldL]; rfl) ?_; conv => whnf
  refine XCall.ret (check_c l hw h1 h2 h3) ?_
  conv => whnf
  repeat' first | ((with_reducible apply XBr.bne) <;> (intro h; first | (exfalso; omega) | (conv => whnf))) | fail
  · refine ⟨?_⟩
    unfold openR; rw [if_neg h]
    exact Froz.low rfl
  have ok := (checkR_ok l).1 h
  have g := ok.n
  refine Walk.loopG tab_ok [] (fun i : Nat => i ≤ l.sacks.length) (fun i => [(1, .pim (ldC l)), (5, .ptr 0 0), (19, .sl l.nls (l.sacks.map skA)), (20, .int .i64 l.sacks.length), (21, .int .i64 i)])
    (fun i => [.cells (deskC ⟨l, hvF (wts l) (2 ^ i), ndI i⟩)]) (fun i => l.sacks.length - i) 0 (by omega) ?_ ⟨rfl, rfl, rfl, by simp only [List.length_map]; rfl, rfl, trivial⟩ ?_ ?_ ?_
  · rw [show 2 ^ 0 = 1 from rfl, hvF_one, ndI_zero]; unfold deskC; simp only [nats, List.map_replicate, List.replicate_append_replicate]; rfl
  · intro i _
    constructor
    · intro x hx; simp at hx; subst hx
      simp only [Blk.low, lowDk]
    · intro p hp; simp at hp; rcases hp with rfl | rfl | rfl | rfl | rfl <;> simp [AV.low, lowSk, lowLd]
  · intro i _; simp
  · intro i hi
    conv => whnf
    repeat' first | ((with_reducible apply XBr.dec) <;> (intro h; first | (exfalso; omega) | ((try simp only [List.length_map] at h); first | (exfalso; omega) | (conv => whnf)))) | (((with_reducible refine XIx.nat ?_ ?_ ?_); omega; (intro _; rfl)); conv => whnf) | fail
    · have p9 := pow9 (n := i) (by omega)
      have hsm := getD_mem (xs := l.sacks) (i := i) (d := default) (by omega)
      have hw2 := wt_le ok hsm
      have hok := ok.sk _ hsm
      have hs1 := ok.s1
      have hs2 := ok.s2
      generalize hse : l.sacks.getD i default = s at hsm hw2 hok
      apply Walk.drawX tab_ok mixed_ok [] [7] (hsC [[.cells (deskC ⟨l, hvF (wts l) (2 ^ i), ndI i⟩), .cells [.int .i64 s.m, .int .i64 s.o]], [.cells (deskC ⟨l, hvF (wts l) (2 ^ i), (ndI i).set i (2 ^ i)⟩), .cells [.int .i64 s.m, .int .i64 s.o]]])
        [_, _, _, natA (2 ^ i), _, _, _, _] (by kernel_rfl) rfl
      · skip
        repeat' first | ((with_reducible refine XHold.mk ?_ ?_); (first | omega | rfl | decide | exact ⟨rfl, by decide, rfl⟩ | exact wideI _ | exact widePr _ | exact wideSk _ | (unfold Room; constructor <;> ((try simp) <;> omega)) | exact ⟨rfl, by simp only [List.length_map], by unfold Room; constructor <;> ((try simp) <;> omega)⟩ | exact ⟨by omega, by omega, by unfold Room; constructor <;> ((try simp) <;> omega)⟩); conv => whnf) | (with_reducible apply XAnd.mk) | ((first | (with_reducible apply Chk.go) | (with_reducible apply ChkA.go)); conv => whnf) | (exact XSame.mk rfl rfl) | (with_reducible exact trivial) | ((first | ((with_reducible refine XArr.ptr ?_ ?_ ?_); omega; omega) | (refine XInt.eq (y := ((2 ^ i : Nat) : Int)) (shl_nat (by omega)) (by omega) (by omega) ?_) | (refine xspl_dkN i (2 ^ i) (hvF_len _ _) (by omega) rfl (by rw [ndI_len]; omega) ?_)); conv => whnf) | fail
      · skip
        repeat' first | (with_reducible apply XAnd.mk) | ((first | (with_reducible apply Chk.go) | (with_reducible apply ChkF.go) | (with_reducible apply ChkB.go)); conv => whnf) | (exact XSame.mk rfl rfl) | (with_reducible exact trivial) | fail
      · rw [ndI_set (by omega)]
        conv => whnf
        repeat' first | ((with_reducible refine XHold.mk ?_ ?_); (first | omega | rfl | decide | exact ⟨rfl, by decide, rfl⟩ | exact wideI _ | exact widePr _ | exact wideSk _ | (unfold Room; constructor <;> ((try simp) <;> omega)) | exact ⟨rfl, by simp only [List.length_map], by unfold Room; constructor <;> ((try simp) <;> omega)⟩ | exact ⟨by omega, by omega, by unfold Room; constructor <;> ((try simp) <;> omega)⟩); conv => whnf) | fail
        refine XInt.eq (y := ((2 ^ i : Nat) : Int)) (shl_nat (by omega)) (by omega) (by omega) ?_
        conv => whnf
        refine Walk.loop tab_ok [] (fun k : Nat => k ≤ 2 ^ i) (fun k => [(1, .pim (ldC l)), (5, .ptr 0 0), (19, .sl l.nls (l.sacks.map skA)), (20, .int .i64 l.sacks.length), (21, .int .i64 i), (6, .int .i64 i), (7, .ptr 1 0), (34, .int .i64 (2 ^ i : Nat)), (35, .int .i64 k)])
          (fun k => [.cells (deskC ⟨l, hvF (wts l) (2 ^ i + k), ndI (i + 1)⟩), .cells [.int .i64 s.m, .int .i64 s.o]]) (fun k => 2 ^ i - k) 0 (by omega) rfl ⟨rfl, rfl, rfl, rfl, rfl, rfl, rfl, rfl, rfl, trivial⟩ ?_
        intro k hk
        conv => whnf
        repeat' first | ((with_reducible apply XBr.dec) <;> (intro h; first | (exfalso; omega) | ((try simp only [List.length_map] at h); first | (exfalso; omega) | (conv => whnf)))) | ((with_reducible refine XInt.i64 (by omega) (by omega) ?_); conv => whnf) | fail
        · have p8 : 2 ^ i ≤ 256 := Nat.pow_le_pow_right (n := 2) (by omega) (show i ≤ 8 by omega)
          have hk2 : k < 2 ^ i := by omega
          have hle := hvF_le ok (2 ^ i + k) k
          have hor : ior .i64 (k : Int) ((2 ^ i : Nat) : Int) = ((2 ^ i + k : Nat) : Int) := by
            rw [ior_nat (by omega) (by omega)]
            have := Nat.two_pow_add_eq_or_of_lt hk2 1
            rw [Nat.mul_one] at this; rw [this, Nat.or_comm]
          have hget : (hvF (wts l) (2 ^ i + k)).getD k 0 = sumW (wts l) k := by rw [hvF_get (by omega), if_pos (by omega)]
          have hsum : sumW (wts l) (2 ^ i + k) = sumW (wts l) k + wt l s := by rw [sumW_add _ _ _ hk2, wts_get l (by omega), hse]
          have hset : (hvF (wts l) (2 ^ i + k)).set (2 ^ i + k) (sumW (wts l) k + wt l s) = hvF (wts l) (2 ^ i + (k + 1)) := hvF_set (by omega) hsum.symm
          rw [hget] at hle
          apply Walk.drawX tab_ok mixed_ok [] [18] (hsC [[.cells (deskC ⟨l, hvF (wts l) (2 ^ i + k), ndI (i + 1)⟩), .cells [.int .i64 s.m, .int .i64 s.o]], [.cells (deskC ⟨l, hvF (wts l) (2 ^ i + (k + 1)), ndI (i + 1)⟩), .cells [.int .i64 s.m, .int .i64 s.o]]])
            [_, _, _, natA (2 ^ i), natA (2 ^ i + k), _, _, _, _, _, natA (sumW (wts l) k), _, _, natA (wt l s), natA (sumW (wts l) k + wt l s), _, _, _, _] (by kernel_rfl) rfl
          · skip
            repeat' first | ((with_reducible refine XInt.i64 (by omega) (by omega) ?_); conv => whnf) | ((with_reducible refine XHold.mk ?_ ?_); (first | omega | rfl | decide | exact ⟨rfl, by decide, rfl⟩ | exact wideI _ | exact widePr _ | exact wideSk _ | (unfold Room; constructor <;> ((try simp) <;> omega)) | exact ⟨rfl, by simp only [List.length_map], by unfold Room; constructor <;> ((try simp) <;> omega)⟩ | exact ⟨by omega, by omega, by unfold Room; constructor <;> ((try simp) <;> omega)⟩); conv => whnf) | (with_reducible apply XAnd.mk) | ((first | (with_reducible apply Chk.go) | (with_reducible apply ChkA.go)); conv => whnf) | (exact XSame.mk rfl rfl) | (with_reducible exact trivial) | ((first | ((with_reducible refine XArr.ptr ?_ ?_ ?_); omega; omega) | (refine XInt.eq (y := ((2 ^ i : Nat) : Int)) (shl_nat (by omega)) (by omega) (by omega) ?_)); conv => whnf) | (exact XSame.mk (congrArg (AV.int .i64) hor) rfl) | ((refine xdrop_dkW (d := ⟨l, hvF (wts l) (2 ^ i + k), ndI (i + 1)⟩) k (by omega) (by rw [hvF_len]; omega) ?_); conv => whnf) | (exact XSame.mk (congrArg (fun n : Nat => AV.int .i64 n) hget) rfl) | ((refine XCall.ret (weight_c l s (by omega) (by omega) (by omega) (by omega)) ?_); conv => whnf) | (exact XSame.mk (congrArg (AV.int .i64) hw2.1.symm) rfl) | (((refine xspl_dkW (d := ⟨l, hvF (wts l) (2 ^ i + k), ndI (i + 1)⟩) (2 ^ i + k) (sumW (wts l) k + wt l s) (by omega) rfl (by rw [hvF_len]; omega) ?_); dsimp only; rw [hset]); conv => whnf) | fail
          · skip
            repeat' first | (with_reducible apply XAnd.mk) | ((first | (with_reducible apply Chk.go) | (with_reducible apply ChkF.go) | (with_reducible apply ChkB.go)); conv => whnf) | (exact XSame.mk rfl rfl) | (with_reducible exact trivial) | fail
          · conv => whnf
            repeat' first | ((with_reducible refine XInt.i64 (by omega) (by omega) ?_); conv => whnf) | fail
            exact XAgain.go (k + 1) (by omega) (by omega) rfl ⟨rfl, rfl, rfl, rfl, rfl, rfl, rfl, rfl, rfl, trivial⟩
        · have hke : k = 2 ^ i := by omega
          refine XAgainG.go (i + 1) [.cells [.int .i64 s.m, .int .i64 s.o]] (by omega) (by omega) ?_ ⟨rfl, rfl, rfl, rfl, rfl, trivial⟩
          subst hke
          rw [show 2 ^ (i + 1) = 2 ^ i + 2 ^ i by rw [Nat.pow_succ]; omega]; rfl
    · have hie : i = l.sacks.length := by omega
      subst hie
      clear hi h g
      have hfin : openR l = .tup [.pim (deskC ⟨l, hvF (wts l) (2 ^ l.sacks.length), closeF l 5000 (ndI l.sacks.length)⟩), .int .i64 0] := by
        unfold openR; rw [if_pos ((checkR_ok l).2 ok)]; rfl
      have hl := hvF_len (wts l) (2 ^ l.sacks.length)
      have bl := ndI_len l.sacks.length
      have bs := ndI_small l.sacks.length
      generalize hvF (wts l) (2 ^ l.sacks.length) = hv at hl hfin ⊢
      generalize ndI l.sacks.length = b0 at bl bs hfin ⊢
      have hwp : ∀ p ∈ l.wth, 0 ≤ p.1 ∧ p.1 < 9 ∧ 0 ≤ p.2 ∧ p.2 < 9 := fun p hp => by have := ok.wp p hp; have := ok.n; omega
      have jl := joinR_len l b0
      generalize hcl : closeF l 5000 b0 = res at hfin
      apply Walk.drawX tab_ok mixed_ok [] [6, 7] (hsC [[.cells (deskC ⟨l, hv, b0⟩)], [.cells (deskC ⟨l, hv, b0⟩), .cells (nats (List.replicate 9 0))], [.cells (deskC ⟨l, hv, b0⟩), .cells (nats (joinR l b0))]])
        [_, _, _, _, .agg (nats b0), .agg (nats (joinR l b0)), _, _] (by kernel_rfl) rfl
      · skip
        repeat' first | (with_reducible apply XAnd.mk) | ((first | (with_reducible apply Chk.go) | (with_reducible apply ChkA.go)); conv => whnf) | (exact XSame.mk rfl rfl) | (with_reducible exact trivial) | ((first | (with_reducible refine xdrop_app (by rw [List.length_map]; omega) ?_) | (refine xtk_all (by rw [List.length_map]; exact bl) ?_) | (refine XCall.ret (joined_c l b0 bl bs ok.nw hwp) ?_) | (refine xn_all (by rw [List.length_map, jl]; exact bl) ?_) | (refine xspl_all (by rw [List.length_map, List.length_map, List.length_replicate]; omega) ?_)); conv => whnf) | fail
      · skip
        repeat' first | (with_reducible apply XAnd.mk) | ((first | (with_reducible apply Chk.go) | (with_reducible apply ChkF.go) | (with_reducible apply ChkB.go)); conv => whnf) | (exact XSame.mk rfl rfl) | (with_reducible exact trivial) | ((first | (with_reducible refine xdrop_app (by rw [List.length_map]; omega) ?_) | (refine xtk_all (by rw [List.length_map]; exact bl) ?_) | (refine XCall.ret (joined_c l b0 bl bs ok.nw hwp) ?_)); conv => whnf) | fail
      · conv => whnf
        refine Walk.loopR tab_ok [] (fun g : Option (List Nat) × Nat × List Nat => g.2.2.length = 9 ∧ (∀ i, g.2.2.getD i 0 < 512) ∧ closeF l g.2.1 g.2.2 = res ∧ msr g.2.2 < g.2.1)
          (fun g => [(1, .pim (ldC l)), (5, .ptr 0 0), (9, .ptr (match g.1 with | none => 1 | some _ => 2) 0)])
          (fun g => match g.1 with | none => [.cells (deskC ⟨l, hv, g.2.2⟩), .cells (nats (joinR l g.2.2))] | some x => [.cells (deskC ⟨l, hv, g.2.2⟩), .cells (nats x), .cells (nats (joinR l g.2.2))])
          (fun g => g.2.1) (none, 5000, b0) 2 ⟨bl, bs, hcl, by have := msr_le b0 bl; dsimp only; omega⟩ rfl rfl ⟨rfl, rfl, rfl, trivial⟩ ?_
        rintro ⟨ph, n, b⟩ ⟨gl, gs, gc, gm⟩
        dsimp only at gl gs gc gm ⊢
        have jl := joinR_len l b
        have js := joinR_small l b gs
        have jl2 := joinR_len l (joinR l b)
        have hn : n = n - 1 + 1 := by omega
        have hge : joinR l b ≠ b → msr (joinR l b) < msr b := fun h => msr_lt _ _ jl.symm (joinR_ge l b) js (fun e => h e.symm)
        have hstep : joinR l b ≠ b → closeF l (n - 1) (joinR l b) = res := fun h => by
          have := closeF_step l (n - 1) b h
          rw [← hn] at this; rw [← this]; exact gc
        rcases ph with _ | x
        · skip
          conv => whnf
          apply Walk.drawX tab_ok mixed_ok [] [] (hsK _) [.agg (nats (joinR l b)), _, _, _, .agg (nats b), .bool (joinR l b != b)] (by kernel_rfl) rfl
          · skip
            repeat' first | (with_reducible apply XAnd.mk) | ((first | (with_reducible apply Chk.go) | (with_reducible apply ChkA.go)); conv => whnf) | (exact XSame.mk rfl rfl) | (with_reducible exact trivial) | ((first | (with_reducible refine xdrop_app (by rw [List.length_map]; omega) ?_) | (refine xtk_all (by rw [List.length_map]; first | exact gl | (rw [jl]; exact gl)) ?_)); conv => whnf) | fail
            refine ⟨_, _, nats_ints _, nats_ints _, by simp [jl], by rw [List.length_map, jl, gl], ?_⟩
            exact XSame.mk (by rw [arr_eq]; rfl) rfl
          · skip
            repeat' first | (with_reducible apply XAnd.mk) | ((first | (with_reducible apply ChkF.go) | (with_reducible apply ChkB.go)); conv => whnf) | (with_reducible exact trivial) | fail
          · conv => whnf
            repeat' first | ((first | (refine xtk_all (by rw [List.length_map]; first | exact gl | (rw [jl]; exact gl)) ?_) | ((refine xn_all (by rw [List.length_map]; first | (rw [jl]; exact gl) | (rw [jl2, jl]; exact gl)) ?_); (first | (refine xspl_dkA (d := ⟨l, hv, b⟩) hl gl (by rw [jl]; exact gl) ?_) | skip)) | (refine xspl_all (by simp [jl2, jl, gl]) ?_) | (refine XCall.ret (joined_c l (joinR l b) (by rw [jl]; exact gl) js ok.nw hwp) ?_)); conv => whnf) | ((with_reducible apply XBr.mk') <;> (intro h; conv => whnf)) | fail
            · have hne : joinR l b ≠ b := by simpa using h
              have := hge hne
              have := hstep hne
              exact XAgainR.go (some (joinR l b), n - 1, joinR l b) [0, 1, 2] ⟨by dsimp only; omega, js, this, by dsimp only; omega⟩ (by dsimp only; omega) ⟨rfl, by decide, fun i hi => by rcases i with _ | _ | i <;> first | rfl | (exfalso; omega), by decide⟩
                (fun x hx => by simp at hx; rcases hx with rfl | rfl | rfl <;> first | exact lowDk _ | exact lowN _)
                (fun i x hi hx => by rcases i with _ | _ | i <;> first | (cases hx; first | exact lowDk _ | exact lowN _) | (exfalso; omega))
                ⟨.inl ⟨rfl, lowDk _⟩, .inl ⟨rfl, lowN _⟩, .inl ⟨rfl, lowN _⟩, trivial⟩
                ⟨⟨.inl ⟨rfl, lowLd _⟩, lowLd _⟩, ⟨.inl ⟨rfl, rfl⟩, rfl⟩, ⟨.inr rfl, rfl⟩, trivial⟩
            · have he : joinR l b = b := by simpa using h
              rw [closeF_stop _ _ _ he] at gc
              rw [← gc] at hfin
              rw [hfin]
              exact ⟨Froz.tup (.cons (Froz.ptr rfl (lowOne (d := ⟨l, hv, b⟩)) (FrozL.low (lowDk _))) (.cons (Froz.low rfl) .nil))⟩
        · skip
          conv => whnf
          apply Walk.drawX tab_ok mixed_ok [] [] (hsK _) [.agg (nats (joinR l b)), _, _, _, .agg (nats b), .bool (joinR l b != b)] (by kernel_rfl) rfl
          · skip
            repeat' first | (with_reducible apply XAnd.mk) | ((first | (with_reducible apply Chk.go) | (with_reducible apply ChkA.go)); conv => whnf) | (exact XSame.mk rfl rfl) | (with_reducible exact trivial) | ((first | (with_reducible refine xdrop_app (by rw [List.length_map]; omega) ?_) | (refine xtk_all (by rw [List.length_map]; first | exact gl | (rw [jl]; exact gl)) ?_)); conv => whnf) | fail
            refine ⟨_, _, nats_ints _, nats_ints _, by simp [jl], by rw [List.length_map, jl, gl], ?_⟩
            exact XSame.mk (by rw [arr_eq]; rfl) rfl
          · skip
            repeat' first | (with_reducible apply XAnd.mk) | ((first | (with_reducible apply ChkF.go) | (with_reducible apply ChkB.go)); conv => whnf) | (with_reducible exact trivial) | fail
          · conv => whnf
            repeat' first | ((first | (refine xtk_all (by rw [List.length_map]; first | exact gl | (rw [jl]; exact gl)) ?_) | ((refine xn_all (by rw [List.length_map]; first | (rw [jl]; exact gl) | (rw [jl2, jl]; exact gl)) ?_); (first | (refine xspl_dkA (d := ⟨l, hv, b⟩) hl gl (by rw [jl]; exact gl) ?_) | skip)) | (refine xspl_all (by simp [jl2, jl, gl]) ?_) | (refine XCall.ret (joined_c l (joinR l b) (by rw [jl]; exact gl) js ok.nw hwp) ?_)); conv => whnf) | ((with_reducible apply XBr.mk') <;> (intro h; conv => whnf)) | fail
            · have hne : joinR l b ≠ b := by simpa using h
              have := hge hne
              have := hstep hne
              exact XAgainR.go (some x, n - 1, joinR l b) [0, 1, 3] ⟨by dsimp only; omega, js, this, by dsimp only; omega⟩ (by dsimp only; omega) ⟨rfl, by decide, fun i hi => by rcases i with _ | _ | i <;> first | rfl | (exfalso; omega), by decide⟩
                (fun x hx => by simp at hx; rcases hx with rfl | rfl | rfl <;> first | exact lowDk _ | exact lowN _)
                (fun i x hi hx => by rcases i with _ | _ | i <;> first | (cases hx; first | exact lowDk _ | exact lowN _) | (exfalso; omega))
                ⟨.inl ⟨rfl, lowDk _⟩, .inl ⟨rfl, lowN _⟩, .inl ⟨rfl, lowN _⟩, trivial⟩
                ⟨⟨.inl ⟨rfl, lowLd _⟩, lowLd _⟩, ⟨.inl ⟨rfl, rfl⟩, rfl⟩, ⟨.inr rfl, rfl⟩, trivial⟩
            · have he : joinR l b = b := by simpa using h
              rw [closeF_stop _ _ _ he] at gc
              rw [← gc] at hfin
              rw [hfin]
              exact ⟨Froz.tup (.cons (Froz.ptr rfl (lowOne (d := ⟨l, hv, b⟩)) (FrozL.low (lowDk _))) (.cons (Froz.low rfl) .nil))⟩
end GA
end
