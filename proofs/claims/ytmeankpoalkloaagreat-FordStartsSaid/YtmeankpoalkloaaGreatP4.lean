/- Part 4 of a proof: Abs31, Abs32, Abs34, AbsS, Abs35, AbsI, K1, D28, Abs36, Abs37, Abs38, Abs39, Abs40, FB, F0, F29, F1, F8, F2, F4. -/
import Derived.Test.YtmeankpoalkloaaGreatP3
import Derived.Shelf.Spec.SlicesInsert
import Derived.Shelf.Spec.SlicesInsertGrow
import Derived.Test.YtmeankpoalkloaaGreatRows
section
namespace GA
open Go Go.RowKit
set_option linter.unusedVariables false
set_option linter.unusedSimpArgs false

section
variable {P : Program} {T : Tab} {N : Nat} {ρ : Option Nat} {own : List Nat} {E : Env} {h h' : Nat → Option Obj} {β β' : Nat → Value} {H H' Hn : List Blk} {w w' : World} {σ : St} {D : List Nat}

structure Gives (P : Program) (f : FuncId) (rs : List AV) (r : AV) (Hn : List Blk) : Prop where
  lo : lowL 0 rs = true
  lr : r.low Hn.length = true
  lH : ∀ x ∈ Hn, x.low Hn.length = true
  o : ACall P f rs [] fun r' H' => r' = r ∧ H' = Hn

theorem SR.beside (s : SR P E h β H w) {E' : Env} (hb : E'.b = E.b) (h1 : ∀ i b, blkOf β H i = some b → E'.fr b = w.heap[b]?) (h2 : ∀ b, (∀ i, blkOf β H i ≠ some b) → E'.fr b = E.fr b)
    (X : Ext h β [] h' β' Hn) (s' : SR P E' h' β' Hn w') (lo : ∀ x ∈ Hn, x.low Hn.length = true) :
    ∃ β'', Ren (H.length + ·) β' Hn β'' (H ++ Hn.map (Blk.ren (H.length + ·))) ∧ Ext h β H h' β'' (H ++ Hn.map (Blk.ren (H.length + ·))) ∧ SR P E h' β'' (H ++ Hn.map (Blk.ren (H.length + ·))) w' := by
  let β'' : Nat → Value := fun i => if i < H.length then β i else β' (i - H.length)
  have b1 : ∀ i, i < H.length → β'' i = β i := fun i hi => if_pos hi
  have b2 : ∀ i, β'' (H.length + i) = β' i := fun i => by
    show (if H.length + i < H.length then β (H.length + i) else β' (H.length + i - H.length)) = β' i
    rw [if_neg (by omega)]; congr 1; omega
  have R : Ren (H.length + ·) β' Hn β'' (H ++ Hn.map (Blk.ren (H.length + ·))) := by
    refine ⟨fun i x e => ?_, fun i hi => b2 i⟩
    rw [List.getElem?_append_right (by omega), List.getElem?_map, show H.length + i - H.length = i by omega, e]; rfl
  have hlow : ∀ i, i < H.length → (H ++ Hn.map (Blk.ren (H.length + ·)))[i]? = H[i]? := fun i hi => List.getElem?_append_left hi
  have X' : Ext h β H h' β'' (H ++ Hn.map (Blk.ren (H.length + ·))) := by
    refine ⟨X.imm, by simp, fun i x x' e e' => ?_⟩
    have hi := (List.getElem?_eq_some_iff.1 e).1
    rw [hlow i hi, e] at e'; cases e'
    have := Blk.to_refl β i x
    cases x <;> first | exact rfl | trivial | (simp only [Blk.to, b1 i hi] at this ⊢; exact this)
  have o1 : ∀ i, i < H.length → blkOf β'' (H ++ Hn.map (Blk.ren (H.length + ·))) i = blkOf β H i := fun i hi => by
    unfold blkOf; rw [hlow i hi, b1 i hi]
  have o2 : ∀ i, i < Hn.length → blkOf β'' (H ++ Hn.map (Blk.ren (H.length + ·))) (H.length + i) = blkOf β' Hn i := fun i hi => R.blkOf hi
  have hsplit : ∀ i x, blkOf β'' (H ++ Hn.map (Blk.ren (H.length + ·))) i = some x → (i < H.length ∧ blkOf β H i = some x) ∨ ∃ j, j < Hn.length ∧ i = H.length + j ∧ blkOf β' Hn j = some x := by
    intro i x e
    have hi := (blkOf_some e).1
    simp only [List.length_append, List.length_map] at hi
    by_cases hlt : i < H.length
    · exact .inl ⟨hlt, by rw [← o1 i hlt]; exact e⟩
    · refine .inr ⟨i - H.length, by omega, by omega, ?_⟩
      rw [← o2 _ (by omega), show H.length + (i - H.length) = i by omega]; exact e
  have hclash : ∀ i j b, blkOf β H i = some b → blkOf β' Hn j = some b → False := by
    intro i j b e1 e2
    have h3 := s'.fro j b e2
    rw [h1 i b e1, Array.getElem?_eq_getElem (s.lt e1)] at h3
    cases h3
  have hkeep : ∀ i b, blkOf β H i = some b → w'.heap[b]? = w.heap[b]? ∧ h' b = none := by
    intro i b e
    have hlt := s.lt e
    have e1 : E'.fr b = some w.heap[b] := by rw [h1 i b e, Array.getElem?_eq_getElem hlt]
    obtain ⟨e2, e3⟩ := s'.frm b _ e1
    exact ⟨by rw [e2, Array.getElem?_eq_getElem hlt], e3⟩
  refine ⟨β'', R, X', s'.env.trans hb, s'.imm, fun i x e => ?_, fun i j x e1 e2 => ?_, fun i x e => ?_, fun b o e => ?_, fun i x e => ?_⟩
  · by_cases hlt : i < H.length
    · rw [hlow i hlt] at e
      exact (s.blk i x e).keep X' (b1 i hlt) fun hd hd' b hb => (hkeep i b (by unfold blkOf; rw [e]; cases x <;> first | exact absurd rfl hd | exact absurd rfl hd' | exact hb)).1
    · have hi := (List.getElem?_eq_some_iff.1 e).1
      simp only [List.length_append, List.length_map] at hi
      rw [List.getElem?_append_right (by omega), List.getElem?_map] at e
      obtain ⟨y, hy, rfl⟩ := Option.map_eq_some_iff.1 e
      have := R.blk (i := i - H.length) (by omega) (s'.blk _ _ hy)
      simp only at this
      rwa [show H.length + (i - H.length) = i by omega] at this
  · rcases hsplit i x e1 with ⟨_, a1⟩ | ⟨i', _, rfl, a1⟩ <;> rcases hsplit j x e2 with ⟨_, a2⟩ | ⟨j', _, rfl, a2⟩
    · exact s.own _ _ _ a1 a2
    · exact (hclash _ _ _ a1 a2).elim
    · exact (hclash _ _ _ a2 a1).elim
    · rw [s'.own _ _ _ a1 a2]
  · rcases hsplit i x e with ⟨_, a1⟩ | ⟨i', _, rfl, a1⟩
    · exact (hkeep i x a1).2
    · exact s'.fresh _ _ a1
  · by_cases hh : ∃ i, blkOf β H i = some b
    · obtain ⟨i, hi⟩ := hh
      rw [s.fro _ _ hi] at e; cases e
    · exact s'.frm b o (by rw [h2 b (fun i hi => hh ⟨i, hi⟩)]; exact e)
  · rcases hsplit i x e with ⟨_, a1⟩ | ⟨j, _, rfl, a1⟩
    · exact s.fro _ _ a1
    · have h3 := s'.fro _ _ a1
      rw [h2 x (fun i hi => hclash _ _ _ hi a1)] at h3
      exact h3

theorem ACall.give {f : FuncId} {rs : List AV} {r : AV} {k : AV → List Blk → Prop} (x : Gives P f rs r Hn) (hk : k (r.ren (H.length + ·)) (H ++ Hn.map (Blk.ren (H.length + ·)))) : ACall P f rs H k := by
  refine ⟨x.o.1, fun E h β w vs s hr => ?_⟩
  classical
  let E' : Env := ⟨E.b, fun b => if ∃ i, blkOf β H i = some b then w.heap[b]? else E.fr b, E.en⟩
  have s0 : SR P E' h β [] w := by
    refine ⟨s.env, s.imm, fun i x e => by simp at e, fun i j x e => by simp [blkOf] at e, fun i x e => by simp [blkOf] at e, fun b o e => ?_, fun i x e => by simp [blkOf] at e⟩
    simp only [E'] at e
    split at e
    · rename_i hh; obtain ⟨i, hi⟩ := hh; exact ⟨e, s.fresh _ _ hi⟩
    · exact s.frm b o e
  have hr0 : RepL P h β [] rs vs := ⟨hr.1, fun j y e => by
    obtain ⟨v, e1, e2⟩ := hr.2 j y e
    exact ⟨v, e1, Rep.cut (H := []) (l := H) e2 ((lowL_iff.1 x.lo) y (List.mem_of_getElem? e))⟩⟩
  refine (x.o.2 E' h β w vs s0 hr0).mono ?_
  rintro e w' ⟨r1, H1, h', β', v, rfl, ⟨rfl, rfl⟩, X, s', hrep⟩
  obtain ⟨β'', R, X', s''⟩ := s.beside (E' := E') rfl (fun i b e => by simp only [E']; rw [if_pos ⟨i, e⟩]) (fun b hn => by simp only [E']; rw [if_neg (fun ⟨i, hi⟩ => hn i hi)]) X s' x.lH
  exact ⟨_, _, h', β'', v, rfl, hk, X', s'', R.rep hrep⟩
theorem XCall.give {f : FuncId} {rs : List AV} {r : AV} {k : AV → List Blk → Prop} (x : Gives P f rs r Hn) (hk : k (r.ren (H.length + ·)) (H ++ Hn.map (Blk.ren (H.length + ·)))) : XCall P f rs H k := ⟨.give x hk⟩

theorem Gives.comp {f : FuncId} {rs : List AV} {r r0 : AV} (x : Gives P f rs r Hn) (hf : Froz P Hn r r0) : Comp P f rs r0 := by
  refine ⟨x.lo, x.o.1, fun E h β w vs s hr => ?_⟩
  refine (x.o.2 E h β w vs s hr).mono ?_
  rintro e w' ⟨r1, H1, h', β', v, rfl, ⟨rfl, rfl⟩, X, s', hrep⟩
  refine ⟨r0, [], hall h' β' H1 w', β, v, rfl, ⟨rfl, rfl⟩, ⟨fun b o e => hall_imm s' (X.imm b o e), Nat.le_refl _, fun i x x' e => by simp at e⟩, ?_, (hf _ _ _ _ s' v hrep).none⟩
  have s2 := s'.all
  exact ⟨s2.env, s2.imm, fun i x e => by simp at e, fun i j x e => by simp [blkOf] at e, fun i x e => by simp [blkOf] at e, s2.frm, fun i x e => by simp [blkOf] at e⟩

def SelR (f : Nat → Nat) (H : List Blk) : Nat → List Blk → Prop
  | _, [] => True
  | i, x :: l => lget H (f i) = some (x.ren f) ∧ SelR f H (i + 1) l
theorem SelR.get {f : Nat → Nat} {H : List Blk} : ∀ {l : List Blk} {i : Nat}, SelR f H i l → ∀ (j : Nat) x, l[j]? = some x → lget H (f (i + j)) = some (x.ren f)
  | [], _, _, j, x, e => by simp at e
  | y :: l, i, h, 0, x, e => by simp at e; subst e; exact h.1
  | y :: l, i, h, j + 1, x, e => by
    have := SelR.get h.2 j x (by simpa using e)
    rwa [Nat.add_right_comm] at this
structure XGive (H : List Blk) (r' r : AV) (Hn : List Blk) : Prop where
  o : ∃ l : List Nat, l.length = Hn.length ∧ l.Nodup ∧ SelR (rnF l) H 0 Hn ∧ r' = r.ren (rnF l)
theorem XGive.mk' {H : List Blk} {r' r : AV} {Hn : List Blk} (l : List Nat) (h1 : l.length = Hn.length) (h2 : l.Nodup) (h3 : SelR (rnF l) H 0 Hn) (h4 : r' = r.ren (rnF l)) : XGive H r' r Hn := ⟨l, h1, h2, h3, h4⟩
theorem Gives.body {f : FuncId} {fn : Func} {c : Code} {rs : List AV} {res : List ResultVar} {r : AV} (ok : TabOk P T) (own : List Nat) (hf : P.funcs[f]? = some fn) (hb : fn.body = some c) (hn : (fn.name == "runtime.NumGoroutine") = false)
    (hN : fn.ntmps = N) (hr : fn.results = res.toArray) (hl : rs.length ≤ N) (lo : lowL 0 rs = true) (lr : r.low Hn.length = true) (lH : ∀ x ∈ Hn, x.low Hn.length = true)
    (x : XRun P T N none own c (XIn T res fun r' H' => XGive H' r' r Hn) [] (argX rs) []) : Gives P f rs r Hn := by
  refine ⟨lo, lr, lH, ?_⟩
  obtain ⟨h1, h2⟩ := ACall.inl ok own hf hb hn hN hr hl x
  refine ⟨h1, fun E h β w vs s hrs => (h2 E h β w vs s hrs).mono ?_⟩
  rintro e w' ⟨r', H', h', β', v, rfl, ⟨l, g1, g2, g3, g4⟩, X, s', hrep⟩
  have inj : ∀ i j, i < Hn.length → j < Hn.length → rnF l i = rnF l j → i = j := by
    intro i j hi hj e
    unfold rnF at e
    rw [lget_eq, lget_eq, List.getElem?_eq_getElem (by omega), List.getElem?_eq_getElem (by omega)] at e
    exact (List.getElem_inj g2).1 e
  have R : Ren (rnF l) (fun i => β' (rnF l i)) Hn β' H' := ⟨fun i x e => by
    have := g3.get i x e
    rw [Nat.zero_add, lget_eq] at this; exact this, fun _ _ => rfl⟩
  exact ⟨r, Hn, h', _, v, rfl, ⟨rfl, rfl⟩, ⟨X.imm, Nat.zero_le _, fun i x x' e => by simp at e⟩, R.sr s' inj lH, R.unrep hrep g4.symm lr⟩

theorem Walk.nilcell {c : Code} {Q : Post} (j o : Nat) (te : TypeId) {cs : List AV} (hj : lget H j = some (.cells cs)) (hc : lget cs o = some (.sl true [])) (x : Walk P N ρ c Q D σ (H.set j (.cells (cs.set o (.gr H.length 0))) ++ [.grow te true []])) : Walk P N ρ c Q D σ H := by
  constructor
  intro E h β a w s
  rw [lget_eq] at hj hc
  have hlt := (List.getElem?_eq_some_iff.1 hj).1
  have hlo := (List.getElem?_eq_some_iff.1 hc).1
  obtain ⟨s1, X1⟩ := s.sr.push (w' := w) s.sr.env (fun _ _ => rfl) (.slice none 0 0) (.grow te true []) (by intro b hb; simp [anchor] at hb) (fun _ => .inl ⟨rfl, rfl, by simp [upb]⟩)
  have hj1 : (H ++ [Blk.grow te true []])[j]? = some (.cells cs) := by rw [List.getElem?_append_left hlt]; exact hj
  obtain ⟨s2, X2⟩ := s1.modify (β' := upb β H.length (.slice none 0 0)) (w' := w) (x' := .cells (cs.set o (.gr H.length 0))) hj1 (fun _ _ => rfl) (.inr ⟨_, rfl, rfl⟩) s1.env (fun _ _ _ => rfl) (fun b e => .inl (by unfold blkOf; rw [hj1]; exact e)) (fun X => by
    obtain ⟨b, c, t, h1, h2, h3, h4, us, h5, h6⟩ := s1.blk j _ hj1
    refine ⟨b, c, t, h1, h2, by rw [List.length_set]; exact h3, fun y hy => ?_, us, fun i y e => ?_, fun i y e => ?_⟩
    · rcases List.mem_or_eq_of_mem_set hy with hy | rfl
      · exact h4 y hy
      · rfl
    · by_cases hio : o = i
      · subst hio; exact h5 o _ hc
      · rw [List.getElem?_set_ne hio] at e; exact h5 i y e
    · by_cases hio : o = i
      · subst hio
        rw [List.getElem?_set_self hlo] at e; cases e
        have h7 := h6 o _ hc
        cases h : us o <;> rw [h] at h7 <;> cases h7
        refine .gr rfl ⟨_, by rw [List.getElem?_set_ne (by omega), List.getElem?_append_right (Nat.le_refl _), Nat.sub_self]; rfl, rfl⟩ fun t' nl els e => ?_
        rw [List.getElem?_set_ne (by omega), List.getElem?_append_right (Nat.le_refl _), Nat.sub_self] at e
        simp at e; obtain ⟨_, _, rfl⟩ := e
        exact ⟨Nat.le_refl _, fun _ => by simp [upb]⟩
      · rw [List.getElem?_set_ne hio] at e; exact X.rep (h6 i y e))
  rw [List.set_append_left _ _ hlt] at s2 X2
  exact wpIn_mono (x.o E h _ a w ⟨s2, fun u r e => let ⟨v, h1, h2⟩ := s.fits u r e; ⟨v, h1, (X1.trans X2).rep h2⟩, s.size, s.df.ext (X1.trans X2)⟩) fun _ _ _ => Conc.ext (X1.trans X2)

noncomputable def hallN (n : Nat) (h : Nat → Option Obj) (β : Nat → Value) (H : List Blk) (w : World) : Nat → Option Obj := by
  classical exact fun b => if ∃ i, n ≤ i ∧ blkOf β H i = some b then w.heap[b]? else h b
theorem hallN_own {n b i : Nat} (hi : n ≤ i) (e : blkOf β H i = some b) : hallN n h β H w b = w.heap[b]? := by
  unfold hallN; rw [if_pos ⟨i, hi, e⟩]
theorem hallN_imm {n : Nat} (s : SR P E h β H w) {b : Nat} {o : Obj} (e : h b = some o) : hallN n h β H w b = some o := by
  unfold hallN; split
  · rename_i hh; obtain ⟨i, _, hi⟩ := hh; rw [s.fresh _ _ hi] at e; cases e
  · exact e
theorem SR.allN {H1 l : List Blk} (s : SR P E h β (H1 ++ l) w) (lo : ∀ x ∈ H1, x.low H1.length = true) : SR P E (hallN H1.length h β (H1 ++ l) w) β H1 w := by
  have s1 := s.cut lo
  have hb : ∀ i, i < H1.length → blkOf β H1 i = blkOf β (H1 ++ l) i := fun i hi => by unfold blkOf; rw [List.getElem?_append_left hi]
  have hlt : ∀ {i x}, blkOf β H1 i = some x → i < H1.length := fun e => (blkOf_some e).1
  have X : Ext h β H1 (hallN H1.length h β (H1 ++ l) w) β H1 := ⟨fun b o e => hallN_imm s e, Nat.le_refl _, fun i x x' e e' => by rw [e] at e'; cases e'; exact Blk.to_refl _ _ _⟩
  refine ⟨s1.env, fun b o e => ?_, fun i x e => (s1.blk i x e).keep X rfl (fun _ _ _ _ => rfl), s1.own, fun i x e => ?_, fun b o e => ⟨(s.frm b o e).1, ?_⟩, s1.fro⟩
  · unfold hallN at e; split at e
    · exact e
    · exact s.imm b o e
  · have hi := hlt e
    unfold hallN; rw [if_neg]
    · exact s1.fresh i x e
    · rintro ⟨j, hj, hj2⟩
      have := s.own i j x (by rw [← hb i hi]; exact e) hj2
      omega
  · unfold hallN; rw [if_neg]
    · exact (s.frm b o e).2
    · rintro ⟨j, hj, hj2⟩
      rw [s.fro _ _ hj2] at e; cases e
def FrozN (P : Program) (n : Nat) (H : List Blk) (r r' : AV) : Prop :=
  ∀ E h β w, SR P E h β H w → ∀ v, Rep P h β H r v → ∀ H1 : List Blk, Rep P (hallN n h β H w) β H1 r' v
def FrozNL (P : Program) (n : Nat) (H : List Blk) (rs rs' : List AV) : Prop := rs'.length = rs.length ∧ ∀ (j : Nat) x, rs'[j]? = some x → ∃ y, rs[j]? = some y ∧ FrozN P n H y x
theorem FrozN.low {n : Nat} {r : AV} (hl : r.low 0 = true) : FrozN P n H r r := by
  intro E h β w s v hr H1
  have h0 : Rep P h β [] r v := Rep.cut (H := []) (l := H) hr hl
  have X : Ext h β [] (hallN n h β H w) β [] := ⟨fun b o e => hallN_imm s e, Nat.le_refl _, by simp⟩
  exact (X.rep h0).none
theorem FrozNL.nil {n : Nat} : FrozNL P n H [] [] := ⟨rfl, by simp⟩
theorem FrozNL.cons {n : Nat} {r r' : AV} {rs rs' : List AV} (h1 : FrozN P n H r r') (h2 : FrozNL P n H rs rs') : FrozNL P n H (r :: rs) (r' :: rs') := by
  refine ⟨by simp [h2.1], fun j x e => ?_⟩
  cases j with
  | zero => simp at e; subst e; exact ⟨r, rfl, h1⟩
  | succ j => exact h2.2 j x (by simpa using e)
theorem FrozN.tup {n : Nat} {rs rs' : List AV} (hs : FrozNL P n H rs rs') : FrozN P n H (.tup rs) (.tup rs') := by
  intro E h β w s v hr H1
  cases hr with
  | tup us h1 h2 h3 =>
    refine .tup us (by rw [h1, hs.1]) (fun j x e => ?_) (fun j x e => ?_)
    · obtain ⟨y, e1, _⟩ := hs.2 j x e; exact h2 j y e1
    · obtain ⟨y, e1, e2⟩ := hs.2 j x e; exact e2 E h β w s _ (h3 j y e1) H1
theorem FrozN.agg {n : Nat} {rs rs' : List AV} (hone : ∀ x ∈ rs', x.one = true) (hs : FrozNL P n H rs rs') : FrozN P n H (.agg rs) (.agg rs') := by
  intro E h β w s v hr H1
  cases hr with
  | agg us h1 h0 h2 h3 =>
    refine .agg us (by rw [h1, hs.1]) hone (fun j x e => ?_) (fun j x e => ?_)
    · obtain ⟨y, e1, _⟩ := hs.2 j x e; exact h2 j y e1
    · obtain ⟨y, e1, e2⟩ := hs.2 j x e; exact e2 E h β w s _ (h3 j y e1) H1
theorem FrozN.grow {n i m : Nat} {t : TypeId} {nl : Bool} {els : List AV} (hi : n ≤ i) (hb : lget H i = some (.grow t nl els)) (hn : els.length = m) (hl : lowL 0 els = true) : FrozN P n H (.gr i m) (.sl nl els) := by
  have hb' := hb; rw [lget_eq] at hb'
  intro E h β w s v hr H1
  cases hr with
  | gr ho hlv hv =>
    obtain ⟨h1, h2⟩ := hv _ _ _ hb'
    have hβ := h2 hn
    subst hβ
    rcases s.blk i _ hb' with ⟨rfl, rfl, h3⟩ | ⟨rfl, rfl, b, h3⟩ | ⟨rfl, b, cap, c, h3, h4, h5, h6, h7, h8, h9, h10, h11, us, h12, h13⟩
    · rw [h3]; exact .slnil
    · rw [h3]; exact .slemp
    · rw [h3]
      cases els with
      | nil => exact .slemp
      | cons e0 l0 =>
        have hbo : blkOf β H i = some b := by simp only [blkOf, hb', h3, anchor]; rw [if_neg (by omega)]
        refine .sl us rfl (by simp) ((hallN_own hi hbo).trans h5) h10 h9 h11 h6 (fun j x e => ?_) (fun j x e => ?_)
        · rw [Nat.zero_add]; exact h12 j x e
        · exact FrozN.low (lowL_iff.1 (by rw [lowL_iff]; exact low_flat.1 hl) x (List.mem_of_getElem? e)) E h β w s _ (h13 j x e) H1

structure XEnd (P : Program) (n : Nat) (H : List Blk) (r' r : AV) (H1 : List Blk) : Prop where
  o : H.take n = H1 ∧ H1.length = n ∧ (∀ x ∈ H1, x.low n = true) ∧ FrozN P n H r' r
end
end GA
end

section
namespace GA
open Go Go.RowKit
set_option linter.unusedVariables false

section
variable {P : Program} {T : Tab} {N : Nat} {ρ : Option Nat} {H : List Blk} {σ : St} {D : List Nat}
theorem Walk.place {c : Code} {Q : Post} (x : Walk P N ρ c Q D σ (H ++ [.free])) : Walk P N ρ c Q D σ H := by
  constructor
  intro E h β a w s
  obtain ⟨s', X⟩ := s.sr.push (w' := w) s.sr.env (fun _ _ => rfl) (.pointer none) .free (by intro b hb; simp [anchor] at hb) (fun _ => trivial)
  exact wpIn_mono (x.o E h _ a w ⟨s', fun u r e => let ⟨v, h1, h2⟩ := s.fits u r e; ⟨v, h1, X.rep h2⟩, s.size, s.df.ext X⟩) fun _ _ _ => Conc.ext X
theorem XFree.at {H : List Blk} {b : Blk} {k : Nat → List Blk → Prop} (i : Nat) (h1 : lget H i = some .free) (h2 : hset H i b fun H' => k i H') : XFree H b k := ⟨i, h1, h2⟩
end
end GA
end

section
namespace GA
open Go Go.RowKit
set_option linter.unusedVariables false
section
variable {P : Program} {N : Nat} {ρ : Option Nat} {E : Env} {h h' : Nat → Option Obj} {β : Nat → Value} {H H' : List Blk} {w : World} {σ : St}

theorem gr_frz (s : SR P E h β H w) {i n : Nat} {t : TypeId} {nl : Bool} {els : List AV} (hi : H[i]? = some (.grow t nl els)) (hn : els.length = n) {v : Value} (hr : Rep P h β H (.gr i n) v) (X : Ext h β H h' β H')
    (hfz : ∀ b o, blkOf β H i = some b → w.heap[b]? = some o → h' b = some o) : Rep P h' β H' (.sl nl els) v := by
  cases hr with
  | gr ho hl hv =>
    obtain ⟨_, h2⟩ := hv _ _ _ hi
    have hβ := h2 hn
    subst hβ
    rcases s.blk i _ hi with ⟨rfl, rfl, h3⟩ | ⟨rfl, rfl, b, h3⟩ | ⟨rfl, b, cap, c, h3, h4, h5, h6, h7, h8, h9, h10, h11, us, h12, h13⟩
    · rw [h3]; exact .slnil
    · rw [h3]; exact .slemp
    · rw [h3]
      cases els with
      | nil => exact .slemp
      | cons e0 l0 =>
        have hbo : blkOf β H i = some b := by simp only [blkOf, hi, h3, anchor]; rw [if_neg (by omega)]
        exact .sl us rfl (by simp) (hfz b _ hbo h5) h10 h9 h11 h6 (fun j x e => by rw [Nat.zero_add]; exact h12 j x e) (fun j x e => X.rep (h13 j x e))

theorem Walk.freeze {c : Code} {Q : Post} {D : List Nat} (u i n : Nat) {t : TypeId} {nl : Bool} {els : List AV} (hu : σ u = some (.gr i n)) (hi : lget H i = some (.grow t nl els)) (hn : els.length = n) (x : Walk P N ρ c Q D (updX σ u (.sl nl els)) (H.set i .dead)) : Walk P N ρ c Q D σ H := by
  constructor
  intro E h β a w s
  rw [lget_eq] at hi
  obtain ⟨h', s1, X, hfz⟩ := s.sr.freeze hi
  refine wpIn_mono (x.o E h' _ a w ⟨s1, fun t' r e => ?_, s.size, s.df.ext X⟩) fun _ _ _ => Conc.ext X
  rw [updX_eq] at e; unfold upd at e
  split at e
  · rename_i hh; subst hh; cases e
    obtain ⟨v, h1, h2⟩ := s.fits _ _ hu
    exact ⟨v, h1, gr_frz s.sr hi hn h2 X hfz⟩
  · obtain ⟨v, h1, h2⟩ := s.fits t' r e
    exact ⟨v, h1, X.rep h2⟩
inductive FrzV (i n : Nat) (nl : Bool) (els : List AV) : AV → AV → Prop
  | same {x : AV} : FrzV i n nl els x x
  | gr : FrzV i n nl els (.gr i n) (.sl nl els)
  | agg {cs cs' : List AV} (hl : cs'.length = cs.length) (hone : ∀ x ∈ cs', x.one = true) (ho : ∀ (j : Nat) x', cs'[j]? = some x' → ∃ x, cs[j]? = some x ∧ (x' = x ∨ (x = .gr i n ∧ x' = .sl nl els))) : FrzV i n nl els (.agg cs) (.agg cs')
structure FrzL (i n : Nat) (nl : Bool) (els : List AV) (rs rs' : List AV) : Prop where
  l : rs'.length = rs.length
  o : ∀ (j : Nat) x', rs'[j]? = some x' → ∃ x, rs[j]? = some x ∧ FrzV i n nl els x x'
structure FrzC (i n : Nat) (nl : Bool) (els : List AV) (rs rs' : List AV) : Prop where
  l : rs'.length = rs.length
  o : ∀ (j : Nat) x', rs'[j]? = some x' → ∃ x, rs[j]? = some x ∧ (x' = x ∨ (x = .gr i n ∧ x' = .sl nl els))
section
variable {i n : Nat} {nl : Bool} {els : List AV}
theorem FrzC.nil : FrzC i n nl els [] [] := ⟨rfl, by simp⟩
theorem FrzC.cons {x y : AV} {rs rs' : List AV} (hx : y = x ∨ (x = .gr i n ∧ y = .sl nl els)) (h : FrzC i n nl els rs rs') : FrzC i n nl els (x :: rs) (y :: rs') := by
  refine ⟨by simp [h.l], fun j z e => ?_⟩
  cases j with
  | zero => simp at e; subst e; exact ⟨_, rfl, hx⟩
  | succ j => exact h.o j z (by simpa using e)
theorem FrzC.same {x : AV} {rs rs' : List AV} (h : FrzC i n nl els rs rs') : FrzC i n nl els (x :: rs) (x :: rs') := .cons (.inl rfl) h
theorem FrzC.gr {rs rs' : List AV} (h : FrzC i n nl els rs rs') : FrzC i n nl els (.gr i n :: rs) (.sl nl els :: rs') := .cons (.inr ⟨rfl, rfl⟩) h
theorem FrzL.nil : FrzL i n nl els [] [] := ⟨rfl, by simp⟩
theorem FrzL.cons {x y : AV} {rs rs' : List AV} (hx : FrzV i n nl els x y) (h : FrzL i n nl els rs rs') : FrzL i n nl els (x :: rs) (y :: rs') := by
  refine ⟨by simp [h.l], fun j z e => ?_⟩
  cases j with
  | zero => simp at e; subst e; exact ⟨_, rfl, hx⟩
  | succ j => exact h.o j z (by simpa using e)
theorem FrzL.same {x : AV} {rs rs' : List AV} (h : FrzL i n nl els rs rs') : FrzL i n nl els (x :: rs) (x :: rs') := .cons .same h
theorem FrzL.gr {rs rs' : List AV} (h : FrzL i n nl els rs rs') : FrzL i n nl els (.gr i n :: rs) (.sl nl els :: rs') := .cons .gr h
theorem FrzL.agg {cs cs' rs rs' : List AV} (hone : ∀ x ∈ cs', x.one = true) (hc : FrzC i n nl els cs cs') (h : FrzL i n nl els rs rs') : FrzL i n nl els (.agg cs :: rs) (.agg cs' :: rs') := .cons (.agg hc.l hone hc.o) h
theorem FrzV.rep (s : SR P E h β H w) {t : TypeId} (hi : H[i]? = some (.grow t nl els)) (hn : els.length = n) (X : Ext h β H h' β H') (hfz : ∀ b o, blkOf β H i = some b → w.heap[b]? = some o → h' b = some o) {x y : AV} (hv : FrzV i n nl els x y) {v : Value} (hr : Rep P h β H x v) : Rep P h' β H' y v := by
  cases hv with
  | same => exact X.rep hr
  | gr => exact gr_frz s hi hn hr X hfz
  | agg hl hone ho =>
    cases hr with
    | agg us h1 h2 h3 h4 =>
      refine .agg us (by rw [h1, hl]) hone (fun j x e => ?_) (fun j x e => ?_)
      · obtain ⟨z, e1, _⟩ := ho j x e; exact h3 j z e1
      · obtain ⟨z, e1, e2⟩ := ho j x e
        rcases e2 with rfl | ⟨rfl, rfl⟩
        · exact X.rep (h4 j _ e1)
        · exact gr_frz s hi hn (h4 j _ e1) X hfz
end
theorem XCall.frz {f : FuncId} {rs rs' : List AV} {k : AV → List Blk → Prop} (i n : Nat) {t : TypeId} {nl : Bool} {els : List AV} (hi : lget H i = some (.grow t nl els)) (hn : els.length = n) (hv : FrzL i n nl els rs rs')
    (H' : List Blk) (hH : ∀ E h β w, SR P E h β H w → ∀ h', SR P E h' β (H.set i .dead) w → Ext h β H h' β (H.set i .dead) → (∀ b o, blkOf β H i = some b → w.heap[b]? = some o → h' b = some o) → SR P E h' β H' w ∧ Ext h β H h' β H') (x : XCall P f rs' H' k) : XCall P f rs H k := by
  rw [lget_eq] at hi
  refine ⟨x.o.1, fun E h β w vs s hr => ?_⟩
  obtain ⟨h', s1, X, hfz⟩ := s.freeze hi
  obtain ⟨s2, X2⟩ := hH E h β w s h' s1 X hfz
  have hr' : RepL P h' β H' rs' vs := ⟨by rw [hv.l]; exact hr.1, fun j y e => by
    obtain ⟨z, e1, e2⟩ := hv.o j y e
    obtain ⟨v, e3, e4⟩ := hr.2 j z e1
    exact ⟨v, e3, e2.rep s hi hn X2 hfz e4⟩⟩
  refine (x.o.2 E h' β w vs s2 hr').mono ?_
  rintro e w' ⟨r, H'', h'', β'', v, e1, e2, e3, e4⟩
  exact ⟨r, H'', h'', β'', v, e1, e2, X2.trans e3, e4⟩
theorem XCall.freeze {f : FuncId} {rs rs' : List AV} {k : AV → List Blk → Prop} (i n : Nat) {t : TypeId} {nl : Bool} {els : List AV} (hi : lget H i = some (.grow t nl els)) (hn : els.length = n) (hv : FrzL i n nl els rs rs')
    (x : XCall P f rs' (H.set i .dead) k) : XCall P f rs H k :=
  .frz i n hi hn hv _ (fun _ _ _ _ _ _ s X _ => ⟨s, X⟩) x
end
end GA
end

section
namespace GA
open Go Go.RowKit
set_option linter.unusedVariables false
section
variable {F : Fence} {n : Nat} {P : Program} {Q : Exit → Act → World → Prop} {a : Act} {w : World}
theorem stepR_scope {b : Frame} {k : List Item} {cs : List Frame} {c : Code} : step P (lone (b.atR a (.code (.scope c) :: k)) cs w) = .next (lone (b.atR a (.code c :: .inScope c :: k)) cs w) :=
  step_lone_go (by simp [stepG, stepG.exec, Frame.atR])
theorem stepR_inScope {b : Frame} {k : List Item} {cs : List Frame} {c : Code} : step P (lone (b.atR a (.inScope c :: k)) cs w) = .next (lone (b.atR a k) cs w) :=
  step_lone_go (by simp [stepG, stepG.exec, Frame.atR])
theorem wpIn_scope {c : Code} (h : c.wpIn F n P (Exit.noGoto Q) a w) : (Code.scope c).wpIn F n P Q a w := by
  intro b k cs hro hb hr
  have h0 : (lone (b.atR a (.code (.scope c) :: k)) cs w).fenced P F := fenced_calm hb hr rfl
  obtain ⟨e, a₁, w₁, hq, harr⟩ := h b (.inScope c :: k) cs hro hb hr
  cases e with
  | normal => exact ⟨.normal, a₁, w₁, hq, .head h0 stepR_scope (StepsIn.trans harr (.one (fenced_calm hb hr rfl) stepR_inScope))⟩
  | exit id =>
    have hx : exitTo id (.inScope c :: k) = exitTo id k := by simp [exitTo]
    exact ⟨.exit id, a₁, w₁, hq, fun k' hk => .head h0 stepR_scope (harr.1 k' (by rw [hx]; exact hk)),
      fun hr' hk => let ⟨k₁, h1, h2⟩ := harr.2 hr' (by rw [hx]; exact hk); ⟨k₁, h1, .head h0 stepR_scope h2⟩⟩
  | goto l => exact hq.elim
  | ret => exact ⟨_, a₁, w₁, hq, .of_steps (.one h0 stepR_scope) harr⟩
  | panic ch => exact ⟨_, a₁, w₁, hq, .of_steps (.one h0 stepR_scope) harr⟩
  | outgrown => exact ⟨_, a₁, w₁, hq, .of_steps (.one h0 stepR_scope) harr⟩
end
section
variable {P : Program} {T : Tab} {N : Nat} {ρ : Option Nat} {D : List Nat} {σ : St} {H : List Blk} {Q : Post} {own : List Nat}
def scopeX (Q : Post) : Post
  | .goto _, _, _, _ => False
  | e, D, σ, H => Q e D σ H
theorem Walk.scope {c : Code} (ok : TabOk P T) (own : List Nat) (x : XRun P T N ρ own c (scopeX Q) D σ H) : Walk P N ρ (.scope c) Q D σ H := by
  constructor
  intro E h β a w s
  refine wpIn_scope (wpIn_mono (XRun.sound ok x E h β a w s) ?_)
  rintro e a' w' ⟨D', σ', H', h', β', q, X, s'⟩
  cases e with
  | goto l => exact q.elim
  | _ => exact ⟨D', σ', H', h', β', q, X, s'⟩
theorem Walk.label {l : Nat} (x : Q .normal D σ H) : Walk P N ρ (.label l) Q D σ H :=
  ⟨fun E h β a w s => wpIn_label ⟨D, σ, H, h, β, x, Ext.refl _ _ _, s⟩⟩
end
end GA
end

section
namespace GA
open Go Go.RowKit
set_option linter.unusedVariables false

section
variable {P : Program} {T : Tab} {N : Nat} {ρ : Option Nat} {D : List Nat} {σ : St} {H : List Blk} {Q : Post}

def XKeep (P : Program) (n : Nat) (H : List Blk) (r r' : AV) : Prop := FrozN P n H r r' ∨ (r' = r ∧ r.low n = true)
theorem XKeep.same {n : Nat} {r : AV} (h : r.low n = true) : XKeep P n H r r := .inr ⟨rfl, h⟩
theorem XKeep.gr {n i m : Nat} {t : TypeId} {nl : Bool} {els : List AV} (hi : n ≤ i) (hb : lget H i = some (.grow t nl els)) (hn : els.length = m) (hl : lowL 0 els = true) : XKeep P n H (.gr i m) (.sl nl els) := .inl (.grow hi hb hn hl)
def SubF (P : Program) (n : Nat) (H : List Blk) : List (Nat × AV) → St → Prop
  | [], _ => True
  | (t, r') :: l, σ => (∃ r, σ t = some r ∧ XKeep P n H r r') ∧ SubF P n H l σ
theorem stX_subF {n : Nat} : ∀ {l : List (Nat × AV)} {σ : St}, SubF P n H l σ → ∀ t r, stX l t = some r → ∃ r0, σ t = some r0 ∧ XKeep P n H r0 r
  | [], _, _, _, _, e => by cases e
  | (u, x) :: l, σ, h, t, r, e => by
    simp only [stX, updX_eq, upd] at e
    split at e
    · rename_i h1; subst h1; cases e; exact h.1
    · exact stX_subF h.2 t r e

structure XAgainF {G : Type} (P : Program) (I : G → Prop) (L : G → List (Nat × AV)) (hp : G → List Blk) (μ : G → Nat) (g : G) (D' : List Nat) (σ' : St) (H' : List Blk) : Prop where
  d : D' = []
  o : ∃ g' l, I g' ∧ μ g' < μ g ∧ hp g' ++ l = H' ∧ SubF P (hp g').length H' (L g') σ'
theorem XAgainF.go {G : Type} {I : G → Prop} {L : G → List (Nat × AV)} {hp : G → List Blk} {μ : G → Nat} {g : G} (g' : G) (l : List Blk) (h1 : I g') (h2 : μ g' < μ g) (h3 : hp g' ++ l = H) (h4 : SubF P (hp g').length H (L g') σ) : XAgainF P I L hp μ g [] σ H := ⟨rfl, g', l, h1, h2, h3, h4⟩
theorem Walk.keep {c : Code} (ok : TabOk P T) (own : List Nat) (H1 l : List Blk) (L : List (Nat × AV)) (hH : H1 ++ l = H) (hlow : ∀ x ∈ H1, x.low H1.length = true) (hs : SubF P H1.length H L σ) (hD : D = []) (x : XRun P T N ρ own c Q D (stX L) (H1 ++ l.map fun _ => .dead)) : Walk P N ρ c Q D σ H := by
  subst hH; subst hD
  constructor
  intro E h β a w s
  have hd : ∀ (l : List Blk) (i : Nat) x, (l.map fun _ => Blk.dead)[i]? = some x → x = .dead := fun l i x e => by
    rw [List.getElem?_map] at e
    cases hx : l[i]? with
    | none => rw [hx] at e; cases e
    | some y => rw [hx] at e; cases e; rfl
  have hlen : (l.map fun _ => Blk.dead).length = l.length := List.length_map _
  have X : Ext h β (H1 ++ l) (hallN H1.length h β (H1 ++ l) w) β (H1 ++ l.map fun _ => .dead) := by
    refine ⟨fun b o e => hallN_imm s.sr e, by simp, fun i x x' e e' => ?_⟩
    by_cases hi : i < H1.length
    · rw [List.getElem?_append_left hi] at e e'
      rw [e] at e'; cases e'; exact Blk.to_refl _ _ _
    · rw [List.getElem?_append_right (by omega)] at e'
      have := hd _ _ _ e'
      subst this
      cases x <;> first | rfl | trivial | exact .inl rfl
  have s1 := s.sr.allN hlow
  have X1 : Ext (hallN H1.length h β (H1 ++ l) w) β H1 (hallN H1.length h β (H1 ++ l) w) β (H1 ++ l.map fun _ => .dead) :=
    ⟨fun _ _ e => e, by simp, fun i x x' e e' => by rw [List.getElem?_append_left (List.getElem?_eq_some_iff.1 e).1, e] at e'; cases e'; exact Blk.to_refl _ _ _⟩
  have hbo : ∀ i b, blkOf β (H1 ++ l.map fun _ => .dead) i = some b → blkOf β H1 i = some b := fun i b e => by
    have hlt := (blkOf_some e).1
    by_cases hi : i < H1.length
    · rw [← e]; exact (blkOf_congr rfl (List.getElem?_append_left hi)).symm
    · exfalso
      unfold blkOf at e
      cases hx : (H1 ++ l.map fun _ => Blk.dead)[i]? with
      | none => rw [hx] at e; cases e
      | some x =>
        rw [hx] at e
        rw [List.getElem?_append_right (by omega)] at hx
        have := hd _ _ _ hx
        subst this; cases e
  have s2 : SR P E (hallN H1.length h β (H1 ++ l) w) β (H1 ++ l.map fun _ => .dead) w := by
    refine s1.grown X1 s1.env s1.imm (fun i x e => ?_) (fun i j b e1 e2 => s1.own i j b (hbo _ _ e1) (hbo _ _ e2)) (fun i b e => s1.fresh i b (hbo _ _ e)) s1.frm (fun i b e => s1.fro i b (hbo _ _ e))
    by_cases hi : i < H1.length
    · rw [List.getElem?_append_left hi] at e; exact .inl ⟨e, rfl, fun _ _ => rfl⟩
    · rw [List.getElem?_append_right (by omega)] at e
      have := hd _ _ _ e
      subst this; exact .inr trivial
  refine wpIn_mono (XRun.sound ok x E _ β a w ⟨s2, fun t r e => ?_, s.size, s.df.ext X⟩) fun _ _ _ => Conc.ext X
  obtain ⟨r0, e1, e2⟩ := stX_subF hs t r e
  obtain ⟨v, h1, h2⟩ := s.fits t r0 e1
  rcases e2 with e2 | ⟨rfl, e2⟩
  · exact ⟨v, h1, e2 E h β w s.sr v h2 _⟩
  · refine ⟨v, h1, X1.rep (Rep.cut (l := l) ?_ e2)⟩
    have XA : Ext h β (H1 ++ l) (hallN H1.length h β (H1 ++ l) w) β (H1 ++ l) := ⟨fun b o e => hallN_imm s.sr e, Nat.le_refl _, fun i x x' e e' => by rw [e] at e'; cases e'; exact Blk.to_refl _ _ _⟩
    exact XA.rep h2
end
end GA
end

section
namespace GA
open Go Go.RowKit Go.Proofs
section
variable {P : Program} {E : Env} {h : Nat → Option Obj} {β : Nat → Value} {H : List Blk} {w w' : World} {ρ : Go.Shelf.Ren}

theorem setCells_env (b : Nat) : ∀ (vs : List Value) (o : Nat) (w : World), World.env (w.setCells b o vs) = World.env w
  | [], _, _ => rfl
  | v :: r, o, w => by rw [World.setCells, setCells_env b r]; rfl
theorem setCells_other (b : Nat) : ∀ (vs : List Value) (o : Nat) (w : World) (k : Nat), k ≠ b → (w.setCells b o vs).heap[k]? = w.heap[k]?
  | [], _, _, _, _ => rfl
  | v :: r, o, w, k, hk => by
    rw [World.setCells, setCells_other b r _ _ k hk]
    simp only [World.setCell, Array.getElem?_modify]
    rw [if_neg (fun e => hk e.symm)]
theorem setCells_heap (b : Nat) {t : TypeId} {fz : Nat × Nat} : ∀ (vs : List Value) (o : Nat) (w : World) (c : Array Value), w.heap[b]? = some (.cells c t fz) → o + vs.length ≤ c.size →
    ∃ c', (w.setCells b o vs).heap[b]? = some (.cells c' t fz) ∧ c'.size = c.size ∧ ∀ q, c'[q]? = if o ≤ q ∧ q < o + vs.length then vs[q - o]? else c[q]?
  | [], o, w, c, hb, _ => ⟨c, hb, rfl, fun q => by rw [if_neg (fun e => by have := e.2; simp at this; omega)]⟩
  | v :: r, o, w, c, hb, hl => by
    simp only [List.length_cons] at hl
    have h1 : (w.setCell ⟨b, o, none⟩ v).heap[b]? = some (.cells (c.setIfInBounds o v) t fz) := by
      simp only [World.setCell, Array.getElem?_modify]
      simp [hb]
    obtain ⟨c', a1, a2, a3⟩ := setCells_heap b r (o + 1) _ _ h1 (by simp; omega)
    refine ⟨c', a1, by simpa using a2, fun q => ?_⟩
    rw [a3]
    by_cases h0 : q = o
    · subst h0
      rw [if_neg (by omega), if_pos (by simp), Nat.sub_self, Array.getElem?_setIfInBounds, if_pos rfl, if_pos (by omega)]
      rfl
    · by_cases h2 : o + 1 ≤ q ∧ q < o + 1 + r.length
      · rw [if_pos h2, if_pos (by simp only [List.length_cons]; omega)]
        obtain ⟨d, rfl⟩ : ∃ d, q = o + 1 + d := ⟨q - (o + 1), by omega⟩
        rw [show o + 1 + d - (o + 1) = d by omega, show o + 1 + d - o = d + 1 by omega, List.getElem?_cons_succ]
      · rw [if_neg h2, if_neg (by simp only [List.length_cons]; omega), Array.getElem?_setIfInBounds, if_neg (fun e => h0 e.symm)]

def putAt (ys : List Int) (p : Nat) (x : Int) : List Int := ys.take p ++ x :: ys.drop p
theorem putAt_length {ys : List Int} {p : Nat} {x : Int} (hp : p ≤ ys.length) : (putAt ys p x).length = ys.length + 1 := by
  simp only [putAt, List.length_append, List.length_take, List.length_cons, List.length_drop]; omega
theorem putAt_get {ys : List Int} {p : Nat} {x : Int} (hp : p ≤ ys.length) (j : Nat) : (putAt ys p x)[j]? = if j < p then ys[j]? else if j = p then some x else ys[j - 1]? := by
  unfold putAt
  by_cases h1 : j < p
  · rw [if_pos h1, List.getElem?_append_left (by simp; omega), List.getElem?_take, if_pos h1]
  · rw [if_neg h1, List.getElem?_append_right (by simp; omega), List.length_take, Nat.min_eq_left hp]
    by_cases h2 : j = p
    · subst h2; simp
    · rw [if_neg h2]
      obtain ⟨d, rfl⟩ : ∃ d, j = p + 1 + d := ⟨j - (p + 1), by omega⟩
      rw [show p + 1 + d - p = d + 1 by omega, List.getElem?_cons_succ, List.getElem?_drop]
      congr 1; omega
def vint (z : Int) : Value := .int .i64 z
theorem flatI (ys : List Int) : flat (ys.map (AV.int .i64)) = ys.map (AV.int .i64) := by
  induction ys with
  | nil => rfl
  | cons y r ih => simp only [flat, List.map_cons, List.flatMap_cons] at ih ⊢; rw [ih]; rfl
theorem cells_ints {c : Array Value} {ys : List Int} (k : CellsOk P h β H (ys.map (AV.int .i64)) c) (j : Nat) (z : Int) (e : ys[j]? = some z) : c[j]? = some (.int .i64 z) := by
  obtain ⟨us, h1, h2⟩ := k
  have e' : (ys.map (AV.int .i64))[j]? = some (.int .i64 z) := by rw [List.getElem?_map, e]; rfl
  rw [h1 j _ e', rep_int (h2 j _ e')]
theorem ints_cells {c : Array Value} {ys : List Int} (hc : ∀ (j : Nat) z, ys[j]? = some z → c[j]? = some (.int .i64 z)) : CellsOk P h β H (ys.map (AV.int .i64)) c := by
  refine ⟨fun j => .int .i64 (ys.getD j 0), fun j x e => ?_, fun j x e => ?_⟩
  · rw [List.getElem?_map, Option.map_eq_some_iff] at e
    obtain ⟨z, e1, rfl⟩ := e
    rw [hc j z e1]; simp [List.getD, e1]
  · rw [List.getElem?_map, Option.map_eq_some_iff] at e
    obtain ⟨z, e1, rfl⟩ := e
    have e2 : ys.getD j 0 = z := by simp [List.getD, e1]
    simp only [e2]
    exact .int _ _

theorem insert_sr (s : SR P E h β H w) {i p cap b : Nat} {t : TypeId} {nl : Bool} {ys : List Int} {x : Int} (hi : H[i]? = some (.grow t nl (ys.map (AV.int .i64)))) (hp : p ≤ ys.length) (hsz : sz P t = 1)
    (hcap : ys.length + 1 ≤ cap) (hmax : cap ≤ maxLen) (he : World.env w' = World.env w) (hk : ∀ k, k < w.heap.size → blkOf β H i ≠ some k → w'.heap[k]? = w.heap[k]?)
    (hbo : blkOf β H i = some b ∨ w.heap.size ≤ b) {c' : Array Value} (hb : w'.heap[b]? = some (.cells c' t (0, 0))) (hcs : c'.size = cap) (hc : ∀ (j : Nat) z, (putAt ys p x)[j]? = some z → c'[j]? = some (.int .i64 z))
    {k : AV → List Blk → Prop} (hq : k (.gr i (ys.length + 1)) (H.set i (.grow t false ((putAt ys p x).map (AV.int .i64))))) :
    Ends P E h β H k (.returned (.slice (some ⟨b, 0, none⟩) (ys.length + 1) cap)) w' := by
  have hlt := (List.getElem?_eq_some_iff.1 hi).1
  have hpl := putAt_length (x := x) hp
  obtain ⟨s', X⟩ := s.modify (β' := upb β i (.slice (some ⟨b, 0, none⟩) (ys.length + 1) cap)) (w' := w') (x' := .grow t false ((putAt ys p x).map (AV.int .i64))) hi
    (fun j hj => by simp [upb, hj]) (.inr ⟨_, _, rfl, by simp [hpl], fun e => by simp [hpl] at e⟩) (he.trans s.env) hk
    (fun b0 hb => by simp [upb, anchor] at hb; rw [← hb.2]; exact hbo)
    (fun X => .inr (.inr ⟨rfl, b, cap, c', by simp [upb, hpl], by omega, hb, by simpa [hpl] using hcap, hmax, by rw [hsz, hcs, Nat.mul_one], by omega,
      fun e he => by rw [hsz]; obtain ⟨z, _, rfl⟩ := List.mem_map.1 he; rfl, fun e he => by rw [flatI] at he; obtain ⟨z, _, rfl⟩ := List.mem_map.1 he; rfl, by rw [flatI]; exact ints_cells hc⟩))
  refine ⟨_, _, _, _, _, rfl, hq, X, s', .gr rfl (.set hlt rfl) fun t' nl' els' e => ?_⟩
  simp [hlt] at e; obtain ⟨_, _, rfl⟩ := e; exact ⟨by simp [hpl], fun _ => by simp [upb]⟩

theorem ACall.insert (L : Lays2.n21 P ρ) {i j p : Nat} {nl : Bool} {ys : List Int} {x : Int} (hi : H[i]? = some (.grow (ρ.t 3) nl (ys.map (AV.int .i64)))) (hj : H[j]? = some (.grow (ρ.t 3) false [.int .i64 x])) (hij : i ≠ j)
    (hp : p ≤ ys.length) (hn : ys.length ≤ 1000000) {k : AV → List Blk → Prop} (hk : k (.gr i (ys.length + 1)) (H.set i (.grow (ρ.t 3) false ((putAt ys p x).map (AV.int .i64))))) :
    ACall P (ρ.f 21) [.gr i ys.length, .int .i64 p, .gr j 1] H k := by
  refine ⟨⟨_, L.f21, by kernel_rfl, by kernel_rfl⟩, fun E h β w vs s hr => ?_⟩
  obtain ⟨i0, hi0, hz0, hzs, hzb⟩ := info_parts L.i3
  have hsz : sz P (ρ.t 3) = 1 := by simp [sz, hi0, hzs]
  obtain ⟨hl, hr⟩ := hr
  match vs, hl, hr with
  | [v0, v1, v2], _, hr =>
  obtain ⟨_, e0, r0⟩ := hr 0 _ rfl
  obtain ⟨_, e1, r1⟩ := hr 1 _ rfl
  obtain ⟨_, e2, r2⟩ := hr 2 _ rfl
  cases e0; cases e1; cases e2
  have hv0 : v0 = β i := by cases r0 with | gr ho hii hv => exact (hv _ _ _ hi).2 (by simp)
  have hv2 : v2 = β j := by cases r2 with | gr ho hii hv => exact (hv _ _ _ hj).2 rfl
  have hv1 := rep_int r1
  subst hv0 hv1 hv2
  refine callsIn_wide.2 ?_
  rcases s.blk j _ hj with ⟨_, h7, _⟩ | ⟨_, h7, _⟩ | ⟨_, vb, vc, cv, j8, j9, j10, j11, j12, j13, j14, j15, j16, j17⟩
  · cases h7
  · cases h7
  have hvx : cv[0]? = some (.int .i64 x) := cells_ints (ys := [x]) (by simpa [flat, AV.cells] using j17) 0 x rfl
  have hjo : blkOf β H j = some vb := by simp [blkOf, hj, j8, anchor]; omega
  have hvs : ∀ (q : Nat) v, [vint x][q]? = some v → w.cell? ⟨vb, 0 + q, none⟩ = some v := fun q v e => by
    have hq : q = 0 := by have := (List.getElem?_eq_some_iff.1 e).1; simp at this; exact this
    subst hq; cases e
    rw [cell?_of j10]; exact hvx
  have hcsl : (ys.map vint).length = ys.length := by simp
  have h1c : ∀ v ∈ ys.map vint, v.oneCell' = true := fun v hv => by obtain ⟨z, _, rfl⟩ := List.mem_map.1 hv; rfl
  have h1v : ∀ v ∈ [vint x], v.oneCell' = true := fun v hv => by rw [List.mem_singleton.1 hv]; rfl
  have hzc : ∀ q, (Builtin.zeroCells (Value.int IntKind.i64 0).cells q).size = q := fun q => by rw [size_zeroCells]; exact Nat.mul_one q
  have hge := fun cap => grownCap_ge w (ys.length + 1) cap (ρ.t 3)
  have hle := fun cap => grownCap_le_maxLen w (ys.length + 1) cap (ρ.t 3) (by simp only [maxLen]; omega)
  -- the new row at the end
  have fresh_end : ∀ (base : Option Addr) (c : Nat), β i = .slice base ys.length c → ys.length ≤ c → c < ys.length + 1 → p = ys.length → (base = none → ys.length = 0) →
      (∀ a, base = some a → ∀ (q : Nat) v, (ys.map vint)[q]? = some v → w.cell? (a.add q) = some v) →
      Calls P (ρ.f 21) [β i, .int .i64 p, β j].toArray w (Ends P E h β H k) := by
    intro base c hb hnc hroom hpn hnil hcs
    rw [hb, j8, hpn]
    refine (Any2.slices_Insert_int_end_grow L base ys.length c vb 0 1 vc (ys.map vint) [vint x] w (by omega) hnc hroom (by omega) hcsl rfl hnil hcs hvs h1v).mono ?_
    rintro e w' ⟨rfl, rfl⟩
    refine insert_sr (w' := w.drew.alloc _) s hi (by omega : p ≤ ys.length) hsz (hge c) (hle c) rfl (fun k hk _ => Below.heap_alloc w.drew _ _ hk) (.inr (Nat.le_refl _)) (heap_alloc_new w.drew _) ?_ ?_ hk
    · simp only [Array.size_append, List.size_toArray, List.length_append, List.length_map, List.length_singleton, hzc]; have := hge c; omega
    · intro q z e
      rw [putAt_get hp] at e
      have hlq : q < ys.length + 1 := by
        split at e
        · omega
        · split at e
          · omega
          · have := (List.getElem?_eq_some_iff.1 e).1; omega
      rw [Array.getElem?_append_left (by simpa using hlq), List.getElem?_toArray]
      by_cases h1 : q < p
      · rw [if_pos h1] at e
        rw [List.getElem?_append_left (by simp; omega), List.getElem?_map, e]; rfl
      · rw [if_neg h1] at e
        have h2 : q = p := by omega
        rw [if_pos h2] at e; cases e
        rw [List.getElem?_append_right (by simp; omega), h2, hpn]; simp [vint]
  rcases s.blk i _ hi with ⟨h6, h7, h8⟩ | ⟨h6, h7, a0, h8⟩ | ⟨h6, b, cap, c, h8, h9, h10, h11, h12, h13, h14, h15, h16, h17⟩
  · have h7' : ys = [] := by simpa using h7
    subst h7'
    exact fresh_end none 0 h8 (by simp) (by simp) (by simpa using hp) (fun _ => rfl) (fun a e => by cases e)
  · have h7' : ys = [] := by simpa using h7
    subst h7'
    exact fresh_end (some a0) 0 h8 (by simp) (by simp) (by simpa using hp) (fun e => by cases e) (fun a e q v e' => by simp at e')
  · rw [flatI] at h17
    rw [hsz, Nat.mul_one] at h13
    simp only [List.length_map] at h8 h11
    have hcell := cells_ints h17
    have hcs : ∀ (q : Nat) v, (ys.map vint)[q]? = some v → w.cell? ⟨b, 0 + q, none⟩ = some v := fun q v e => by
      rw [List.getElem?_map, Option.map_eq_some_iff] at e
      obtain ⟨z, e1, rfl⟩ := e
      rw [cell?_of h10, Nat.zero_add]; exact hcell q z e1
    have hbo : blkOf β H i = some b := by simp [blkOf, hi, h8, anchor]; omega
    have hvb : vb ≠ b := fun e => hij (s.own i j b hbo (by rw [hjo, e]))
    by_cases hroom : ys.length + 1 ≤ cap
    · have hsp : ∀ q, q < ys.length + 1 → (w.cell? ⟨b, 0 + q, none⟩).isSome = true := fun q hq => by
        rw [cell?_of h10, Nat.zero_add, Array.getElem?_eq_getElem (by omega)]; rfl
      have hfz : ∀ (q : Nat), w.frozen? ⟨b, q, none⟩ = false := fun q => by simp [World.frozen?, h10]
      by_cases hpn : p = ys.length
      · rw [h8, j8, hpn]
        refine (Any2.slices_Insert_int_end_room L b 0 ys.length cap vb 0 1 vc [vint x] w (by omega) hroom (by simp only [maxLen] at h12; omega) rfl
          (fun q hq => by rw [Nat.zero_add, cell?_of h10, Array.getElem?_eq_getElem (by omega)]; rfl) (fun q hq => hfz _) hvs h1v).mono ?_
        rintro e w' ⟨rfl, rfl⟩
        obtain ⟨c', g1, g2, g3⟩ := setCells_heap b [vint x] (0 + ys.length) w c h10 (by simp; omega)
        refine insert_sr s hi hp hsz hroom h12 (setCells_env _ _ _ _) (fun k _ hne => setCells_other _ _ _ _ _ (fun e => hne (by rw [hbo, e]))) (.inl hbo) g1 (by omega) ?_ hk
        intro q z e
        rw [putAt_get hp] at e
        rw [g3]
        by_cases h1 : q < p
        · rw [if_pos h1] at e
          rw [if_neg (by omega)]; exact hcell q z e
        · rw [if_neg h1] at e
          by_cases h2 : q = p
          · rw [if_pos h2] at e; cases e
            rw [if_pos (by simp; omega)]; rw [h2, hpn]; simp [vint]
          · rw [if_neg h2] at e; have := (List.getElem?_eq_some_iff.1 e).1; omega
      · rw [h8, j8]
        refine (Any2.slices_Insert_int_shift L b 0 ys.length cap p vb 0 1 vc (ys.map vint) [vint x] w (by omega) (by omega) hroom (by simp only [maxLen] at h12; omega) hvb hcsl rfl hcs hsp (fun q _ => hfz _) hvs h1c h1v
          (ρ.t 3) (ρ.t 3) cv.size c.size (by simp [World.shape?, j10]) (by simp [World.shape?, h10]) (by omega) (by simp [World.frozen?, j10]) (by simp [World.frozen?, j10])).mono ?_
        rintro e w' ⟨rfl, rfl⟩
        obtain ⟨c1, f1, f2, f3⟩ := setCells_heap b ((ys.map vint).drop p) (0 + (p + 1)) w.drew c h10 (by simp; omega)
        obtain ⟨c', g1, g2, g3⟩ := setCells_heap b [vint x] (0 + p) _ c1 f1 (by simp; omega)
        refine insert_sr (w' := (w.drew.setCells b (0 + (p + 1)) ((ys.map vint).drop p)).setCells b (0 + p) [vint x]) s hi hp hsz hroom h12 ((setCells_env _ _ _ _).trans ((setCells_env _ _ _ _).trans rfl)) (fun k _ hne => (setCells_other _ _ _ _ _ (fun e => hne (by rw [hbo, e]))).trans (setCells_other _ _ _ _ _ (fun e => hne (by rw [hbo, e])))) (.inl hbo) g1 (by omega) ?_ hk
        intro q z e
        rw [putAt_get hp] at e
        rw [g3]
        by_cases h1 : q < p
        · rw [if_pos h1] at e
          rw [if_neg (by omega), f3, if_neg (by omega)]; exact hcell q z e
        · rw [if_neg h1] at e
          by_cases h2 : q = p
          · rw [if_pos h2] at e; cases e
            rw [if_pos (by simp; omega)]; rw [h2]; simp [vint]
          · rw [if_neg h2] at e
            have h3 := (List.getElem?_eq_some_iff.1 e).1
            rw [if_neg (by simp; omega), f3, if_pos (by simp; omega), List.getElem?_drop, List.getElem?_map, show p + (q - (0 + (p + 1))) = q - 1 by omega, e]; rfl
    · by_cases hpn : p = ys.length
      · exact fresh_end (some ⟨b, 0, none⟩) cap h8 h11 (by omega) hpn (fun e => by cases e) (fun a e q v e' => by cases e; have := hcs q v e'; rw [addr_add]; exact this)
      · rw [h8, j8]
        refine (Any2.slices_Insert_int_grow L b 0 ys.length cap p vb 0 1 vc (ys.map vint) [vint x] w (by omega) (by omega) h11 (by omega) (by omega) hcsl rfl hcs hvs h1c h1v).mono ?_
        rintro e w' ⟨rfl, rfl⟩
        obtain ⟨R, hR⟩ : ∃ R : Array Value, R = (((ys.map vint).take p).toArray ++ Builtin.zeroCells (Value.int .i64 0).cells (ys.length + 1 - p) ++ Builtin.zeroCells (Value.int .i64 0).cells (grownCap w (ys.length + 1) cap (ρ.t 3) - (ys.length + 1))) := ⟨_, rfl⟩
        have hRs : R.size = grownCap w (ys.length + 1) cap (ρ.t 3) := by
          rw [hR]; simp only [Array.size_append, List.size_toArray, List.length_take, List.length_map, hzc]; have := hge cap; omega
        rw [← hR]
        have hgc := hge cap
        have f0 : (w.alloc (.cells R (ρ.t 3))).drew.heap[w.heap.size]? = some (.cells R (ρ.t 3) (0, 0)) := heap_alloc_new w _
        obtain ⟨c1, f1, f2, f3⟩ := setCells_heap w.heap.size [vint x] p _ R f0 (by simp; omega)
        have f1' : ((w.alloc (.cells R (ρ.t 3))).drew.setCells w.heap.size p [vint x]).drew.heap[w.heap.size]? = some (.cells c1 (ρ.t 3) (0, 0)) := f1
        obtain ⟨c', g1, g2, g3⟩ := setCells_heap w.heap.size ((ys.map vint).drop p) (p + 1) _ c1 f1' (by simp; omega)
        refine insert_sr (w' := ((w.alloc (.cells R (ρ.t 3))).drew.setCells w.heap.size p [vint x]).drew.setCells w.heap.size (p + 1) ((ys.map vint).drop p)) s hi hp hsz (hge cap) (hle cap) ((setCells_env _ _ _ _).trans ((setCells_env _ _ _ _).trans rfl)) (fun k hk _ => (setCells_other _ _ _ _ _ (by omega)).trans ((setCells_other _ _ _ _ _ (by omega)).trans (Below.heap_alloc w _ _ hk))) (.inr (Nat.le_refl _)) g1 (by omega) ?_ hk
        intro q z e
        rw [putAt_get hp] at e
        rw [g3]
        by_cases h1 : q < p
        · rw [if_pos h1] at e
          rw [if_neg (by omega), f3, if_neg (by omega), hR, Array.getElem?_append_left (by simp [hzc]; omega), Array.getElem?_append_left (by simp; omega), List.getElem?_toArray, List.getElem?_take, if_pos h1, List.getElem?_map, e]; rfl
        · rw [if_neg h1] at e
          by_cases h2 : q = p
          · rw [if_pos h2] at e; cases e
            rw [if_neg (by omega), f3, if_pos (by simp; omega)]; rw [h2]; simp [vint]
          · rw [if_neg h2] at e
            have h3 := (List.getElem?_eq_some_iff.1 e).1
            rw [if_pos (by simp; omega), List.getElem?_drop, List.getElem?_map, show p + (q - (p + 1)) = q - 1 by omega, e]; rfl

structure Late (G : Prop) : Prop where
  g : G
theorem Walk.know {N : Nat} {r : Option Nat} {c : Code} {Q : Post} {D : List Nat} {σ : St} (L : List (Nat × AV)) (hs : SubX L σ) (x : Walk P N r c Q D (stX L) H) : Walk P N r c Q D σ H := ⟨AWp.weaken (stX_sub hs) x.o⟩

theorem XGetM.row {es : List (Int × AV)} {n : Int} {k : AV → Prop} (i : Nat) {te : TypeId} {nl : Bool} {els : List AV} (hi : lget H i = some (.grow te nl els)) (hnl : nl = els.isEmpty) (he : mget n es = if els.isEmpty = true then none else some (.gr i els.length)) (h : k (.gr i els.length)) : XGetM H (.sl true []) false n es k := by
  rw [lget_eq] at hi
  cases els with
  | nil => subst hnl; exact ⟨.inr ⟨rfl, rfl, he, i, te, hi, h⟩⟩
  | cons e els => exact ⟨.inl (by rw [he]; exact h)⟩
theorem Walk.nilrow {N : Nat} {r : Option Nat} {c : Code} {Q : Post} {D : List Nat} {σ : St} (te : TypeId) (x : Walk P N r c Q D σ (H ++ [.grow te true []])) : Walk P N r c Q D σ H := by
  constructor
  intro E h β a w s
  obtain ⟨s', X⟩ := s.sr.push (w' := w) s.sr.env (fun _ _ => rfl) (.slice none 0 0) (.grow te true []) (by intro b hb; simp [anchor] at hb) (fun _ => .inl ⟨rfl, rfl, by simp [upb]⟩)
  exact wpIn_mono (x.o E h _ a w ⟨s', fun u r e => let ⟨v, h1, h2⟩ := s.fits u r e; ⟨v, h1, X.rep h2⟩, s.size, s.df.ext X⟩) fun _ _ _ => Conc.ext X

structure FrzE (i n : Nat) (nl : Bool) (els : List AV) (es es' : List (Int × AV)) : Prop where
  k : es'.map (·.1) = es.map (·.1)
  o : ∀ (j : Nat) q x', es'[j]? = some (q, x') → ∃ x, es[j]? = some (q, x) ∧ (x' = x ∨ (x = .gr i n ∧ x' = .sl nl els))
theorem Walk.freezeMap {N : Nat} {r : Option Nat} {c : Code} {Q : Post} {D : List Nat} {σ : St} (j i n : Nat) {es : List (Int × AV)} (es' : List (Int × AV)) {t : TypeId} {nl : Bool} {els : List AV} (hj : lget H j = some (.map es)) (hi : lget H i = some (.grow t nl els)) (hn : els.length = n)
    (hf : FrzE i n nl els es es') (x : Walk P N r c Q D σ ((H.set i .dead).set j (.map es'))) : Walk P N r c Q D σ H := by
  constructor
  intro E h β a w s
  rw [lget_eq] at hi hj
  have hij : i ≠ j := by rintro rfl; rw [hi] at hj; cases hj
  obtain ⟨h', s1, X1, hfz⟩ := s.sr.freeze hi
  have hj1 : (H.set i .dead)[j]? = some (.map es) := by rw [List.getElem?_set_ne hij]; exact hj
  obtain ⟨s2, X2⟩ := s1.modify (β' := β) (w' := w) (x' := .map es') hj1 (fun _ _ => rfl) (.inr ⟨_, rfl, rfl⟩) s1.env (fun _ _ _ => rfl) (fun b e => .inl (by unfold blkOf; rw [hj1]; exact e)) (fun X => by
    obtain ⟨q, ents, clock, h1, h2, h3, h4, us, h5⟩ := s.sr.blk j _ hj
    have hl : es'.length = es.length := by have := congrArg List.length hf.k; simpa using this
    refine ⟨q, ents, clock, h1, h2, by rw [hf.k]; exact h3, by rw [hl]; exact h4, us, fun m key y e => ?_⟩
    obtain ⟨x0, e0, hx⟩ := hf.o m key y e
    obtain ⟨hr, born⟩ := h5 m key x0 e0
    refine ⟨?_, born⟩
    rcases hx with rfl | ⟨rfl, rfl⟩
    · exact (X1.trans X).rep hr
    · exact gr_frz s.sr hi hn hr (X1.trans X) hfz)
  exact wpIn_mono (x.o E h' _ a w ⟨s2, fun u r e => let ⟨v, h1, h2⟩ := s.fits u r e; ⟨v, h1, (X1.trans X2).rep h2⟩, s.size, s.df.ext (X1.trans X2)⟩) fun _ _ _ => Conc.ext (X1.trans X2)
end
end GA
end

section
namespace GA
open Go Go.RowKit Go.Proofs
set_option pp.deepTerms true
set_option maxRecDepth 8000
set_option linter.unusedVariables false
set_option linter.unusedSimpArgs false

theorem mixed_ok : Tryz.prog.follows .mixedOrders = true := by kernel_rfl

theorem find_none {α : Type} {p : α → Bool} {xs : List α} {d : α} (h : ∀ j, j < xs.length → p (xs.getD j d) = false) : xs.findIdx? p = none := by
  rw [List.findIdx?_eq_none_iff]; intro x hx
  obtain ⟨j, hj, rfl⟩ := List.mem_iff_getElem.1 hx
  have := h j hj; rwa [List.getD_eq_getElem?_getD, List.getElem?_eq_getElem hj] at this
theorem find_some {α : Type} {p : α → Bool} {xs : List α} {d : α} {i : Nat} (hi : i < xs.length) (hp : p (xs.getD i d) = true) (h : ∀ j, j < i → p (xs.getD j d) = false) : xs.findIdx? p = some i := by
  rw [List.findIdx?_eq_some_iff_getElem]
  refine ⟨hi, by rwa [List.getD_eq_getElem?_getD, List.getElem?_eq_getElem hi] at hp, fun j hj => ?_⟩
  have := h j hj; rw [List.getD_eq_getElem?_getD, List.getElem?_eq_getElem (by omega)] at this; simpa using this
theorem getD_mem {α : Type} {xs : List α} {d : α} {i : Nat} (hi : i < xs.length) : xs.getD i d ∈ xs := by
  rw [List.getD_eq_getElem?_getD, List.getElem?_eq_getElem hi]; exact List.getElem_mem hi
def idxR {α : Type} (p : α → Bool) (xs : List α) : Int := match xs.findIdx? p with | some i => i | none => -1
theorem idxR_pos {α : Type} {p : α → Bool} {xs : List α} : (0 ≤ idxR p xs) ↔ xs.any p = true := by
  unfold idxR
  cases h : xs.findIdx? p with
  | none => rw [List.findIdx?_eq_none_iff] at h; simp; intro x hx; simpa using h x hx
  | some i =>
    rw [List.findIdx?_eq_some_iff_getElem] at h; obtain ⟨h1, h2, _⟩ := h
    simp; exact ⟨_, List.getElem_mem h1, h2⟩

theorem eq_of_getD {α : Type} {xs ys : List α} {d : α} (hl : xs.length = ys.length) (h : ∀ j, j < xs.length → xs.getD j d = ys.getD j d) : xs = ys := by
  apply List.ext_getElem hl
  intro j h1 h2
  have := h j h1
  rwa [List.getD_eq_getElem?_getD, List.getD_eq_getElem?_getD, List.getElem?_eq_getElem h1, List.getElem?_eq_getElem h2] at this

theorem equal_int (n1 n2 : Bool) (xs ys : List Int) (hx : xs.length ≤ 100000) : Comp Tryz.prog 93 [.sl n1 (ints xs), .sl n2 (ints ys)] (.bool (xs == ys)) := by
  refine Comp.body (T := tab) (res := [.tmp 4]) tab_ok [] Tryz.func93 rfl (by kernel_rfl) Tryz.ntmps93 rfl (by simp only [List.length_cons, List.length_nil]; decide) (by simp only [lowL, AV.low, lowI]; rfl) ?_; conv => whnf
  repeat' first | ((with_reducible first | apply XBr.tt | apply XBr.ff | apply Chk.go | apply ChkA.go | apply ChkF.go | apply ChkB.go | apply XArr.pim0 | apply XArr.pim1); conv => whnf) | (with_reducible apply XBr.not) | ((with_reducible apply XBr.dec) <;> (intro h; first | (exfalso; omega) | ((try simp only [List.length_map] at h); first | (exfalso; omega) | (conv => whnf)))) | ((with_reducible first | apply XBr.beq | apply XBr.bne) <;> (intro h; first | (exfalso; omega) | (conv => whnf))) | ((with_reducible refine XInt.i64 (by omega) (by omega) ?_); conv => whnf) | ((with_reducible refine XHold.mk ?_ ?_); (first | omega | rfl | decide | exact ⟨rfl, by decide, rfl⟩ | exact wideI _ | exact widePr _ | exact wideSk _ | (unfold Room; constructor <;> ((try simp) <;> omega)) | exact ⟨rfl, by simp only [List.length_map], by unfold Room; constructor <;> ((try simp) <;> omega)⟩ | exact ⟨by omega, by omega, by unfold Room; constructor <;> ((try simp) <;> omega)⟩); conv => whnf) | ((first | ((with_reducible refine XIx.nat ?_ ?_ ?_); omega; (intro _; rfl)) | ((with_reducible refine XIx.map ?_ ?_ ?_ ?_); omega; omega; (intro _; rfl))); conv => whnf) | (with_reducible apply XAnd.mk) | (exact XSame.mk rfl rfl) | (exact XSame.mk (by first | rfl | (simp only [List.map_append, List.length_append, List.length_map]; done) | (simp only [List.map_append, List.length_append, List.length_map]; rfl)) (by first | rfl | (simp only [List.map_append]; done) | (simp only [List.map_append]; rfl))) | (with_reducible exact trivial) | ((first | (with_reducible refine xdrop_app (by rw [List.length_map]; omega) ?_) | (with_reducible refine XDrop.desk (by assumption) ?_) | (with_reducible first | refine XArr.ints (by omega) (by omega) (by omega) ?_ | refine XArr.intsA (by omega) (by omega) (by omega) ?_) | ((with_reducible first | refine XArr.nats ?_ ?_ ?_ | refine XArr.natsA ?_ ?_ ?_ | refine XArr.ptr ?_ ?_ ?_); omega; omega)); conv => whnf) | ((with_reducible apply XBr.mk') <;> (intro h; conv => whnf))
  · refine XOut.bool ?_
    rw [Bool.eq_iff_iff]; simp; intro e; subst e; simp at h
  have hl : (xs.length : Int) = ys.length := by simpa using h
  refine Walk.loop tab_ok [] (fun i : Nat => i ≤ xs.length ∧ ∀ j, j < i → xs.getD j default = ys.getD j default) (fun i => [(0, .sl n1 (ints xs)), (1, .sl n2 (ints ys)), (12, .int .i64 xs.length), (13, .int .i64 i)]) (fun _ => []) (fun i => xs.length - i) 0 ⟨by omega, by omega⟩ rfl ⟨rfl, rfl, by simp only [List.length_map]; rfl, rfl, trivial⟩ ?_
  rintro i ⟨h2, h3⟩
  conv => whnf
  repeat' first | ((with_reducible first | apply XBr.tt | apply XBr.ff | apply Chk.go | apply ChkA.go | apply ChkF.go | apply ChkB.go | apply XArr.pim0 | apply XArr.pim1); conv => whnf) | (with_reducible apply XBr.not) | ((with_reducible apply XBr.dec) <;> (intro h; first | (exfalso; omega) | ((try simp only [List.length_map] at h); first | (exfalso; omega) | (conv => whnf)))) | ((with_reducible first | apply XBr.beq | apply XBr.bne) <;> (intro h; first | (exfalso; omega) | (conv => whnf))) | ((with_reducible refine XInt.i64 (by omega) (by omega) ?_); conv => whnf) | ((with_reducible refine XHold.mk ?_ ?_); (first | omega | rfl | decide | exact ⟨rfl, by decide, rfl⟩ | exact wideI _ | exact widePr _ | exact wideSk _ | (unfold Room; constructor <;> ((try simp) <;> omega)) | exact ⟨rfl, by simp only [List.length_map], by unfold Room; constructor <;> ((try simp) <;> omega)⟩ | exact ⟨by omega, by omega, by unfold Room; constructor <;> ((try simp) <;> omega)⟩); conv => whnf) | ((first | ((with_reducible refine XIx.nat ?_ ?_ ?_); omega; (intro _; rfl)) | ((with_reducible refine XIx.map ?_ ?_ ?_ ?_); omega; omega; (intro _; rfl))); conv => whnf) | (with_reducible apply XAnd.mk) | (exact XSame.mk rfl rfl) | (exact XSame.mk (by first | rfl | (simp only [List.map_append, List.length_append, List.length_map]; done) | (simp only [List.map_append, List.length_append, List.length_map]; rfl)) (by first | rfl | (simp only [List.map_append]; done) | (simp only [List.map_append]; rfl))) | (with_reducible exact trivial) | ((first | (with_reducible refine xdrop_app (by rw [List.length_map]; omega) ?_) | (with_reducible refine XDrop.desk (by assumption) ?_) | (with_reducible first | refine XArr.ints (by omega) (by omega) (by omega) ?_ | refine XArr.intsA (by omega) (by omega) (by omega) ?_) | ((with_reducible first | refine XArr.nats ?_ ?_ ?_ | refine XArr.natsA ?_ ?_ ?_ | refine XArr.ptr ?_ ?_ ?_); omega; omega)); conv => whnf) | ((with_reducible apply XBr.mk') <;> (intro h; conv => whnf))
  · apply Walk.drawX tab_ok mixed_ok [] [] (fun _ => []) [_, _, _, _, _, _, _, _, _] (by kernel_rfl) rfl
    · skip
      repeat' first | ((with_reducible first | apply XBr.tt | apply XBr.ff | apply Chk.go | apply ChkA.go | apply ChkF.go | apply ChkB.go | apply XArr.pim0 | apply XArr.pim1); conv => whnf) | (with_reducible apply XBr.not) | ((with_reducible apply XBr.dec) <;> (intro h; first | (exfalso; omega) | ((try simp only [List.length_map] at h); first | (exfalso; omega) | (conv => whnf)))) | ((with_reducible first | apply XBr.beq | apply XBr.bne) <;> (intro h; first | (exfalso; omega) | (conv => whnf))) | ((with_reducible refine XInt.i64 (by omega) (by omega) ?_); conv => whnf) | ((with_reducible refine XHold.mk ?_ ?_); (first | omega | rfl | decide | exact ⟨rfl, by decide, rfl⟩ | exact wideI _ | exact widePr _ | exact wideSk _ | (unfold Room; constructor <;> ((try simp) <;> omega)) | exact ⟨rfl, by simp only [List.length_map], by unfold Room; constructor <;> ((try simp) <;> omega)⟩ | exact ⟨by omega, by omega, by unfold Room; constructor <;> ((try simp) <;> omega)⟩); conv => whnf) | ((first | ((with_reducible refine XIx.nat ?_ ?_ ?_); omega; (intro _; rfl)) | ((with_reducible refine XIx.map ?_ ?_ ?_ ?_); omega; omega; (intro _; rfl))); conv => whnf) | (with_reducible apply XAnd.mk) | (exact XSame.mk rfl rfl) | (exact XSame.mk (by first | rfl | (simp only [List.map_append, List.length_append, List.length_map]; done) | (simp only [List.map_append, List.length_append, List.length_map]; rfl)) (by first | rfl | (simp only [List.map_append]; done) | (simp only [List.map_append]; rfl))) | (with_reducible exact trivial) | ((first | (with_reducible refine xdrop_app (by rw [List.length_map]; omega) ?_) | (with_reducible refine XDrop.desk (by assumption) ?_) | (with_reducible first | refine XArr.ints (by omega) (by omega) (by omega) ?_ | refine XArr.intsA (by omega) (by omega) (by omega) ?_) | ((with_reducible first | refine XArr.nats ?_ ?_ ?_ | refine XArr.natsA ?_ ?_ ?_ | refine XArr.ptr ?_ ?_ ?_); omega; omega)); conv => whnf) | ((with_reducible apply XBr.mk') <;> (intro h; conv => whnf))
    · skip
      repeat' first | ((with_reducible first | apply XBr.tt | apply XBr.ff | apply Chk.go | apply ChkA.go | apply ChkF.go | apply ChkB.go | apply XArr.pim0 | apply XArr.pim1); conv => whnf) | (with_reducible apply XBr.not) | ((with_reducible apply XBr.dec) <;> (intro h; first | (exfalso; omega) | ((try simp only [List.length_map] at h); first | (exfalso; omega) | (conv => whnf)))) | ((with_reducible first | apply XBr.beq | apply XBr.bne) <;> (intro h; first | (exfalso; omega) | (conv => whnf))) | ((with_reducible refine XInt.i64 (by omega) (by omega) ?_); conv => whnf) | ((with_reducible refine XHold.mk ?_ ?_); (first | omega | rfl | decide | exact ⟨rfl, by decide, rfl⟩ | exact wideI _ | exact widePr _ | exact wideSk _ | (unfold Room; constructor <;> ((try simp) <;> omega)) | exact ⟨rfl, by simp only [List.length_map], by unfold Room; constructor <;> ((try simp) <;> omega)⟩ | exact ⟨by omega, by omega, by unfold Room; constructor <;> ((try simp) <;> omega)⟩); conv => whnf) | ((first | ((with_reducible refine XIx.nat ?_ ?_ ?_); omega; (intro _; rfl)) | ((with_reducible refine XIx.map ?_ ?_ ?_ ?_); omega; omega; (intro _; rfl))); conv => whnf) | (with_reducible apply XAnd.mk) | (exact XSame.mk rfl rfl) | (exact XSame.mk (by first | rfl | (simp only [List.map_append, List.length_append, List.length_map]; done) | (simp only [List.map_append, List.length_append, List.length_map]; rfl)) (by first | rfl | (simp only [List.map_append]; done) | (simp only [List.map_append]; rfl))) | (with_reducible exact trivial) | ((first | (with_reducible refine xdrop_app (by rw [List.length_map]; omega) ?_) | (with_reducible refine XDrop.desk (by assumption) ?_) | (with_reducible first | refine XArr.ints (by omega) (by omega) (by omega) ?_ | refine XArr.intsA (by omega) (by omega) (by omega) ?_) | ((with_reducible first | refine XArr.nats ?_ ?_ ?_ | refine XArr.natsA ?_ ?_ ?_ | refine XArr.ptr ?_ ?_ ?_); omega; omega)); conv => whnf) | ((with_reducible apply XBr.mk') <;> (intro h; conv => whnf))
    · conv => whnf
      repeat' first | ((with_reducible first | apply XBr.tt | apply XBr.ff | apply Chk.go | apply ChkA.go | apply ChkF.go | apply ChkB.go | apply XArr.pim0 | apply XArr.pim1); conv => whnf) | (with_reducible apply XBr.not) | ((with_reducible apply XBr.dec) <;> (intro h; first | (exfalso; omega) | ((try simp only [List.length_map] at h); first | (exfalso; omega) | (conv => whnf)))) | ((with_reducible first | apply XBr.beq | apply XBr.bne) <;> (intro h; first | (exfalso; omega) | (conv => whnf))) | ((with_reducible refine XInt.i64 (by omega) (by omega) ?_); conv => whnf) | ((with_reducible refine XHold.mk ?_ ?_); (first | omega | rfl | decide | exact ⟨rfl, by decide, rfl⟩ | exact wideI _ | exact widePr _ | exact wideSk _ | (unfold Room; constructor <;> ((try simp) <;> omega)) | exact ⟨rfl, by simp only [List.length_map], by unfold Room; constructor <;> ((try simp) <;> omega)⟩ | exact ⟨by omega, by omega, by unfold Room; constructor <;> ((try simp) <;> omega)⟩); conv => whnf) | ((first | ((with_reducible refine XIx.nat ?_ ?_ ?_); omega; (intro _; rfl)) | ((with_reducible refine XIx.map ?_ ?_ ?_ ?_); omega; omega; (intro _; rfl))); conv => whnf) | (with_reducible apply XAnd.mk) | (exact XSame.mk rfl rfl) | (exact XSame.mk (by first | rfl | (simp only [List.map_append, List.length_append, List.length_map]; done) | (simp only [List.map_append, List.length_append, List.length_map]; rfl)) (by first | rfl | (simp only [List.map_append]; done) | (simp only [List.map_append]; rfl))) | (with_reducible exact trivial) | ((first | (with_reducible refine xdrop_app (by rw [List.length_map]; omega) ?_) | (with_reducible refine XDrop.desk (by assumption) ?_) | (with_reducible first | refine XArr.ints (by omega) (by omega) (by omega) ?_ | refine XArr.intsA (by omega) (by omega) (by omega) ?_) | ((with_reducible first | refine XArr.nats ?_ ?_ ?_ | refine XArr.natsA ?_ ?_ ?_ | refine XArr.ptr ?_ ?_ ?_); omega; omega)); conv => whnf) | ((with_reducible apply XBr.mk') <;> (intro h; conv => whnf))
      · refine XOut.bool ?_
        rw [Bool.eq_iff_iff]; simp
        intro e; subst e; exact h rfl
      · refine XAgain.go (i + 1) ⟨by omega, fun j hj => ?_⟩ (by omega) rfl ⟨rfl, rfl, rfl, rfl, trivial⟩
        by_cases hji : j = i
        · subst hji; exact h
        · exact h3 j (by omega)
  · refine XOut.bool ?_
    have := eq_of_getD (by omega) fun j hj => h3 j (by omega)
    rw [this]; simp
theorem dup_int (nl : Bool) (xs : List Int) (hx : xs.length ≤ 100000) : Comp Tryz.prog 86 [.sl nl (ints xs)] (.sl false (ints xs)) := by
  refine Comp.body (T := tab) (res := [.tmp 2]) tab_ok [] Tryz.func86 rfl (by kernel_rfl) Tryz.ntmps86 rfl (by simp only [List.length_cons, List.length_nil]; decide) (by simp only [lowL, AV.low, lowI]; rfl) ?_; conv => whnf
  refine XHold.mk ⟨by omega, by simp, by unfold Room; simp; omega⟩ ?_
  conv => whnf
  refine XHold.mk (wideI xs) ?_
  conv => whnf
  refine XHold.mk ⟨rfl, rfl, by unfold Room; simp; omega⟩ ?_
  conv => whnf
  exact ⟨Froz.grow rfl (by simp) (lowI xs)⟩

structure Sk where
  m : Int
  o : Int
  deriving Inhabited, DecidableEq
def skA (s : Sk) : AV := .agg [.int .i64 s.m, .int .i64 s.o]
def prA (p : Int × Int) : AV := .agg [.int .i64 p.1, .int .i64 p.2]
theorem wideSk (xs : List Sk) : wide 2 (xs.map skA) = true := wide_map (f := skA) (n := 2) (fun _ => rfl) (fun _ => rfl) xs
theorem widePr (xs : List (Int × Int)) : wide 2 (xs.map prA) = true := wide_map (f := prA) (n := 2) (fun _ => rfl) (fun _ => rfl) xs


structure Ld where
  bears : Int
  shrink : Int
  nls : Bool
  sacks : List Sk
  nla : Bool
  apart : List (Int × Int)
  nlw : Bool
  wth : List (Int × Int)
def weightR (l : Ld) (s : Sk) : Int := s.m - s.m * l.shrink / 100
def bitsF : Nat → Nat → Nat → List Int
  | 0, _, _ => []
  | f + 1, i, s => if s = 0 then [] else if s % 2 = 1 then (i : Int) :: bitsF f (i + 1) (s / 2) else bitsF f (i + 1) (s / 2)
def bits (s : Nat) : List Int := bitsF 62 0 s
theorem wrap_nat {n : Nat} (h : n < 9223372036854775808) : IntKind.i64.wrap (n : Int) = n := by
  simp only [IntKind.wrap, IntKind.bits, IntKind.signed]; simp; omega
theorem bv_nat (a : Nat) : BitVec.ofInt IntKind.i64.bits (a : Int) = BitVec.ofNat 64 a := BitVec.ofInt_natCast ..
theorem iand_nat {a b : Nat} (ha : a < 9223372036854775808) (hb : b < 9223372036854775808) : iand .i64 a b = ((a &&& b : Nat) : Int) := by
  have h : a &&& b < 9223372036854775808 := Nat.lt_of_le_of_lt Nat.and_le_left ha
  unfold iand
  rw [bv_nat, bv_nat]
  have : (BitVec.ofNat 64 a &&& BitVec.ofNat 64 b).toNat = a &&& b := by
    rw [BitVec.toNat_and, BitVec.toNat_ofNat, BitVec.toNat_ofNat, Nat.mod_eq_of_lt (by omega), Nat.mod_eq_of_lt (by omega)]
  exact (congrArg (fun n : Nat => IntKind.i64.wrap (n : Int)) this).trans (wrap_nat h)
theorem ior_nat {a b : Nat} (ha : a < 9223372036854775808) (hb : b < 9223372036854775808) : ior .i64 a b = ((a ||| b : Nat) : Int) := by
  have h : a ||| b < 2 ^ 63 := Nat.or_lt_two_pow (n := 63) (by omega) (by omega)
  unfold ior
  rw [bv_nat, bv_nat]
  have : (BitVec.ofNat 64 a ||| BitVec.ofNat 64 b).toNat = a ||| b := by
    rw [BitVec.toNat_or, BitVec.toNat_ofNat, BitVec.toNat_ofNat, Nat.mod_eq_of_lt (by omega), Nat.mod_eq_of_lt (by omega)]
  exact (congrArg (fun n : Nat => IntKind.i64.wrap (n : Int)) this).trans (wrap_nat (by omega))
def diff (a b : Nat) : Nat := a ^^^ (a &&& b)
theorem iandn_nat {a b : Nat} (ha : a < 9223372036854775808) (hb : b < 9223372036854775808) : iandn .i64 a b = ((diff a b : Nat) : Int) := by
  have h0 : a &&& b < 2 ^ 63 := Nat.lt_of_le_of_lt Nat.and_le_left (by omega)
  have h : a ^^^ (a &&& b) < 2 ^ 63 := Nat.xor_lt_two_pow (n := 63) (by omega) h0
  unfold iandn
  rw [bv_nat, bv_nat]
  have hbv : BitVec.ofNat 64 a &&& ~~~ (BitVec.ofNat 64 b) = BitVec.ofNat 64 a ^^^ (BitVec.ofNat 64 a &&& BitVec.ofNat 64 b) := by
    apply BitVec.eq_of_getLsbD_eq; intro i hi; simp
    cases (BitVec.ofNat 64 a).getLsbD i <;> cases (BitVec.ofNat 64 b).getLsbD i <;> simp_all
  have : (BitVec.ofNat 64 a &&& ~~~ (BitVec.ofNat 64 b)).toNat = a ^^^ (a &&& b) := by
    rw [hbv, BitVec.toNat_xor, BitVec.toNat_and, BitVec.toNat_ofNat, BitVec.toNat_ofNat, Nat.mod_eq_of_lt (by omega), Nat.mod_eq_of_lt (by omega)]
  exact (congrArg (fun n : Nat => IntKind.i64.wrap (n : Int)) this).trans (wrap_nat (by omega))
theorem shl_nat {k : Nat} (hk : k ≤ 64) : (1 : Int) * 2 ^ (min (k : Int).toNat IntKind.i64.bits) = ((2 ^ k : Nat) : Int) := by
  have : min (k : Int).toNat IntKind.i64.bits = k := by simp only [Int.toNat_natCast, IntKind.bits]; omega
  rw [this]; simp
def natA (n : Nat) : AV := .int .i64 n
abbrev nats (xs : List Nat) : List AV := xs.map natA
theorem nats_at {xs : List Nat} {i : Nat} (h : i < xs.length) (b : List AV) : (nats xs ++ b)[i * 1]? = some (.int .i64 (xs.getD i 0 : Nat)) := by
  rw [Nat.mul_one, List.getElem?_append_left (by simpa using h), List.getElem?_map, List.getElem?_eq_getElem h, List.getD_eq_getElem?_getD, List.getElem?_eq_getElem h]; rfl
theorem XArr.nats {xs : List Nat} {i m : Nat} {k : AV → Prop} (h2 : i < m) (hm : m ≤ xs.length) (h : k (.pim (.int .i64 (xs.getD i 0 : Nat) :: (GA.nats xs).drop (i * 1 + 1)))) : XArr (.pim (GA.nats xs)) (i : Int) m 1 k :=
  XArr.at _ (by omega) (by omega) (by have := nats_at (xs := xs) (i := i) (by omega) []; simpa using this) h
theorem XArr.natsA {xs : List Nat} {b : List AV} {i m : Nat} {k : AV → Prop} (h2 : i < m) (hm : m ≤ xs.length) (h : k (.pim (.int .i64 (xs.getD i 0 : Nat) :: (GA.nats xs ++ b).drop (i * 1 + 1)))) : XArr (.pim (GA.nats xs ++ b)) (i : Int) m 1 k :=
  XArr.at _ (by omega) (by omega) (nats_at (xs := xs) (i := i) (by omega) b) h
structure Dk where
  l : Ld
  hv : List Nat
  nd : List Nat
def deskC (d : Dk) : List AV := .int .i64 d.l.bears :: .int .i64 d.l.shrink :: .sl d.l.nls (d.l.sacks.map skA) :: .sl d.l.nla (d.l.apart.map prA) :: .sl d.l.nlw (d.l.wth.map prA) :: (nats d.hv ++ nats d.nd)
theorem XDrop.desk {d : Dk} {k : List AV → Prop} (hh : d.hv.length = 512) (h : k (nats d.nd)) : XDrop 517 (deskC d) k := by
  have e : deskC d = (.int .i64 d.l.bears :: .int .i64 d.l.shrink :: .sl d.l.nls (d.l.sacks.map skA) :: .sl d.l.nla (d.l.apart.map prA) :: .sl d.l.nlw (d.l.wth.map prA) :: nats d.hv) ++ nats d.nd := rfl
  have l : (.int .i64 d.l.bears :: .int .i64 d.l.shrink :: .sl d.l.nls (d.l.sacks.map skA) :: .sl d.l.nla (d.l.apart.map prA) :: .sl d.l.nlw (d.l.wth.map prA) :: nats d.hv).length = 517 := by simp [hh]
  refine ⟨by rw [e, List.length_append, l]; omega, ?_⟩
  rw [e, List.drop_left' l]; exact h
def hsK (H : List Blk) : List Bool → List Blk := fun _ => H
theorem AYield.mono {P : Program} {i : Nat} {rs : List AV} {H : List Blk} {k k' : AV → List Blk → Prop} (x : AYield P i rs H k) (hk : ∀ r H', k r H' → k' r H') : AYield P i rs H k' :=
  ⟨x.1, fun E h β w b vs s r e => let ⟨f, tmps, assign, body, h1, h2⟩ := x.2 E h β w b vs s r e; ⟨f, tmps, assign, body, h1, h2.mono fun _ _ => Ends.mono hk⟩⟩
def IterOk (P : Program) (i : Nat) (K : List Blk → Prop) : List Nat → List Blk → Prop
  | [], H => K H
  | c :: cs, H => XYield P i [natA c] H fun r H' => (r = .bool true ∧ IterOk P i K cs H') ∨ (r = .bool false ∧ K H')

def sumW : List Nat → Nat → Nat
  | [], _ => 0
  | w :: ws, s => (if s % 2 = 1 then w else 0) + sumW ws (s / 2)
def wt (l : Ld) (s : Sk) : Nat := (weightR l s).toNat
def wts (l : Ld) : List Nat := l.sacks.map (wt l)
theorem IterOk.run {P : Program} {i : Nat} {H : List Blk} {K : List Blk → Prop} {S : Type} (upd : List Blk → S → List Blk) (step : S → Nat → S) (I : S → List Nat → Prop)
    (x : ∀ s c cs, I s (c :: cs) → XYield P i [natA c] (upd H s) (fun r H' => r = .bool true ∧ H' = upd H (step s c)) ∧ I (step s c) cs) :
    ∀ (cs : List Nat) (s : S), I s cs → K (upd H (cs.foldl step s)) → IterOk P i K cs (upd H s)
  | [], s, _, hk => hk
  | c :: cs, s, hI, hk => by
    obtain ⟨h1, h2⟩ := x s c cs hI
    refine ⟨AYield.mono h1.o ?_⟩
    rintro r H' ⟨rfl, rfl⟩
    exact .inl ⟨rfl, IterOk.run upd step I x cs _ h2 hk⟩
theorem IterOk.go {P : Program} {i : Nat} {H : List Blk} {K : List Blk → Prop} {S : Type} {cs : List Nat} (upd : List Blk → S → List Blk) (step : S → Nat → S) (I : S → List Nat → Prop) (s0 : S) (hH : upd H s0 = H)
    (x : ∀ s c cs, I s (c :: cs) → XYield P i [natA c] (upd H s) (fun r H' => r = .bool true ∧ H' = upd H (step s c)) ∧ I (step s c) cs) (hI : I s0 cs) (hk : K (upd H (cs.foldl step s0))) : IterOk P i K cs H := by
  have := IterOk.run upd step I x cs s0 hI hk
  rwa [hH] at this
theorem diff_bit (a b i : Nat) : (diff a b).testBit i = (a.testBit i && !b.testBit i) := by
  unfold diff; simp only [Nat.testBit_xor, Nat.testBit_and]
  cases a.testBit i <;> cases b.testBit i <;> rfl
def Sub (a b : Nat) : Prop := ∀ i, a.testBit i = true → b.testBit i = true
abbrev bytes (xs : List Int) : List AV := xs.map (.int .u8)
theorem lowBy {n : Nat} (xs : List Int) : lowL n (bytes xs) = true := lowL_map (fun _ => rfl) xs
structure Hp where
  nl : Bool
  bs : List Int
  nx : Nat
  rd : Int
  deriving Inhabited
def hpC (h : Hp) : Blk := .cells [.sl h.nl (bytes h.bs), .int .i64 h.nx, .int .u32 h.rd]
structure Hp.Ok (h : Hp) : Prop where
  l : h.bs.length < 9223372036854775808
  n : h.nx < h.bs.length ∨ h.nx = 0
def hpN (h : Hp) : Int := IntKind.u32.wrap (40503 * IntKind.u32.wrap (h.rd + 1))
theorem hpC_low {n : Nat} (h : Hp) : (hpC h).low n = true := by simp only [hpC, Blk.low, lowL, AV.low, lowBy]; rfl
theorem hpC_ren (f : Nat → Nat) (h : Hp) : (hpC h).ren f = hpC h := Blk.ren_low (n := 0) (fun i hi => by omega) (hpC_low h)

theorem XInt.w {q : IntKind} {x : Int} {k : AV → Prop} (h : k (.int q (q.wrap x))) : XInt q x k := ⟨h⟩

def HpOk (f : FuncId) (qs : List AV) (h : Hp) (r : AV) (h' : Hp) : Prop :=
  lowL 0 qs = true ∧ ACall Tryz.prog f (.ptr 0 0 :: qs) [hpC h] fun r' H' => r' = r ∧ H' = [hpC h']
theorem XCall.hp {f : FuncId} {qs : List AV} {h h' : Hp} {r : AV} (x : HpOk f qs h r h') (hr : r.low 0 = true) {H : List Blk} {k : AV → List Blk → Prop} {j : Nat} (h0 : lget H j = some (hpC h))
    (hk : k r (H.set j (hpC h'))) : XCall Tryz.prog f (.ptr j 0 :: qs) H k := by
  constructor
  have e := ACall.frame (ρ := fun i => j + i) (H := H) (k := k) x.2 (fun a b _ _ h => by have : j + a = j + b := h; omega) ?_ (fun y hy => by simp at hy; subst hy; exact hpC_low h) ?_ ?_
  · have hd : renL (fun i => j + i) qs = qs := renL_low0 x.1
    rw [List.map_cons, ← renL_eq, hd] at e
    exact e
  · intro i x1 hi
    rw [lget_eq] at h0
    rcases i with _ | i
    · simp only [List.getElem?_cons_zero, Option.some.injEq] at hi; subst hi
      rw [hpC_ren]; exact h0
    · simp at hi
  · simp only [lowL, AV.low, lowL_mono (Nat.zero_le _) x.1]; rfl
  · rintro r1 H1' ⟨rfl, rfl⟩
    rw [lget_eq] at h0
    have hj := (List.getElem?_eq_some_iff.1 h0).1
    refine ⟨rfl, H.set j (hpC h'), by simp, fun i x1 hi => ?_, fun q hq => ?_, ?_⟩
    · rcases i with _ | i
      · simp only [List.getElem?_cons_zero, Option.some.injEq] at hi; subst hi
        rw [hpC_ren]; simp [hj]
      · simp at hi
    · exact List.getElem?_set_ne (by have := hq 0 (by simp); simpa using this)
    · rw [AV.ren_low (n := 0) (fun i hi => by omega) hr]; exact hk

theorem isEmpty_app {α : Type} (l : List α) (x : α) : (l ++ [x]).isEmpty = (l.isEmpty && false) := by cases l <;> rfl
def hp0 (nl : Bool) (bs : List Int) : Hp := ⟨nl, bs, 0, 0⟩
def Fle (a b : Int × Int) : Prop := a.1 * b.2 ≤ b.1 * a.2
theorem Fle.trans {a b c : Int × Int} (h1 : Fle a b) (h2 : Fle b c) (ha : 0 ≤ a.2) (hb : 0 < b.2) (hc : 0 ≤ c.2) : Fle a c := by
  unfold Fle at *
  have e1 : a.1 * b.2 * c.2 ≤ b.1 * a.2 * c.2 := Int.mul_le_mul_of_nonneg_right h1 hc
  have e2 : b.1 * c.2 * a.2 ≤ c.1 * b.2 * a.2 := Int.mul_le_mul_of_nonneg_right h2 ha
  have e3 : a.1 * c.2 * b.2 ≤ c.1 * a.2 * b.2 := by
    calc a.1 * c.2 * b.2 = a.1 * b.2 * c.2 := by rw [Int.mul_right_comm]
      _ ≤ b.1 * a.2 * c.2 := e1
      _ = b.1 * c.2 * a.2 := by rw [Int.mul_right_comm]
      _ ≤ c.1 * b.2 * a.2 := e2
      _ = c.1 * a.2 * b.2 := by rw [Int.mul_right_comm]
  exact Int.le_of_mul_le_mul_right e3 hb
theorem bit_ext {a b : Nat} (h : ∀ i, a.testBit i = b.testBit i) : a = b := Nat.eq_of_testBit_eq h
theorem Sub.trans {a b c : Nat} (h : Sub a b) (k : Sub b c) : Sub a c := fun i x => k i (h i x)
theorem ne_zero_bit {c i : Nat} (h : c.testBit i = true) : c ≠ 0 := fun e => by rw [e, Nat.zero_testBit] at h; cases h
def Cl (l : Ld) (c : Nat) : Prop := ∀ p ∈ l.wth, c.testBit p.1.toNat = c.testBit p.2.toNat
structure RightP (l : Ld) (c : Nat) : Prop where
  w : (sumW (wts l) c : Int) ≤ l.bears
  wp : Cl l c
  ap : ∀ p ∈ l.apart, ¬ (c.testBit p.1.toNat = true ∧ c.testBit p.2.toNat = true)
theorem RightP.bears {l : Ld} {b : Int} (hb : l.bears ≤ b) {c : Nat} (h : RightP l c) : RightP { l with bears := b } c :=
  ⟨by have := h.w; show (sumW (wts l) c : Int) ≤ b; omega, h.wp, h.ap⟩
def wsL (l : Ld) : List Int := l.sacks.map (weightR l)
def e0 (l : Ld) : AV := .agg [.int .i64 l.bears, .sl (wsL l).isEmpty (ints (wsL l))]
theorem equalI (n1 n2 : Bool) (xs : List Int) (hx : xs.length ≤ 100000) : Comp Tryz.prog 93 [.sl n1 (ints xs), .sl n2 (ints xs)] (.bool true) := by
  have h := equal_int n1 n2 xs xs hx
  rwa [show (xs == xs) = true by simp] at h
theorem drop_next {α : Type} [Inhabited α] {xs : List α} {k : Nat} (h : k < xs.length) : xs.drop k = xs.getD k default :: xs.drop (k + 1) := by
  rw [List.drop_eq_getElem_cons h, List.getD_eq_getElem?_getD, List.getElem?_eq_getElem h]; rfl
def insRen : Go.Shelf.Ren := ⟨fun | 21 => 195 | 27 => 209 | 28 => 210 | 35 => 220 | 39 => 224 | n => n, fun | 0 => 0 | 3 => 3 | 4 => 4 | 22 => 68 | n => n, fun n => n⟩
theorem insLays : Lays2.n21 Tryz.prog insRen where
  mixed := by kernel_rfl
  f21 := Tryz.func195.trans (congrArg some (by kernel_rfl))
  f27 := Tryz.func209.trans (congrArg some (by kernel_rfl))
  f28 := Tryz.func210.trans (congrArg some (by kernel_rfl))
  f35 := Tryz.func220.trans (congrArg some (by kernel_rfl))
  f39 := Tryz.func224.trans (congrArg some (by kernel_rfl))
  t0 := Tryz.underlying0
  a0 := Tryz.isAgg0
  z0 := Tryz.sizeOf0
  v0 := Tryz.zeroValue0
  t3 := Tryz.underlying3
  a3 := Tryz.isAgg3
  z3 := Tryz.sizeOf3
  v3 := Tryz.zeroValue3
  t4 := Tryz.underlying4
  a4 := Tryz.isAgg4
  z4 := Tryz.sizeOf4
  v4 := Tryz.zeroValue4
  t22 := Tryz.underlying68
  a22 := Tryz.isAgg68
  z22 := Tryz.sizeOf68
  v22 := Tryz.zeroValue68
  i3 := by kernel_rfl

theorem XCall.insert {H : List Blk} {i j n p : Nat} {nl : Bool} {ys : List Int} {x q : Int} {k : AV → List Blk → Prop} (hi : lget H i = some (.grow 3 nl (ints ys))) (hj : lget H j = some (.grow 3 false [.int .i64 x]))
    (hij : i ≠ j) (hl : ys.length = n) (hq : q = p) (hp : p ≤ n) (hn : n ≤ 1000000) (hk : k (.gr i (n + 1)) (H.set i (.grow 3 false (ints (putAt ys p x))))) : XCall Tryz.prog 195 [.gr i n, .int .i64 q, .gr j 1] H k := by
  subst hl hq
  rw [lget_eq] at hi hj
  exact ⟨ACall.insert insLays hi hj hij hp hn hk⟩

end GA
end

section
namespace GA
open Go Go.RowKit Go.ChangeShapes Go.WideShapes Go.ChangeAt Go.Proofs Go.Proofs.YtmeankpoalkloaaGreat
set_option linter.unusedVariables false
set_option linter.unusedSimpArgs false

section
variable {P : Program} {w : World} {r : Reach} {base : Nat} {t : TypeId} {v : Value}
theorem okWide_has {k : IntKind} (ht : P.underlying t = some (.int k)) (h : Value.okWide P w r base t v) : ∃ n, v = .int k n ∧ k.min ≤ n ∧ n ≤ k.max := by
  obtain ⟨n, rfl⟩ := okWide_int ht h
  refine ⟨n, rfl, ?_⟩
  simp only [Value.okWide, ht, Cell.okWide] at h
  simp only [Cell.ok, ht, IntKind.has] at h
  exact h.2
end
theorem ownK : ownKnob Tryz.prog.godebug = none := by kernel_rfl
theorem oInt : Opens Tryz.prog 3 1 (fun a : {n : Int // IntKind.i64.min ≤ n ∧ n ≤ IntKind.i64.max} => [AV.int .i64 a.1]) := .int (by kernel_rfl) (by kernel_rfl)
theorem oInts : Opens Tryz.prog 68 1 (fun p : Bool × List Int => [AV.sl p.1 (ints p.2)]) :=
  (Opens.slice (t := 68) (by kernel_rfl) (by kernel_rfl) oInt (by decide) (fun a => .int .i64 a.1) (fun _ => rfl)).as (fun p => ⟨(p.1.1, p.1.2.map (·.1)), by simp [ints]⟩) (fun _ => rfl)
end GA
end

section
namespace GA
open Go Go.RowKit
set_option linter.unusedVariables false

structure XNext (A : Prop) : Prop where
  o : A
def hsU (H : List Blk) : List Bool → List Blk := fun _ => H

section
variable {P : Program} {T : Tab} {N : Nat} {ρ : Option Nat} {D : List Nat} {σ : St} {H : List Blk} {Q : Post}

theorem SubX.app : ∀ {K L : List (Nat × AV)} {σ : St}, SubX K σ → SubX L σ → SubX (K ++ L) σ
  | [], _, _, _, h => h
  | (_, _) :: _, _, _, h, h2 => ⟨h.1, SubX.app h.2 h2⟩

theorem Walk.drawN {ops : List Oper} {id : Nat} (ok : TabOk P T) (hm : P.follows .mixedOrders = true) (own eff : List Nat) (HS : List Bool → List Blk) (R : List AV) (hs : Region.lexB .any ops.toArray = true) (hH : HS (eff.map fun _ => false) = H)
    (hA : ChkA P T N own ops eff HS 0 ops R σ) (hB : ChkB P T N own ops eff HS R σ (allF eff.length)) (hk : XNext (Q .normal D (xFold N ops R σ) (HS (eff.map fun j => Nat.blt j ops.length)))) : Walk P N ρ (.region id ops.toArray true) Q D σ H :=
  Walk.drawX ok hm own eff HS R hs hH hA hB hk.o

theorem Walk.loopK {c : Code} {G : Type} (ok : TabOk P T) (own : List Nat) (K : List (Nat × AV)) (hK : SubX K σ) (I : G → Prop) (L : G → List (Nat × AV)) (hp : G → List Blk) (μ : G → Nat) (g0 : G) (h0 : I g0) (hH : hp g0 = H) (hs : SubX (L g0) σ)
    (round : ∀ g, I g → XRun P T N ρ own c (thenQ (XAgain I (fun g => K ++ L g) hp μ g D) Q) D (stX (K ++ L g)) (hp g)) : Walk P N ρ (.loop c) Q D σ H :=
  Walk.loop ok own I (fun g => K ++ L g) hp μ g0 h0 hH (hK.app hs) round

theorem Walk.loopGK {c : Code} {G : Type} (ok : TabOk P T) (own : List Nat) (K : List (Nat × AV)) (hK : SubX K σ) (I : G → Prop) (L : G → List (Nat × AV)) (hp : G → List Blk) (μ : G → Nat) (g0 : G) (h0 : I g0) (hH : hp g0 = H) (hs : SubX (L g0) σ)
    (hlow : ∀ g, I g → (∀ x ∈ hp g, x.low (hp g).length = true) ∧ ∀ p ∈ K ++ L g, p.2.low (hp g).length = true) (hlen : ∀ g, I g → (hp g0).length ≤ (hp g).length)
    (round : ∀ g, I g → XRun P T N ρ own c (thenQ (XAgainG I (fun g => K ++ L g) hp μ g) Q) [] (stX (K ++ L g)) (hp g)) : Walk P N ρ (.loop c) Q [] σ H :=
  Walk.loopG ok own I (fun g => K ++ L g) hp μ g0 h0 hH (hK.app hs) hlow hlen round

theorem XAgainM.move {G : Type} {I : G → Prop} {L : G → List (Nat × AV)} {hp : G → List Blk} {μ : G → Nat} {base : Nat} {g : G} (g' : G) (A : List Blk) (x y : Blk) (u : Nat) (L0 : List (Nat × AV)) (h1 : I g') (h2 : μ g' < μ g) (h3 : hp g' = A ++ [y]) (h4 : H = A ++ [x, y])
    (h5 : L g' = (u, .ptr A.length 0) :: L0) (h6 : SubX L0 σ) (h7 : σ u = some (.ptr (A.length + 1) 0)) (hb : base ≤ A.length) (lA : ∀ z ∈ A, z.low A.length = true) (ly : y.low A.length = true) (lL : ∀ p ∈ L0, p.2.low A.length = true) : XAgainM I L hp μ base g [] σ H := by
  have hf : ∀ i, i < A.length → (fun i => if i = A.length then A.length + 1 else i) i = i := fun i hi => by simp only; rw [if_neg (by omega)]
  refine ⟨g', fun i => if i = A.length then A.length + 1 else i, h1, h2, ⟨List.nodup_nil, fun i hi => by simp at hi, fun i _ hi => by simp at hi⟩, ?_⟩
  rw [h3, h4]
  refine ⟨fun i j hi hj e => ?_, fun i hi => hf i (by omega), by simp; omega, fun i x1 e => ?_, fun i x1 hi e => ?_, fun z hz => ?_, fun t r e => ?_⟩
  · split at e <;> split at e <;> simp only [List.length_append, List.length_cons, List.length_nil] at hi hj <;> omega
  · rcases Nat.lt_or_ge i A.length with hi | hi
    · rw [List.getElem?_append_left hi] at e
      rw [if_neg (show ¬ i = A.length by omega), List.getElem?_append_left hi, e, Blk.ren_low hf (lA _ (List.mem_of_getElem? e))]
    · have hi2 : i = A.length := by
        have := (List.getElem?_eq_some_iff.1 e).1
        simp only [List.length_append, List.length_cons, List.length_nil] at this; omega
      subst hi2
      rw [List.getElem?_append_right (Nat.le_refl _), Nat.sub_self] at e
      cases e
      simp only [if_true]
      rw [List.getElem?_append_right (by omega), show A.length + 1 - A.length = 1 by omega, Blk.ren_low hf ly]; rfl
  · have hi2 : i < A.length := by omega
    rw [List.getElem?_append_left hi2] at e
    exact Blk.ren_low hf (lA _ (List.mem_of_getElem? e))
  · rw [List.mem_append, List.mem_singleton] at hz
    rcases hz with hz | rfl
    · exact GA.low_mono (by simp) (lA z hz)
    · exact GA.low_mono (by simp) ly
  · rw [h5] at e
    have hlen : A.length ≤ (A ++ [y]).length := by simp
    rcases List.mem_cons.1 (stX_mem _ _ _ e) with e1 | e1
    · cases e1
      refine ⟨?_, by simp [AV.low]⟩
      rw [h7]; simp only [AV.ren, if_true]
    · have h8 := lL _ e1
      refine ⟨?_, AV.low_mono hlen h8⟩
      rw [AV.ren_low hf h8]
      simp only [stX, updX_eq, upd] at e
      split at e
      · rename_i h9
        cases e
        simp only [AV.low, decide_eq_true_eq] at h8; omega
      · exact stX_sub h6 t r e
theorem yieldMono {i : Nat} {rs : List AV} {k k' : AV → List Blk → Prop} (x : AYield P i rs H k) (hk : ∀ r H', k r H' → k' r H') : AYield P i rs H k' :=
  ⟨x.1, fun E h β w b vs s r e => let ⟨f, tmps, assign, body, h1, h2⟩ := x.2 E h β w b vs s r e; ⟨f, tmps, assign, body, h1, h2.mono fun _ _ => Ends.mono hk⟩⟩
def IterL (P : Program) (i : Nat) (K : List Blk → Prop) : List Nat → List Blk → Prop
  | [], H => K H
  | c :: cs, H => XYield P i [.int .i64 (c : Int)] H fun r H' => (r = .bool true ∧ IterL P i K cs H') ∨ (r = .bool false ∧ K H')
theorem IterL.run {i : Nat} {K : List Blk → Prop} {S : Type} (upd : S → List Blk) (step : S → Nat → S) (I : S → List Nat → Prop)
    (x : ∀ s c cs, I s (c :: cs) → XYield P i [.int .i64 (c : Int)] (upd s) (fun r H' => r = .bool true ∧ H' = upd (step s c)) ∧ I (step s c) cs) :
    ∀ (cs : List Nat) (s : S), I s cs → K (upd (cs.foldl step s)) → IterL P i K cs (upd s)
  | [], s, _, hk => hk
  | c :: cs, s, hI, hk => by
    obtain ⟨h1, h2⟩ := x s c cs hI
    refine ⟨yieldMono h1.o ?_⟩
    rintro r H' ⟨rfl, rfl⟩
    exact .inl ⟨rfl, IterL.run upd step I x cs _ h2 hk⟩
theorem IterL.go {i : Nat} {K : List Blk → Prop} {S : Type} {cs : List Nat} (upd : S → List Blk) (step : S → Nat → S) (I : S → List Nat → Prop) (s0 : S) (hH : upd s0 = H)
    (x : ∀ s c cs, I s (c :: cs) → XYield P i [.int .i64 (c : Int)] (upd s) (fun r H' => r = .bool true ∧ H' = upd (step s c)) ∧ I (step s c) cs) (hI : I s0 cs) (hk : K (upd (cs.foldl step s0))) : IterL P i K cs H := by
  have := IterL.run upd step I x cs s0 hI hk
  rwa [hH] at this
end

section
variable {α : Type}
def vecF (W : Nat) (F : Nat → α) : List α := if h : W = 0 then [] else vecF (W - 1) F ++ [F (W - 1)]
termination_by W
theorem vecF_eq (F : Nat → α) : ∀ W, vecF W F = (List.range W).map F
  | 0 => by rw [vecF]; rfl
  | n + 1 => by rw [vecF, dif_neg (by omega), Nat.add_sub_cancel, vecF_eq F n, List.range_succ, List.map_append]; rfl
def updV (F : Nat → α) (j : Nat) (v : α) : Nat → α := fun j' => if j' = j then v else F j'
theorem vecF_len (W : Nat) (F : Nat → α) : (vecF W F).length = W := by rw [vecF_eq]; simp
theorem vecF_get? (W : Nat) (F : Nat → α) (i : Nat) : (vecF W F)[i]? = if i < W then some (F i) else none := by
  rw [vecF_eq, List.getElem?_map]
  by_cases h : i < W
  · rw [List.getElem?_range h, if_pos h]; rfl
  · rw [List.getElem?_eq_none (by simpa using h), if_neg h]; rfl
theorem vecF_get {W : Nat} {F : Nat → α} {i : Nat} (d : α) (h : i < W) : (vecF W F).getD i d = F i := by rw [List.getD_eq_getElem?_getD, vecF_get?, if_pos h]; rfl
theorem vecF_congr {W : Nat} {F G : Nat → α} (h : ∀ i, i < W → F i = G i) : vecF W F = vecF W G := by
  apply List.ext_getElem?; intro i
  rw [vecF_get?, vecF_get?]
  by_cases h1 : i < W
  · rw [if_pos h1, if_pos h1, h i h1]
  · rw [if_neg h1, if_neg h1]
theorem vecF_set (W : Nat) (F : Nat → α) (j : Nat) (v : α) : (vecF W F).set j v = vecF W (updV F j v) := by
  apply List.ext_getElem?; intro i
  rw [List.getElem?_set, vecF_get?, vecF_get?, vecF_len]
  unfold updV
  by_cases h1 : j = i
  · subst h1; rw [if_pos rfl]
    by_cases h2 : j < W
    · rw [if_pos h2, if_pos h2, if_pos rfl]
    · rw [if_neg h2, if_neg h2]
  · rw [if_neg h1]
    by_cases h2 : i < W
    · rw [if_pos h2, if_pos h2, if_neg (fun e => h1 e.symm)]
    · rw [if_neg h2, if_neg h2]
theorem vecF_mem {W : Nat} {F : Nat → α} {x : α} : x ∈ vecF W F ↔ ∃ i, i < W ∧ F i = x := by rw [vecF_eq]; simp
theorem vecF_replicate (W : Nat) (v : α) : vecF W (fun _ => v) = List.replicate W v := by
  apply List.ext_getElem?; intro i
  rw [vecF_get?, List.getElem?_replicate]
variable {f : α → AV}
theorem vec_at {W : Nat} {F : Nat → α} {j : Nat} (h : j < W) : ((vecF W F).map f)[j]? = some (f (F j)) := by rw [List.getElem?_map, vecF_get?, if_pos h]; rfl
theorem xdrop_vec {o : Nat} {k : List AV → Prop} {W : Nat} {F : Nat → α} (j : Nat) (ho : o = j) (hj : j < W) (h : k (f (F j) :: ((vecF W F).map f).drop (j + 1))) : xdrop o ((vecF W F).map f) k := by
  subst ho; exact xdrop_at _ (vec_at hj) h
theorem xspl_vec {o : Nat} {k : List AV → Prop} {W : Nat} {F : Nat → α} (v : α) (j : Nat) (ho : o = j) (hj : j < W) (h : k ((vecF W (updV F j v)).map f)) : xspl ((vecF W F).map f) o [f v] k := by
  subst ho
  have gen : ∀ (c : List AV) (o : Nat) (v : AV) (k : List AV → Prop), o < c.length → k (c.set o v) → xspl c o [v] k := by
    intro c; induction c with
    | nil => intro o v k h _; simp at h
    | cons x c ih =>
      intro o v k h hk
      cases o with
      | zero =>
        show xspl c 0 [] fun l => k (v :: l)
        cases c <;> exact hk
      | succ o => exact ih o v (fun l => k (x :: l)) (by simpa using h) hk
  refine gen _ _ _ _ (by rw [List.length_map, vecF_len]; exact hj) ?_
  rw [← List.map_set, vecF_set]; exact h
theorem vec_low {n W : Nat} {F : Nat → α} (hf : ∀ x, (f x).low n = true) : lowL n ((vecF W F).map f) = true := lowL_map hf _
end
end GA
end

section
namespace GA
open Go Go.RowKit
set_option linter.unusedVariables false
section
variable {P : Program} {N : Nat} {ρ : Option Nat} {H : List Blk} {σ : St} {D : List Nat}

theorem flat_one : ∀ {els : List AV}, (∀ x ∈ els, x.one = true) → flat els = els
  | [], _ => rfl
  | x :: l, h => by
    have h1 := h x List.mem_cons_self
    have h2 := flat_one (els := l) fun y hy => h y (List.mem_cons_of_mem _ hy)
    have h3 : x.cells = [x] := by cases x <;> first | rfl | cases h1
    show x.cells ++ flat l = _
    rw [h3, h2]; rfl
theorem cells_one {x : AV} (h : x.one = true) : x.cells = [x] := by cases x <;> first | rfl | cases h

theorem Walk.run {T : Tab} {c : Code} {Q : Post} (ok : TabOk P T) (own : List Nat) (x : XRun P T N ρ own c Q D σ H) : Walk P N ρ c Q D σ H := ⟨XRun.sound ok x⟩
theorem XGet.set {els : List AV} {n e m : Nat} {x : AV} {k : List AV → Prop} (he : e = m) (hm : m < els.length) (hn : n = els.length) (h : k x.cells) : XGet (els.set m x) n e k := by
  subst he
  refine ⟨by rw [List.length_set]; exact hn, by omega, ?_⟩
  have : (els.set e x).getD e default = x := by rw [List.getD_eq_getElem?_getD, List.getElem?_set_self hm]; rfl
  rw [this]; exact h
theorem XPut.set {els : List AV} {n e m : Nat} {x v : AV} {k : List AV → Prop} (he : e = m) (hm : m < els.length) (hn : n = els.length) (h : k (els.set m v)) : XPut (els.set m x) n e v k := by
  subst he
  exact ⟨by rw [List.length_set]; exact hn, by omega, by rw [List.set_set]; exact h⟩
theorem FrozN.sl {n : Nat} {nl : Bool} {els els' : List AV} (hone : ∀ x ∈ els, x.one = true) (hone' : ∀ x ∈ els', x.one = true) (hs : FrozNL P n H els els') : FrozN P n H (.sl nl els) (.sl nl els') := by
  intro E h β w s v hr H1
  cases hr with
  | slnil =>
    have : els' = [] := List.eq_nil_of_length_eq_zero hs.1
    subst this; exact .slnil
  | slemp =>
    have : els' = [] := List.eq_nil_of_length_eq_zero hs.1
    subst this; exact .slemp
  | sl us hn hne hb hw hw0 ho hcap hc h3 =>
    rw [flat_one hone] at hc h3
    obtain ⟨e0, he0⟩ := List.exists_mem_of_ne_nil _ hne
    have hw1 := hw e0 he0
    rw [cells_one (hone e0 he0)] at hw1
    refine .sl us (by rw [hn, hs.1]) (fun e => hne (List.eq_nil_of_length_eq_zero (by rw [← hs.1, e]; rfl))) (hallN_imm s hb) (fun e he => by rw [cells_one (hone' e he)]; exact hw1) hw0 (fun x hx => ?_) (by rw [hs.1]; exact hcap) (fun j x e => ?_) (fun j x e => ?_)
    · rw [flat_one hone'] at hx; exact hone' x hx
    · rw [flat_one hone'] at e
      obtain ⟨y, e1, _⟩ := hs.2 j x e; exact hc j y e1
    · rw [flat_one hone'] at e
      obtain ⟨y, e1, e2⟩ := hs.2 j x e; exact e2 E h β w s _ (h3 j y e1) H1
end
end GA
end

section
namespace GA
open Go Go.RowKit
set_option linter.unusedVariables false
section
variable {P : Program} {N : Nat} {ρ : Option Nat} {H : List Blk} {σ : St} {D : List Nat} {Q : Post}

structure XFrz (u i n : Nat) (σ : St) (H : List Blk) (k : St → List Blk → Prop) : Prop where
  o : ∃ t nl els, σ u = some (.gr i n) ∧ lget H i = some (.grow t nl els) ∧ els.length = n ∧ k (updX σ u (.sl nl els)) (H.set i .dead)
theorem XFrz.go {u i n : Nat} {k : St → List Blk → Prop} {t : TypeId} {nl : Bool} {els : List AV} (hu : σ u = some (.gr i n)) (hi : lget H i = some (.grow t nl els)) (hn : els.length = n) (x : k (updX σ u (.sl nl els)) (H.set i .dead)) : XFrz u i n σ H k := ⟨t, nl, els, hu, hi, hn, x⟩
end
end GA
end

section
namespace GA
open Go Go.RowKit
set_option linter.unusedVariables false
section
variable {P : Program} {N : Nat} {ρ : Option Nat} {H : List Blk} {σ : St} {D : List Nat} {Q : Post} {E : Env} {h : Nat → Option Obj} {β : Nat → Value} {a : Act} {w : World}

structure XKeepE (P : Program) (σ : St) (H : List Blk) (k : St → List Blk → Prop) : Prop where
  o : ∃ (H1 l : List Blk) (L : List (Nat × AV)), H1 ++ l = H ∧ (∀ x ∈ H1, x.low H1.length = true) ∧ SubF P H1.length H L σ ∧ k (stX L) (H1 ++ l.map fun _ => .dead)
theorem XKeepE.go {k : St → List Blk → Prop} (H1 l : List Blk) (L : List (Nat × AV)) (hH : H1 ++ l = H) (hlow : ∀ x ∈ H1, x.low H1.length = true) (hs : SubF P H1.length H L σ) (x : k (stX L) (H1 ++ l.map fun _ => .dead)) : XKeepE P σ H k := ⟨H1, l, L, hH, hlow, hs, x⟩
theorem hallN_zero {h : Nat → Option Obj} {β : Nat → Value} {H : List Blk} {w : World} : hallN 0 h β H w = hall h β H w := by
  funext b
  by_cases hx : ∃ i, blkOf β H i = some b
  · obtain ⟨i, hi⟩ := hx
    rw [hallN_own (Nat.zero_le i) hi]
    unfold hall; rw [if_pos ⟨i, hi⟩]
  · unfold hallN hall
    rw [if_neg hx, if_neg (fun ⟨i, _, h⟩ => hx ⟨i, h⟩)]
theorem Froz.n0 {r r' : AV} (f : Froz P H r r') : FrozN P 0 H r r' := fun E h β w s v hr H1 => by
  rw [hallN_zero]
  exact (f E h β w s v hr).none
theorem XKeep.all {r r' : AV} (f : Froz P H r r') : XKeep P 0 H r r' := .inl f.n0
end
end GA
end

section
namespace GA
open Go Go.RowKit
set_option linter.unusedVariables false
section
variable {P : Program} {N : Nat} {ρ : Option Nat} {H : List Blk} {σ : St} {D : List Nat} {Q : Post}
structure XDo (P : Program) (N : Nat) (D : List Nat) (σ : St) (H : List Blk) (K : St → List Blk → Prop) : Prop where
  o : ∀ E h β a w, Stands P E N h β D σ H a w → ∃ σ' H' h' β', K σ' H' ∧ Ext h β H h' β' H' ∧ Stands P E N h' β' D σ' H' a w
def doQ (P : Program) (N : Nat) (Q : Post) : Post
  | .exit id, D, σ, H => XDo P N D σ H (Q (.exit id) D)
  | e, D, σ, H => Q e D σ H
theorem Walk.thenDo {c : Code} (x : Walk P N ρ c (doQ P N Q) D σ H) : Walk P N ρ c Q D σ H := by
  constructor
  intro E h β a w s
  refine wpIn_mono (x.o E h β a w s) fun e a' w' hc => ?_
  obtain ⟨D', σ', H', h', β', q, X, s'⟩ := hc
  cases e with
  | exit id =>
    obtain ⟨σ2, H2, h2, β2, q2, X2, s2⟩ := q.o E h' β' a' w' s'
    exact ⟨D', σ2, H2, h2, β2, q2, X.trans X2, s2⟩
  | _ => exact ⟨D', σ', H', h', β', q, X, s'⟩
theorem XDo.run {K : St → List Blk → Prop} (x : K σ H) : XDo P N D σ H K := ⟨fun E h β a w s => ⟨σ, H, h, β, x, Ext.refl _ _ _, s⟩⟩
theorem XDo.freezeMap {K : St → List Blk → Prop} (j i n : Nat) {es : List (Int × AV)} (es' : List (Int × AV)) {t : TypeId} {nl : Bool} {els : List AV} (hj : lget H j = some (.map es)) (hi : lget H i = some (.grow t nl els)) (hn : els.length = n)
    (hf : FrzE i n nl els es es') (x : XDo P N D σ ((H.set i .dead).set j (.map es')) K) : XDo P N D σ H K := by
  constructor
  intro E h β a w s
  rw [lget_eq] at hi hj
  have hij : i ≠ j := by rintro rfl; rw [hi] at hj; cases hj
  obtain ⟨h', s1, X1, hfz⟩ := s.sr.freeze hi
  have hj1 : (H.set i .dead)[j]? = some (.map es) := by rw [List.getElem?_set_ne hij]; exact hj
  obtain ⟨s2, X2⟩ := s1.modify (β' := β) (w' := w) (x' := .map es') hj1 (fun _ _ => rfl) (.inr ⟨_, rfl, rfl⟩) s1.env (fun _ _ _ => rfl) (fun b e => .inl (by unfold blkOf; rw [hj1]; exact e)) (fun X => by
    obtain ⟨q, ents, clock, h1, h2, h3, h4, us, h5⟩ := s.sr.blk j _ hj
    have hl : es'.length = es.length := by have := congrArg List.length hf.k; simpa using this
    refine ⟨q, ents, clock, h1, h2, by rw [hf.k]; exact h3, by rw [hl]; exact h4, us, fun m key y e => ?_⟩
    obtain ⟨x0, e0, hx⟩ := hf.o m key y e
    obtain ⟨hr, born⟩ := h5 m key x0 e0
    refine ⟨?_, born⟩
    rcases hx with rfl | ⟨rfl, rfl⟩
    · exact (X1.trans X).rep hr
    · exact gr_frz s.sr hi hn hr (X1.trans X) hfz)
  obtain ⟨σ2, H2, h2, β2, q2, X3, s3⟩ := x.o E h' β a w ⟨s2, fun u r e => let ⟨v, h1, h2⟩ := s.fits u r e; ⟨v, h1, (X1.trans X2).rep h2⟩, s.size, s.df.ext (X1.trans X2)⟩
  exact ⟨σ2, H2, h2, β2, q2, (X1.trans X2).trans X3, s3⟩
theorem Walk.loopGKL {T : Tab} {c : Code} {G : Type} (ok : TabOk P T) (own : List Nat) (lp : Blk) (K : List (Nat × AV)) (hK : SubX K σ) (I : G → Prop) (L : G → List (Nat × AV)) (hp : Blk → G → List Blk) (μ : G → Nat) (g0 : G) (h0 : I g0) (hH : hp lp g0 = H) (hs : SubX (L g0) σ)
    (hlow : ∀ g, I g → (∀ x ∈ hp lp g, x.low (hp lp g).length = true) ∧ ∀ p ∈ K ++ L g, p.2.low (hp lp g).length = true) (hlen : ∀ g, I g → (hp lp g0).length ≤ (hp lp g).length)
    (round : ∀ g, I g → XRun P T N ρ own c (thenQ (XAgainG I (fun g => K ++ L g) (hp lp) μ g) Q) [] (stX (K ++ L g)) (hp lp g)) : Walk P N ρ (.loop c) Q [] σ H :=
  Walk.loopGK ok own K hK I L (hp lp) μ g0 h0 hH hs hlow hlen round
theorem Walk.seq {a b : Code} (x : Walk P N ρ a (thenQ (fun D σ H => Walk P N ρ b Q D σ H) Q) D σ H) : Walk P N ρ (.seq a b) Q D σ H :=
  ⟨AWp.seq (AWp.mono x.o fun e D σ H q => by cases e <;> first | exact q.o | exact q)⟩
theorem Comp.bodyW {T : Tab} {f : FuncId} {fn : Func} {c : Code} {rs : List AV} {res : List ResultVar} {r0 : AV} (ok : TabOk P T) (own : List Nat) (hf : P.funcs[f]? = some fn) (hb : fn.body = some c) (hn : (fn.name == "runtime.NumGoroutine") = false)
    (hN : fn.ntmps = N) (hr : fn.results = res.toArray) (hl : rs.length ≤ N) (hlo : lowL 0 rs = true) (x : Walk P N none c (XFn P T res r0) [] (argX rs) []) : Comp P f rs r0 := by
  refine ⟨hlo, ?_⟩
  obtain ⟨h1, h2⟩ := ACall.inl0 (k := fun r H => XOut P H r r0) ok own hf hb hn hN hr hl (AWp.mono x.o (fun e D σ H q => by
    unfold XFn at q
    split at q
    · exact q
    · exact q
    · exact q.elim))
  refine ⟨h1, fun E h β w vs s hrs => (h2 E h β w vs s hrs).mono ?_⟩
  rintro e w' ⟨r, H', h', β', v, rfl, hk, X, s', hrep⟩
  exact ⟨r0, [], hall h' β' H' w', β', v, rfl, ⟨rfl, rfl⟩, ⟨fun b o eb => hall_imm s' (X.imm b o eb), Nat.le_refl _, by simp⟩, s'.all, hk.o E h' β' w' s' v hrep⟩
end
end GA
end

section
namespace GA
open Go Go.RowKit Go.Proofs
set_option linter.unusedVariables false
set_option linter.unusedSimpArgs false

def inZ (n lo hi : Int) : Bool := decide (lo ≤ n) && decide (n ≤ hi)
theorem inZ_iff {n lo hi : Int} : inZ n lo hi = true ↔ lo ≤ n ∧ n ≤ hi := by simp [inZ]
theorem one1 {a : AV} (h : a.one = true) : ∀ x ∈ [a], x.one = true := fun x hx => by rw [List.mem_singleton] at hx; rw [hx]; exact h
theorem ints_len (xs : List Int) : (ints xs).length = xs.length := List.length_map _
end GA
end

section
namespace GA
open Go Go.RowKit Go.Proofs
set_option maxRecDepth 8000
set_option linter.unusedVariables false
set_option linter.unusedSimpArgs false

abbrev Wy := Int × Int × Int
abbrev Rw := Bool × List Int
abbrev Sps := Bool × List (Int × Int)
abbrev Tru := Bool × List Sps
structure Sn where
  places : Int
  home : Int
  bed : Int
  last : Int
  nw : Bool
  ways : List Wy
  nk : Bool
  looks : List Rw
  nt : Bool
  truths : List Tru
instance : Inhabited Sn := ⟨⟨0, 0, 0, 0, true, [], true, [], true, []⟩⟩
def wyA (w : Wy) : AV := .agg [.int .i64 w.1, .int .i64 w.2.1, .int .i64 w.2.2]
def rwA (r : Rw) : AV := .sl r.1 (ints r.2)
def sgA (x : Int × Int) : AV := .agg [.int .i64 x.1, .int .i64 x.2]
def spsA (r : Sps) : AV := .sl r.1 (r.2.map sgA)
def trA (t : Tru) : AV := .agg [.sl t.1 (t.2.map spsA)]
def snC (s : Sn) : List AV := [.int .i64 s.places, .int .i64 s.home, .int .i64 s.bed, .int .i64 s.last, .sl s.nw (s.ways.map wyA), .sl s.nk (s.looks.map rwA), .sl s.nt (s.truths.map trA)]
def snA (s : Sn) : AV := .agg (snC s)
theorem wyL {n : Nat} (w : Wy) : (wyA w).low n = true := rfl
theorem sgL {n : Nat} (w : Int × Int) : (sgA w).low n = true := rfl
theorem rwL {n : Nat} (r : Rw) : (rwA r).low n = true := lowI r.2
theorem lowWy {n : Nat} (xs : List Wy) : lowL n (xs.map wyA) = true := lowL_map (fun _ => rfl) xs
theorem lowSg {n : Nat} (xs : List (Int × Int)) : lowL n (xs.map sgA) = true := lowL_map (fun _ => rfl) xs
theorem lowRk {n : Nat} (xs : List Rw) : lowL n (xs.map rwA) = true := lowL_map (fun _ => rwL _) xs
theorem spsL {n : Nat} (r : Sps) : (spsA r).low n = true := lowSg r.2
theorem lowSps {n : Nat} (xs : List Sps) : lowL n (xs.map spsA) = true := lowL_map (fun _ => spsL _) xs
theorem trL {n : Nat} (t : Tru) : (trA t).low n = true := by unfold trA; simp only [AV.low, lowL, lowSps]; rfl
theorem lowTr {n : Nat} (xs : List Tru) : lowL n (xs.map trA) = true := lowL_map (fun _ => trL _) xs
theorem snCL {n : Nat} (s : Sn) : lowL n (snC s) = true := by unfold snC; simp only [lowL, AV.low, lowWy, lowRk, lowTr]; rfl
theorem snL {n : Nat} (s : Sn) : (snA s).low n = true := snCL s
theorem snOne (s : Sn) : ∀ x ∈ snC s, x.one = true := by simp [snC, AV.one]
def bsum (f : Nat → Bool) : Nat → Nat
  | 0 => 0
  | n + 1 => bsum f n + if f n = true then 2 ^ n else 0
theorem bsum_lt (f : Nat → Bool) : ∀ n, bsum f n < 2 ^ n
  | 0 => by simp [bsum]
  | n + 1 => by
    have := bsum_lt f n
    rw [bsum, Nat.pow_succ]
    split <;> omega
theorem bsum_bit (f : Nat → Bool) : ∀ n i, (bsum f n).testBit i = (decide (i < n) && f i)
  | 0, i => by simp [bsum]
  | n + 1, i => by
    have hlt := bsum_lt f n
    have ih := bsum_bit f n i
    rw [bsum]
    by_cases hf : f n = true
    · rw [if_pos hf, show bsum f n + 2 ^ n = 2 ^ n * 1 + bsum f n by omega, Nat.testBit_two_pow_mul_add 1 hlt]
      by_cases hi : i < n
      · rw [if_pos hi, ih]; simp [hi, show i < n + 1 by omega]
      · rw [if_neg hi, show (1 : Nat) = 2 ^ 0 from rfl, Nat.testBit_two_pow]
        by_cases he : i = n
        · subst he; simp [hf]
        · simp [show ¬ i < n + 1 by omega]; omega
    · rw [if_neg hf, Nat.add_zero, ih]
      by_cases he : i = n
      · subst he; simp [hf]
      · congr 1; rw [decide_eq_decide]; omega
theorem bsum_congr {f g : Nat → Bool} : ∀ {n : Nat}, (∀ i, i < n → f i = g i) → bsum f n = bsum g n
  | 0, _ => rfl
  | n + 1, h => by rw [bsum, bsum, bsum_congr fun i hi => h i (by omega), h n (by omega)]
theorem bsum_set {f : Nat → Bool} {n i : Nat} (h : i < n) : bsum f n ||| 2 ^ i = bsum (updV f i true) n := by
  refine bit_ext fun k => ?_
  rw [Nat.testBit_or, bsum_bit, bsum_bit, Nat.testBit_two_pow]
  unfold updV
  by_cases he : i = k
  · subst he; simp [h]
  · rw [if_neg (fun e => he e.symm)]; simp [he]
def dryT (s : Sn) (t p m : Nat) : Bool := ((s.truths.getD t default).2.getD p default).2.any fun x => inZ m x.1 x.2
def drN (s : Sn) (p m : Nat) : Nat := bsum (fun t => dryT s t p m) s.truths.length
def allN (s : Sn) : Nat := 2 ^ s.truths.length - 1
def lookZ (s : Sn) (t p : Nat) : Int := (s.looks.getD t default).2.getD p default
def partN (s : Sn) (p left n : Nat) : Nat := bsum (fun t => lookZ s t p == n && left.testBit t) s.looks.length
def partsK (s : Sn) (p left : Nat) : Nat → List Nat
  | 0 => []
  | n + 1 => partsK s p left n ++ if partN s p left n = 0 then [] else [partN s p left n]
def partsL (s : Sn) (p left : Nat) : List Nat := partsK s p left 4
structure Sta where
  p : Nat
  m : Nat
  l : Nat
  deriving DecidableEq
instance : Inhabited Sta := ⟨⟨0, 0, 0⟩⟩
def staA (x : Sta) : AV := .agg [natA x.p, natA x.m, natA x.l]
def safeB (s : Sn) (x : Sta) : Bool := diff x.l (drN s x.p x.m) == 0 && x.l != 0
def leadB (w : Wy) (p q : Int) : Bool := w.1 == p && w.2.1 == q || w.1 == q && w.2.1 == p
def waysQ (s : Sn) (p q : Nat) : List (Int × Int) := (if p = q then [((p : Int), (1 : Int))] else []) ++ (s.ways.filter fun w => leadB w p q).map fun w => ((q : Int), w.2.2)
def waysK (s : Sn) (p : Nat) : Nat → List (Int × Int)
  | 0 => []
  | q + 1 => waysK s p q ++ waysQ s p q
def waysL (s : Sn) (p : Nat) : List (Int × Int) := waysK s p s.places.toNat
def outS (s : Sn) (x : Sta) (t : Int × Int) : List Sta := (partsL s t.1.toNat x.l).map fun l => ⟨t.1.toNat, (x.m + t.2).toNat, l⟩
def afterS (s : Sn) (x : Sta) (t : Int × Int) : List Sta :=
  if safeB s x = true ∧ inZ (x.m + t.2) 0 s.last = true ∧ (waysL s x.p).contains t = true ∧ (outS s x t).all (safeB s) = true then outS s x t else []
def stepsS (s : Sn) (x : Sta) : List (Int × Int) := (waysL s x.p).filter fun t => !(afterS s x t).isEmpty
def minL (f : Sta → Int) : List Sta → Int
  | [] => 0
  | x :: l => l.foldl (fun n y => min n (f y)) (f x)
def gainZ (s : Sn) (f : Sta → Int) (x : Sta) (t : Int × Int) : Int :=
  let n := minL f (afterS s x t)
  if n ≠ -1 ∧ (x.p : Int) = s.bed ∧ t.1 = s.bed then n + 1 else n
def homeZ (s : Sn) (x : Sta) : Int := if (x.p : Int) = s.home then 0 else -1
def bestZ (s : Sn) (f : Sta → Int) (x : Sta) : Int := if safeB s x = true then (stepsS s x).foldl (fun n t => max n (gainZ s f x t)) (homeZ s x) else -1
def worthK (s : Sn) : Nat → Sta → Int
  | 0, _ => -1
  | k + 1, x => bestZ s (worthK s k) x
def worthZ (s : Sn) (x : Sta) : Int := worthK s (s.last + 1 - x.m).toNat x
def nvs (W : Nat) (F : Nat → Nat) : List AV := (vecF W F).map natA
theorem nvs_len (W : Nat) (F : Nat → Nat) : (nvs W F).length = W := by unfold nvs; rw [List.length_map, vecF_len]
theorem nvs_low {n : Nat} (W : Nat) (F : Nat → Nat) : lowL n (nvs W F) = true := vec_low fun _ => rfl
theorem nvs0 (W : Nat) : List.replicate W (AV.int .i64 0) = nvs W fun _ => 0 := by unfold nvs; rw [vecF_replicate, List.map_replicate]; rfl
def spX (s : Sn) (t p k : Nat) : Int × Int := (((s.truths.getD t default).2.getD p default).2).getD k default
def dryW (s : Sn) (i p k : Nat) (m0 : Int) (t q m : Nat) : Bool :=
  if t < i then dryT s t q m
  else if t = i then (if q < p then dryT s i q m else if q = p then ((((s.truths.getD i default).2.getD p default).2.take k).any fun x => inZ m x.1 x.2) || (decide ((spX s i p k).1 ≤ m) && decide ((m : Int) < m0) && decide ((m : Int) ≤ (spX s i p k).2)) else false)
  else false
def dryG (T : Nat) (F : Nat → Nat → Nat → Bool) (j : Nat) : Nat := bsum (fun t => F t (j / 61) (j % 61)) T
theorem dryG_set {T i p m : Nat} {F F' : Nat → Nat → Nat → Bool} (hi : i < T) (hm : m < 61) (h : ∀ t q k, F' t q k = if t = i ∧ q = p ∧ k = m then true else F t q k) : dryG T F' = updV (dryG T F) (61 * p + m) (dryG T F (61 * p + m) ||| 2 ^ i) := by
  funext j
  unfold updV
  by_cases hj : j = 61 * p + m
  · rw [if_pos hj]
    unfold dryG
    have h1 : j / 61 = p := by omega
    have h2 : j % 61 = m := by omega
    rw [← hj, bsum_set hi, h1, h2]
    refine bsum_congr fun t ht => ?_
    rw [h]
    unfold updV
    by_cases e : t = i
    · rw [if_pos ⟨e, rfl, rfl⟩, if_pos e]
    · rw [if_neg (fun h => e h.1), if_neg e]
  · rw [if_neg hj]
    unfold dryG
    refine bsum_congr fun t ht => ?_
    rw [h, if_neg (fun h => hj (by omega))]
theorem dryW_min {s : Sn} {i p k : Nat} {m : Nat} (h1 : (spX s i p k).1 ≤ m) (h2 : (m : Int) ≤ (spX s i p k).2) (t q n : Nat) : dryW s i p k ((m : Int) + 1) t q n = if t = i ∧ q = p ∧ n = m then true else dryW s i p k m t q n := by
  unfold dryW
  by_cases e1 : t < i
  · rw [if_pos e1, if_neg (fun h => by omega), if_pos e1]
  · rw [if_neg e1]
    by_cases e2 : t = i
    · rw [if_pos e2]
      by_cases e3 : q < p
      · rw [if_pos e3, if_neg (fun h => by omega), if_neg e1, if_pos e2, if_pos e3]
      · rw [if_neg e3]
        by_cases e4 : q = p
        · rw [if_pos e4]
          by_cases e5 : n = m
          · rw [if_pos ⟨e2, e4, e5⟩, e5]
            have a1 : decide ((spX s i p k).1 ≤ (m : Int)) = true := decide_eq_true h1
            have a2 : decide ((m : Int) < (m : Int) + 1) = true := decide_eq_true (by omega)
            have a3 : decide ((m : Int) ≤ (spX s i p k).2) = true := decide_eq_true h2
            rw [a1, a2, a3]; simp
          · rw [if_neg (fun h => e5 h.2.2), if_neg e1, if_pos e2, if_neg e3, if_pos e4]
            have : decide ((n : Int) < (m : Int) + 1) = decide ((n : Int) < (m : Int)) := by rw [decide_eq_decide]; omega
            rw [this]
        · rw [if_neg e4, if_neg (fun h => e4 h.2.1), if_neg e1, if_pos e2, if_neg e3, if_neg e4]
    · rw [if_neg e2, if_neg (fun h => e2 h.1), if_neg e1, if_neg e2]
def dryV (s : Sn) (i p k : Nat) : Nat → Nat → Nat → Bool := dryW s i p k (spX s i p k).1
theorem dryV_eq (s : Sn) (i p k t q m : Nat) : dryV s i p k t q m = if t < i then dryT s t q m else if t = i then (if q < p then dryT s i q m else if q = p then ((((s.truths.getD i default).2.getD p default).2.take k).any fun x => inZ m x.1 x.2) else false) else false := by
  unfold dryV dryW
  have h : (decide ((spX s i p k).1 ≤ (m : Int)) && decide ((m : Int) < (spX s i p k).1) && decide ((m : Int) ≤ (spX s i p k).2)) = false := by
    by_cases h : (spX s i p k).1 ≤ (m : Int)
    · rw [show decide ((m : Int) < (spX s i p k).1) = false from decide_eq_false (by omega)]; simp
    · rw [decide_eq_false h]; rfl
  rw [h, Bool.or_false]
theorem dryV_span {s : Sn} {i p k : Nat} (hk : k < ((s.truths.getD i default).2.getD p default).2.length) : dryW s i p k ((spX s i p k).2 + 1) = dryV s i p (k + 1) := by
  funext t q m
  rw [dryV_eq]
  unfold dryW
  by_cases e1 : t < i
  · rw [if_pos e1, if_pos e1]
  · rw [if_neg e1, if_neg e1]
    by_cases e2 : t = i
    · rw [if_pos e2, if_pos e2]
      by_cases e3 : q < p
      · rw [if_pos e3, if_pos e3]
      · rw [if_neg e3, if_neg e3]
        by_cases e4 : q = p
        · rw [if_pos e4, if_pos e4, take_next hk, List.any_append]
          congr 1
          show _ = (inZ m (spX s i p k).1 (spX s i p k).2 || false)
          rw [Bool.or_false]
          unfold inZ
          by_cases h : (m : Int) ≤ (spX s i p k).2
          · rw [show decide ((m : Int) < (spX s i p k).2 + 1) = true from decide_eq_true (by omega), Bool.and_true]
          · rw [decide_eq_false h, Bool.and_false, Bool.and_false]
        · rw [if_neg e4, if_neg e4]
    · rw [if_neg e2, if_neg e2]
theorem dryV_row (s : Sn) (i p : Nat) : dryV s i p ((s.truths.getD i default).2.getD p default).2.length = dryV s i (p + 1) 0 := by
  funext t q m
  rw [dryV_eq, dryV_eq]
  by_cases e1 : t < i
  · rw [if_pos e1, if_pos e1]
  · rw [if_neg e1, if_neg e1]
    by_cases e2 : t = i
    · rw [if_pos e2, if_pos e2, List.take_length]
      by_cases e3 : q < p
      · rw [if_pos e3, if_pos (by omega)]
      · rw [if_neg e3]
        by_cases e4 : q = p
        · rw [if_pos e4, if_pos (by omega), e4]; rfl
        · rw [if_neg e4, if_neg (by omega)]
          by_cases e5 : q = p + 1
          · rw [if_pos e5]; rfl
          · rw [if_neg e5]
    · rw [if_neg e2, if_neg e2]
theorem dryT_far {s : Sn} {t q m : Nat} (h : (s.truths.getD t default).2.length ≤ q) : dryT s t q m = false := by
  unfold dryT
  rw [List.getD_eq_getElem?_getD (l := (s.truths.getD t default).2), List.getElem?_eq_none h]; rfl
theorem dryV_truth (s : Sn) (i : Nat) : dryV s i (s.truths.getD i default).2.length 0 = dryV s (i + 1) 0 0 := by
  funext t q m
  rw [dryV_eq, dryV_eq]
  by_cases e1 : t < i
  · rw [if_pos e1, if_pos (by omega)]
  · rw [if_neg e1]
    by_cases e2 : t = i
    · rw [if_pos e2, if_pos (show t < i + 1 by omega), e2]
      by_cases e3 : q < (s.truths.getD i default).2.length
      · rw [if_pos e3]
      · rw [if_neg e3, dryT_far (by omega)]
        split <;> rfl
    · rw [if_neg e2, if_neg (by omega)]
      by_cases e3 : t = i + 1
      · rw [if_pos e3]
        by_cases e4 : q < 0
        · omega
        · rw [if_neg e4]
          split <;> rfl
      · rw [if_neg e3]
theorem dryV_beg (s : Sn) : dryV s 0 0 0 = fun _ _ _ => false := by
  funext t q m
  rw [dryV_eq, if_neg (by omega)]
  split
  · rw [if_neg (by omega)]
    split <;> rfl
  · rfl
theorem dryV_end (s : Sn) {t q m : Nat} (ht : t < s.truths.length) : dryV s s.truths.length 0 0 t q m = dryT s t q m := by rw [dryV_eq, if_pos ht]
theorem dryG_end (s : Sn) {p m : Nat} (hm : m < 61) : dryG s.truths.length (dryV s s.truths.length 0 0) (61 * p + m) = drN s p m := by
  unfold dryG drN
  rw [show (61 * p + m) / 61 = p by omega, show (61 * p + m) % 61 = m by omega]
  exact bsum_congr fun t ht => dryV_end s ht
theorem dryG_beg (s : Sn) (T : Nat) : dryG T (dryV s 0 0 0) = fun _ => 0 := by
  funext j
  unfold dryG
  rw [dryV_beg]
  induction T with
  | zero => rfl
  | succ n ih => rw [bsum, ih]; rfl
def cntB (s : Sn) : Bool := inZ s.places 1 5 && inZ s.truths.length 1 4 && decide ((s.ways.length : Int) ≤ 10) && decide ((s.looks.length : Int) = s.truths.length) && s.looks.all (fun l => decide ((l.2.length : Int) = s.places)) && s.truths.all (fun t => decide ((t.2.length : Int) = s.places))
def plB (s : Sn) (p : Int) : Bool := inZ p 0 (s.places - 1)
def wyB (s : Sn) (i : Nat) : Wy := s.ways.getD i default
def agnI (s : Sn) (i : Nat) : Bool := (wyB s i).1 == (wyB s i).2.1 || (s.ways.take i).any fun x => leadB x (wyB s i).1 (wyB s i).2.1
def agnB (s : Sn) : Bool := (List.range s.ways.length).any (agnI s)
def spBad (pv : Option Int) (lo : Int) : Bool := match pv with | some h => decide (lo ≤ h + 1) | none => false
def spE (last : Int) : Option Int → List (Int × Int) → Int
  | _, [] => 0
  | pv, x :: l => if (inZ x.1 0 last && inZ x.2 x.1 last) = false then 3 else if spBad pv x.1 = true then 4 else spE last (some x.2) l
def firstE : List Int → Int
  | [] => 0
  | e :: l => if e ≠ 0 then e else firstE l
theorem firstE_iff : ∀ {l : List Int}, firstE l = 0 ↔ ∀ e ∈ l, e = 0
  | [] => by simp [firstE]
  | e :: l => by
    rw [firstE]
    by_cases h : e = 0
    · rw [if_neg (fun h' => h' h), firstE_iff]; simp [h]
    · rw [if_pos h]; simp [h]
def trE (s : Sn) (t : Tru) : Int := firstE (t.2.map fun r => spE s.last none r.2)
def snE (s : Sn) : Int :=
  if cntB s = false then 2
  else if inZ s.last 1 60 = false ∨ s.ways.all (fun w => inZ w.2.2 1 20) = false then 3
  else if s.looks.all (fun l => l.2.all fun n => inZ n 0 3) = false then 3
  else if plB s s.home = false ∨ plB s s.bed = false ∨ s.ways.all (fun w => plB s w.1 && plB s w.2.1) = false then 1
  else if s.home = s.bed then 5
  else if agnB s = true then 5
  else firstE (s.truths.map (trE s))
structure SnOk (s : Sn) : Prop where
  p1 : 1 ≤ s.places
  p2 : s.places ≤ 5
  t1 : 1 ≤ s.truths.length
  t2 : s.truths.length ≤ 4
  w1 : s.ways.length ≤ 10
  k1 : s.looks.length = s.truths.length
  kl : ∀ l ∈ s.looks, (l.2.length : Int) = s.places
  tl : ∀ t ∈ s.truths, (t.2.length : Int) = s.places
  l1 : 1 ≤ s.last
  l2 : s.last ≤ 60
  wm : ∀ w ∈ s.ways, 1 ≤ w.2.2 ∧ w.2.2 ≤ 20
  kn : ∀ l ∈ s.looks, ∀ n ∈ l.2, 0 ≤ n ∧ n ≤ 3
  h1 : 0 ≤ s.home ∧ s.home < s.places
  b1 : 0 ≤ s.bed ∧ s.bed < s.places
  wp : ∀ w ∈ s.ways, 0 ≤ w.1 ∧ w.1 < s.places ∧ 0 ≤ w.2.1 ∧ w.2.1 < s.places
  hb : s.home ≠ s.bed
  wa : ∀ i, i < s.ways.length → agnI s i = false
  sp : ∀ t ∈ s.truths, ∀ r ∈ t.2, spE s.last none r.2 = 0
theorem snE_iff {s : Sn} : snE s = 0 ↔ SnOk s := by
  unfold snE
  constructor
  · intro h
    split at h; · cases h
    split at h; · cases h
    split at h; · cases h
    split at h; · cases h
    split at h; · cases h
    split at h; · cases h
    rename_i h1 h2 h3 h4 h5 h6
    have h1 : cntB s = true := by simpa using h1
    unfold cntB at h1
    simp only [Bool.and_eq_true, inZ_iff, decide_eq_true_eq, List.all_eq_true] at h1
    obtain ⟨⟨⟨⟨⟨a1, a2⟩, a3⟩, a4⟩, a5⟩, a6⟩ := h1
    have h2 := not_or.1 h2
    have b1 : inZ s.last 1 60 = true := by simpa using h2.1
    have b2 : s.ways.all (fun w => inZ w.2.2 1 20) = true := by simpa using h2.2
    have b3 : s.looks.all (fun l => l.2.all fun n => inZ n 0 3) = true := by simpa using h3
    have h4 := not_or.1 h4
    have h4' := not_or.1 h4.2
    have c1 : plB s s.home = true := by simpa using h4.1
    have c2 : plB s s.bed = true := by simpa using h4'.1
    have c3 : s.ways.all (fun w => plB s w.1 && plB s w.2.1) = true := by simpa using h4'.2
    unfold plB at c1 c2
    rw [inZ_iff] at b1 c1 c2
    rw [List.all_eq_true] at b2 b3 c3
    have h6 : agnB s = false := by simpa using h6
    unfold agnB at h6
    rw [List.any_eq_false] at h6
    rw [firstE_iff] at h
    refine ⟨a1.1, a1.2, by omega, by omega, by omega, by omega, a5, a6, b1.1, b1.2, fun w hw => inZ_iff.1 (b2 w hw), fun l hl n hn => inZ_iff.1 (List.all_eq_true.1 (b3 l hl) n hn), by omega, by omega, fun w hw => ?_, h5, fun i hi => by simpa using h6 i (List.mem_range.2 hi), fun t ht r hr => ?_⟩
    · have := c3 w hw
      unfold plB at this
      rw [Bool.and_eq_true, inZ_iff, inZ_iff] at this
      omega
    · have := h _ (List.mem_map_of_mem ht)
      unfold trE at this
      rw [firstE_iff] at this
      exact this _ (List.mem_map_of_mem (f := fun r : Sps => spE s.last none r.2) hr)
  · intro o
    have a1 := o.p1; have a2 := o.p2; have a3 := o.t1; have a4 := o.t2; have a5 := o.w1; have a6 := o.k1; have a7 := o.l1; have a8 := o.l2; have a9 := o.h1; have a10 := o.b1
    have c1 : cntB s = true := by
      unfold cntB
      simp only [Bool.and_eq_true, inZ_iff, decide_eq_true_eq, List.all_eq_true]
      exact ⟨⟨⟨⟨⟨⟨a1, a2⟩, by omega, by omega⟩, by omega⟩, by omega⟩, o.kl⟩, o.tl⟩
    have c2 : s.ways.all (fun w => inZ w.2.2 1 20) = true := List.all_eq_true.2 fun w hw => inZ_iff.2 (o.wm w hw)
    have c3 : s.looks.all (fun l => l.2.all fun n => inZ n 0 3) = true := List.all_eq_true.2 fun l hl => List.all_eq_true.2 fun n hn => inZ_iff.2 (o.kn l hl n hn)
    have c4 : s.ways.all (fun w => plB s w.1 && plB s w.2.1) = true := List.all_eq_true.2 fun w hw => by
      have := o.wp w hw
      unfold plB
      rw [Bool.and_eq_true, inZ_iff, inZ_iff]
      omega
    have c5 : agnB s = false := by
      unfold agnB
      rw [List.any_eq_false]
      intro i hi
      rw [o.wa i (List.mem_range.1 hi)]; simp
    rw [if_neg (by rw [c1]; simp), if_neg (by rw [inZ_iff.2 ⟨a7, a8⟩, c2]; simp), if_neg (by rw [c3]; simp), if_neg (by unfold plB; rw [inZ_iff.2 ⟨a9.1, by omega⟩, inZ_iff.2 ⟨a10.1, by omega⟩]; unfold plB at c4; rw [c4]; simp), if_neg o.hb, if_neg (by rw [c5]; simp), firstE_iff]
    intro e he
    obtain ⟨t, ht, rfl⟩ := List.mem_map.1 he
    unfold trE
    rw [firstE_iff]
    intro e he
    obtain ⟨r, hr, rfl⟩ := List.mem_map.1 he
    exact o.sp t ht r hr
theorem spE_ok {last : Int} : ∀ {l : List (Int × Int)} {pv : Option Int}, spE last pv l = 0 → ∀ x ∈ l, 0 ≤ x.1 ∧ x.1 ≤ x.2 ∧ x.2 ≤ last
  | [], _, _, x, hx => by cases hx
  | y :: l, pv, h, x, hx => by
    rw [spE] at h
    split at h
    · cases h
    · rename_i h1
      split at h
      · cases h
      · rcases List.mem_cons.1 hx with rfl | hx
        · have h1 : (inZ x.1 0 last && inZ x.2 x.1 last) = true := by simpa using h1
          rw [Bool.and_eq_true, inZ_iff, inZ_iff] at h1
          omega
        · exact spE_ok h x hx
end GA
end

section
namespace GA
open Go Go.RowKit Go.ChangeShapes Go.WideShapes Go.ChangeAt Go.Proofs Go.Proofs.YtmeankpoalkloaaGreat
set_option linter.unusedVariables false
set_option linter.unusedSimpArgs false
set_option maxRecDepth 8000

theorem i64_zero' : IntKind.i64.min ≤ 0 ∧ (0 : Int) ≤ IntKind.i64.max := by decide
theorem oSg : Opens Tryz.prog 99 2 (fun s : Int × Int => (sgA s).cells) :=
  (Opens.struct Tryz.underlying99 (by kernel_rfl) (.cons oInt rfl (.cons oInt rfl .nil))).as (fun p => ⟨(p.1.1, p.2.1.1), rfl⟩) (fun _ => rfl)
theorem oSps : Opens Tryz.prog 100 1 (fun p : Bool × List (Int × Int) => [AV.sl p.1 (p.2.map sgA)]) :=
  Opens.slice (t := 100) (by kernel_rfl) (by kernel_rfl) oSg (by decide) sgA (fun _ => rfl) |>.as (fun p => ⟨p.1, rfl⟩) (fun _ => rfl)
theorem oDrys : Opens Tryz.prog 101 1 (fun p : Bool × List Sps => [AV.sl p.1 (p.2.map spsA)]) :=
  Opens.slice (t := 101) (by kernel_rfl) (by kernel_rfl) oSps (by decide) spsA (fun _ => rfl) |>.as (fun p => ⟨p.1, rfl⟩) (fun _ => rfl)
theorem oTruth : Opens Tryz.prog 103 1 (fun t : Tru => (trA t).cells) :=
  (Opens.struct Tryz.underlying103 (by kernel_rfl) (.cons oDrys rfl .nil)).as (fun p => ⟨p.1, rfl⟩) (fun _ => rfl)
theorem oTruths : Opens Tryz.prog 24 1 (fun p : Bool × List Tru => [AV.sl p.1 (p.2.map trA)]) :=
  Opens.slice (t := 24) (by kernel_rfl) (by kernel_rfl) oTruth (by decide) trA (fun _ => rfl) |>.as (fun p => ⟨p.1, rfl⟩) (fun _ => rfl)
theorem oRws : Opens Tryz.prog 23 1 (fun p : Bool × List Rw => [AV.sl p.1 (p.2.map rwA)]) :=
  Opens.slice (t := 23) (by kernel_rfl) (by kernel_rfl) oInts (by decide) rwA (fun _ => rfl) |>.as (fun p => ⟨p.1, rfl⟩) (fun _ => rfl)
theorem oWay : Opens Tryz.prog 97 3 (fun s : Wy => (wyA s).cells) :=
  (Opens.array (m := 3) (n := 1) Tryz.underlying97 (by kernel_rfl) rfl oInt).as (fun p => ⟨((p.1.getD 0 ⟨0, i64_zero'⟩).1, (p.1.getD 1 ⟨0, i64_zero'⟩).1, (p.1.getD 2 ⟨0, i64_zero'⟩).1), by
    obtain ⟨l, hl⟩ := p
    rcases l with _ | ⟨a, _ | ⟨b, _ | ⟨c, _ | ⟨d, l⟩⟩⟩⟩
    · simp at hl
    · simp at hl
    · simp at hl
    · simp [wyA, AV.cells]
    · simp at hl⟩) (fun _ => rfl)
theorem oWays : Opens Tryz.prog 22 1 (fun p : Bool × List Wy => [AV.sl p.1 (p.2.map wyA)]) :=
  Opens.slice (t := 22) (by kernel_rfl) (by kernel_rfl) oWay (by decide) wyA (fun _ => rfl) |>.as (fun p => ⟨p.1, rfl⟩) (fun _ => rfl)
theorem oSands : Opens Tryz.prog 26 7 snC :=
  (Opens.struct Tryz.underlying26 (by kernel_rfl) (.cons oInt rfl (.cons oInt rfl (.cons oInt rfl (.cons oInt rfl (.cons oWays rfl (.cons oRws rfl (.cons oTruths rfl .nil)))))))).as
    (fun p => ⟨⟨p.1.1, p.2.1.1, p.2.2.1.1, p.2.2.2.1.1, p.2.2.2.2.1.1, p.2.2.2.2.1.2, p.2.2.2.2.2.1.1, p.2.2.2.2.2.1.2, p.2.2.2.2.2.2.1.1, p.2.2.2.2.2.2.1.2⟩, rfl⟩) (fun _ => rfl)
end GA
end

section
namespace GA
open Go Go.RowKit Go.Proofs
set_option pp.deepTerms true
set_option maxRecDepth 8000
set_option linter.unusedVariables false
set_option linter.unusedSimpArgs false

theorem ziL {n : Nat} (x : Int) : (AV.int .i64 x).low n = true := rfl
theorem idxf_zi (nl : Bool) (xs : List Int) (g : FuncId) (caps : List AV) (p : Int → Bool) (hl : lowL 0 caps = true) (hx : xs.length ≤ 100000) (hp : ∀ x ∈ xs, Comp Tryz.prog g ((AV.int .i64 x) :: caps) (.bool (p x))) :
    Comp Tryz.prog 191 [.sl nl (xs.map (AV.int .i64)), .fn g caps] (.int .i64 (idxR p xs)) := by
  refine Comp.body (T := tab) (res := [.tmp 4]) tab_ok [] Tryz.func191 rfl (by kernel_rfl) Tryz.ntmps191 rfl (by simp only [List.length_cons, List.length_nil]; decide) (by simp only [lowL, AV.low, lowI, hl]; rfl) ?_; conv => whnf
  refine Walk.loop tab_ok [] (fun i : Nat => i ≤ xs.length ∧ ∀ j, j < i → p (xs.getD j default) = false) (fun i => [(0, .sl nl (xs.map (AV.int .i64))), (1, .fn g caps), (7, .int .i64 xs.length), (8, .int .i64 i)]) (fun _ => []) (fun i => xs.length - i) 0 ⟨by omega, by omega⟩ rfl ⟨rfl, rfl, by simp only [List.length_map]; rfl, rfl, trivial⟩ ?_
  rintro i ⟨h2, h3⟩
  conv => whnf
  repeat' first | ((with_reducible apply XBr.dec) <;> (intro h; first | (exfalso; omega) | ((try simp only [List.length_map] at h); first | (exfalso; omega) | (conv => whnf)))) | (((with_reducible refine XIx.nat ?_ ?_ ?_); omega; (intro _; rfl)); conv => whnf) | fail
  · refine XCall.ret (hp _ (getD_mem (i := i) (d := default) (by omega))) ?_
    conv => whnf
    refine XBr.mk' ?_ ?_ <;> intro h4 <;> (conv => whnf)
    · refine XOut.int ?_
      simp only [idxR, find_some (d := default) (i := i) (by omega) h4 h3]
    · skip
      repeat' first | ((with_reducible refine XInt.i64 (by omega) (by omega) ?_); conv => whnf) | fail
      refine XAgain.go (i + 1) ⟨by omega, fun j hj => ?_⟩ (by omega) rfl ⟨rfl, rfl, rfl, rfl, trivial⟩
      by_cases hji : j = i
      · subst hji; exact h4
      · exact h3 j (by omega)
  · refine XOut.int ?_
    simp only [idxR, find_none (d := default) fun j hj => h3 j (by omega)]
theorem contf_zi (nl : Bool) (xs : List Int) (g : FuncId) (caps : List AV) (p : Int → Bool) (hl : lowL 0 caps = true) (hx : xs.length ≤ 100000) (hp : ∀ x ∈ xs, Comp Tryz.prog g ((AV.int .i64 x) :: caps) (.bool (p x))) :
    Comp Tryz.prog 170 [.sl nl (xs.map (AV.int .i64)), .fn g caps] (.bool (xs.any p)) := by
  refine Comp.body (T := tab) (res := [.tmp 4]) tab_ok [] Tryz.func170 rfl (by kernel_rfl) Tryz.ntmps170 rfl (by simp only [List.length_cons, List.length_nil]; decide) (by simp only [lowL, AV.low, lowI, hl]; rfl) ?_; conv => whnf
  refine XCall.ret (idxf_zi nl xs g caps p hl hx hp) ?_
  conv => whnf
  refine XOut.bool ?_
  rw [Bool.eq_iff_iff, decide_eq_true_eq]; exact idxR_pos
theorem every1_zi (x : Int) (g : FuncId) (caps : List AV) (p : Int → Bool) (hl : lowL 0 caps = true) (hp : Comp Tryz.prog g ((AV.int .i64 x) :: caps) (.bool (p x))) :
    Comp Tryz.prog 171 [(AV.int .i64 x), .pim [.fn g caps]] (.bool (!p x)) := by
  refine Comp.body (T := tab) (res := [.tmp 3]) tab_ok [] Tryz.func171 rfl (by kernel_rfl) Tryz.ntmps171 rfl (by simp only [List.length_cons, List.length_nil]; decide) (by simp only [lowL, AV.low, ziL, hl]; rfl) ?_; conv => whnf
  refine XCall.ret hp ?_
  conv => whnf
  exact XOut.bool rfl
theorem every_zi (nl : Bool) (xs : List Int) (g : FuncId) (caps : List AV) (p : Int → Bool) (hl : lowL 0 caps = true) (hx : xs.length ≤ 100000) (hp : ∀ x ∈ xs, Comp Tryz.prog g ((AV.int .i64 x) :: caps) (.bool (p x))) :
    Comp Tryz.prog 117 [.sl nl (xs.map (AV.int .i64)), .fn g caps] (.bool (xs.all p)) := by
  refine Comp.body (T := tab) (res := [.tmp 4]) tab_ok [] Tryz.func117 rfl (by kernel_rfl) Tryz.ntmps117 rfl (by simp only [List.length_cons, List.length_nil]; decide) (by simp only [lowL, AV.low, lowI, hl]; rfl) ?_; conv => whnf
  refine XCall.ret (contf_zi nl xs 171 [.pim [.fn g caps]] (fun x => !p x) (by simp only [lowL, AV.low, hl]; rfl) hx fun x hm => every1_zi x g caps p hl (hp x hm)) ?_
  conv => whnf
  refine XOut.bool ?_
  rw [List.not_any_eq_all_not]; simp
theorem idxf_wy (nl : Bool) (xs : List Wy) (g : FuncId) (caps : List AV) (p : Wy → Bool) (hl : lowL 0 caps = true) (hx : xs.length ≤ 100000) (hp : ∀ x ∈ xs, Comp Tryz.prog g ((wyA x) :: caps) (.bool (p x))) :
    Comp Tryz.prog 172 [.sl nl (xs.map (wyA)), .fn g caps] (.int .i64 (idxR p xs)) := by
  refine Comp.body (T := tab) (res := [.tmp 4]) tab_ok [] Tryz.func172 rfl (by kernel_rfl) Tryz.ntmps172 rfl (by simp only [List.length_cons, List.length_nil]; decide) (by simp only [lowL, AV.low, lowWy, hl]; rfl) ?_; conv => whnf
  refine Walk.loop tab_ok [] (fun i : Nat => i ≤ xs.length ∧ ∀ j, j < i → p (xs.getD j default) = false) (fun i => [(0, .sl nl (xs.map (wyA))), (1, .fn g caps), (7, .int .i64 xs.length), (8, .int .i64 i)]) (fun _ => []) (fun i => xs.length - i) 0 ⟨by omega, by omega⟩ rfl ⟨rfl, rfl, by simp only [List.length_map]; rfl, rfl, trivial⟩ ?_
  rintro i ⟨h2, h3⟩
  conv => whnf
  repeat' first | ((with_reducible apply XBr.dec) <;> (intro h; first | (exfalso; omega) | ((try simp only [List.length_map] at h); first | (exfalso; omega) | (conv => whnf)))) | (((with_reducible refine XIx.nat ?_ ?_ ?_); omega; (intro _; rfl)); conv => whnf) | fail
  · refine XCall.ret (hp _ (getD_mem (i := i) (d := default) (by omega))) ?_
    conv => whnf
    refine XBr.mk' ?_ ?_ <;> intro h4 <;> (conv => whnf)
    · refine XOut.int ?_
      simp only [idxR, find_some (d := default) (i := i) (by omega) h4 h3]
    · skip
      repeat' first | ((with_reducible refine XInt.i64 (by omega) (by omega) ?_); conv => whnf) | fail
      refine XAgain.go (i + 1) ⟨by omega, fun j hj => ?_⟩ (by omega) rfl ⟨rfl, rfl, rfl, rfl, trivial⟩
      by_cases hji : j = i
      · subst hji; exact h4
      · exact h3 j (by omega)
  · refine XOut.int ?_
    simp only [idxR, find_none (d := default) fun j hj => h3 j (by omega)]
theorem contf_wy (nl : Bool) (xs : List Wy) (g : FuncId) (caps : List AV) (p : Wy → Bool) (hl : lowL 0 caps = true) (hx : xs.length ≤ 100000) (hp : ∀ x ∈ xs, Comp Tryz.prog g ((wyA x) :: caps) (.bool (p x))) :
    Comp Tryz.prog 121 [.sl nl (xs.map (wyA)), .fn g caps] (.bool (xs.any p)) := by
  refine Comp.body (T := tab) (res := [.tmp 4]) tab_ok [] Tryz.func121 rfl (by kernel_rfl) Tryz.ntmps121 rfl (by simp only [List.length_cons, List.length_nil]; decide) (by simp only [lowL, AV.low, lowWy, hl]; rfl) ?_; conv => whnf
  refine XCall.ret (idxf_wy nl xs g caps p hl hx hp) ?_
  conv => whnf
  refine XOut.bool ?_
  rw [Bool.eq_iff_iff, decide_eq_true_eq]; exact idxR_pos
theorem every1_wy (x : Wy) (g : FuncId) (caps : List AV) (p : Wy → Bool) (hl : lowL 0 caps = true) (hp : Comp Tryz.prog g ((wyA x) :: caps) (.bool (p x))) :
    Comp Tryz.prog 167 [(wyA x), .pim [.fn g caps]] (.bool (!p x)) := by
  refine Comp.body (T := tab) (res := [.tmp 3]) tab_ok [] Tryz.func167 rfl (by kernel_rfl) Tryz.ntmps167 rfl (by simp only [List.length_cons, List.length_nil]; decide) (by simp only [lowL, AV.low, wyL, hl]; rfl) ?_; conv => whnf
  refine XCall.ret hp ?_
  conv => whnf
  exact XOut.bool rfl
theorem every_wy (nl : Bool) (xs : List Wy) (g : FuncId) (caps : List AV) (p : Wy → Bool) (hl : lowL 0 caps = true) (hx : xs.length ≤ 100000) (hp : ∀ x ∈ xs, Comp Tryz.prog g ((wyA x) :: caps) (.bool (p x))) :
    Comp Tryz.prog 113 [.sl nl (xs.map (wyA)), .fn g caps] (.bool (xs.all p)) := by
  refine Comp.body (T := tab) (res := [.tmp 4]) tab_ok [] Tryz.func113 rfl (by kernel_rfl) Tryz.ntmps113 rfl (by simp only [List.length_cons, List.length_nil]; decide) (by simp only [lowL, AV.low, lowWy, hl]; rfl) ?_; conv => whnf
  refine XCall.ret (contf_wy nl xs 167 [.pim [.fn g caps]] (fun x => !p x) (by simp only [lowL, AV.low, hl]; rfl) hx fun x hm => every1_wy x g caps p hl (hp x hm)) ?_
  conv => whnf
  refine XOut.bool ?_
  rw [List.not_any_eq_all_not]; simp
theorem idxf_rw (nl : Bool) (xs : List Rw) (g : FuncId) (caps : List AV) (p : Rw → Bool) (hl : lowL 0 caps = true) (hx : xs.length ≤ 100000) (hp : ∀ x ∈ xs, Comp Tryz.prog g ((rwA x) :: caps) (.bool (p x))) :
    Comp Tryz.prog 190 [.sl nl (xs.map (rwA)), .fn g caps] (.int .i64 (idxR p xs)) := by
  refine Comp.body (T := tab) (res := [.tmp 4]) tab_ok [] Tryz.func190 rfl (by kernel_rfl) Tryz.ntmps190 rfl (by simp only [List.length_cons, List.length_nil]; decide) (by simp only [lowL, AV.low, lowRk, hl]; rfl) ?_; conv => whnf
  refine Walk.loop tab_ok [] (fun i : Nat => i ≤ xs.length ∧ ∀ j, j < i → p (xs.getD j default) = false) (fun i => [(0, .sl nl (xs.map (rwA))), (1, .fn g caps), (7, .int .i64 xs.length), (8, .int .i64 i)]) (fun _ => []) (fun i => xs.length - i) 0 ⟨by omega, by omega⟩ rfl ⟨rfl, rfl, by simp only [List.length_map]; rfl, rfl, trivial⟩ ?_
  rintro i ⟨h2, h3⟩
  conv => whnf
  repeat' first | ((with_reducible apply XBr.dec) <;> (intro h; first | (exfalso; omega) | ((try simp only [List.length_map] at h); first | (exfalso; omega) | (conv => whnf)))) | (((with_reducible refine XIx.nat ?_ ?_ ?_); omega; (intro _; rfl)); conv => whnf) | fail
  · refine XCall.ret (hp _ (getD_mem (i := i) (d := default) (by omega))) ?_
    conv => whnf
    refine XBr.mk' ?_ ?_ <;> intro h4 <;> (conv => whnf)
    · refine XOut.int ?_
      simp only [idxR, find_some (d := default) (i := i) (by omega) h4 h3]
    · skip
      repeat' first | ((with_reducible refine XInt.i64 (by omega) (by omega) ?_); conv => whnf) | fail
      refine XAgain.go (i + 1) ⟨by omega, fun j hj => ?_⟩ (by omega) rfl ⟨rfl, rfl, rfl, rfl, trivial⟩
      by_cases hji : j = i
      · subst hji; exact h4
      · exact h3 j (by omega)
  · refine XOut.int ?_
    simp only [idxR, find_none (d := default) fun j hj => h3 j (by omega)]
theorem contf_rw (nl : Bool) (xs : List Rw) (g : FuncId) (caps : List AV) (p : Rw → Bool) (hl : lowL 0 caps = true) (hx : xs.length ≤ 100000) (hp : ∀ x ∈ xs, Comp Tryz.prog g ((rwA x) :: caps) (.bool (p x))) :
    Comp Tryz.prog 168 [.sl nl (xs.map (rwA)), .fn g caps] (.bool (xs.any p)) := by
  refine Comp.body (T := tab) (res := [.tmp 4]) tab_ok [] Tryz.func168 rfl (by kernel_rfl) Tryz.ntmps168 rfl (by simp only [List.length_cons, List.length_nil]; decide) (by simp only [lowL, AV.low, lowRk, hl]; rfl) ?_; conv => whnf
  refine XCall.ret (idxf_rw nl xs g caps p hl hx hp) ?_
  conv => whnf
  refine XOut.bool ?_
  rw [Bool.eq_iff_iff, decide_eq_true_eq]; exact idxR_pos
theorem every1_rw (x : Rw) (g : FuncId) (caps : List AV) (p : Rw → Bool) (hl : lowL 0 caps = true) (hp : Comp Tryz.prog g ((rwA x) :: caps) (.bool (p x))) :
    Comp Tryz.prog 169 [(rwA x), .pim [.fn g caps]] (.bool (!p x)) := by
  refine Comp.body (T := tab) (res := [.tmp 3]) tab_ok [] Tryz.func169 rfl (by kernel_rfl) Tryz.ntmps169 rfl (by simp only [List.length_cons, List.length_nil]; decide) (by simp only [lowL, AV.low, rwL, hl]; rfl) ?_; conv => whnf
  refine XCall.ret hp ?_
  conv => whnf
  exact XOut.bool rfl
theorem every_rw (nl : Bool) (xs : List Rw) (g : FuncId) (caps : List AV) (p : Rw → Bool) (hl : lowL 0 caps = true) (hx : xs.length ≤ 100000) (hp : ∀ x ∈ xs, Comp Tryz.prog g ((rwA x) :: caps) (.bool (p x))) :
    Comp Tryz.prog 115 [.sl nl (xs.map (rwA)), .fn g caps] (.bool (xs.all p)) := by
  refine Comp.body (T := tab) (res := [.tmp 4]) tab_ok [] Tryz.func115 rfl (by kernel_rfl) Tryz.ntmps115 rfl (by simp only [List.length_cons, List.length_nil]; decide) (by simp only [lowL, AV.low, lowRk, hl]; rfl) ?_; conv => whnf
  refine XCall.ret (contf_rw nl xs 169 [.pim [.fn g caps]] (fun x => !p x) (by simp only [lowL, AV.low, hl]; rfl) hx fun x hm => every1_rw x g caps p hl (hp x hm)) ?_
  conv => whnf
  refine XOut.bool ?_
  rw [List.not_any_eq_all_not]; simp
theorem idxf_tr (nl : Bool) (xs : List Tru) (g : FuncId) (caps : List AV) (p : Tru → Bool) (hl : lowL 0 caps = true) (hx : xs.length ≤ 100000) (hp : ∀ x ∈ xs, Comp Tryz.prog g ((trA x) :: caps) (.bool (p x))) :
    Comp Tryz.prog 199 [.sl nl (xs.map (trA)), .fn g caps] (.int .i64 (idxR p xs)) := by
  refine Comp.body (T := tab) (res := [.tmp 4]) tab_ok [] Tryz.func199 rfl (by kernel_rfl) Tryz.ntmps199 rfl (by simp only [List.length_cons, List.length_nil]; decide) (by simp only [lowL, AV.low, lowTr, hl]; rfl) ?_; conv => whnf
  refine Walk.loop tab_ok [] (fun i : Nat => i ≤ xs.length ∧ ∀ j, j < i → p (xs.getD j default) = false) (fun i => [(0, .sl nl (xs.map (trA))), (1, .fn g caps), (7, .int .i64 xs.length), (8, .int .i64 i)]) (fun _ => []) (fun i => xs.length - i) 0 ⟨by omega, by omega⟩ rfl ⟨rfl, rfl, by simp only [List.length_map]; rfl, rfl, trivial⟩ ?_
  rintro i ⟨h2, h3⟩
  conv => whnf
  repeat' first | ((with_reducible apply XBr.dec) <;> (intro h; first | (exfalso; omega) | ((try simp only [List.length_map] at h); first | (exfalso; omega) | (conv => whnf)))) | (((with_reducible refine XIx.nat ?_ ?_ ?_); omega; (intro _; rfl)); conv => whnf) | fail
  · refine XCall.ret (hp _ (getD_mem (i := i) (d := default) (by omega))) ?_
    conv => whnf
    refine XBr.mk' ?_ ?_ <;> intro h4 <;> (conv => whnf)
    · refine XOut.int ?_
      simp only [idxR, find_some (d := default) (i := i) (by omega) h4 h3]
    · skip
      repeat' first | ((with_reducible refine XInt.i64 (by omega) (by omega) ?_); conv => whnf) | fail
      refine XAgain.go (i + 1) ⟨by omega, fun j hj => ?_⟩ (by omega) rfl ⟨rfl, rfl, rfl, rfl, trivial⟩
      by_cases hji : j = i
      · subst hji; exact h4
      · exact h3 j (by omega)
  · refine XOut.int ?_
    simp only [idxR, find_none (d := default) fun j hj => h3 j (by omega)]
theorem contf_tr (nl : Bool) (xs : List Tru) (g : FuncId) (caps : List AV) (p : Tru → Bool) (hl : lowL 0 caps = true) (hx : xs.length ≤ 100000) (hp : ∀ x ∈ xs, Comp Tryz.prog g ((trA x) :: caps) (.bool (p x))) :
    Comp Tryz.prog 188 [.sl nl (xs.map (trA)), .fn g caps] (.bool (xs.any p)) := by
  refine Comp.body (T := tab) (res := [.tmp 4]) tab_ok [] Tryz.func188 rfl (by kernel_rfl) Tryz.ntmps188 rfl (by simp only [List.length_cons, List.length_nil]; decide) (by simp only [lowL, AV.low, lowTr, hl]; rfl) ?_; conv => whnf
  refine XCall.ret (idxf_tr nl xs g caps p hl hx hp) ?_
  conv => whnf
  refine XOut.bool ?_
  rw [Bool.eq_iff_iff, decide_eq_true_eq]; exact idxR_pos
theorem every1_tr (x : Tru) (g : FuncId) (caps : List AV) (p : Tru → Bool) (hl : lowL 0 caps = true) (hp : Comp Tryz.prog g ((trA x) :: caps) (.bool (p x))) :
    Comp Tryz.prog 189 [(trA x), .pim [.fn g caps]] (.bool (!p x)) := by
  refine Comp.body (T := tab) (res := [.tmp 3]) tab_ok [] Tryz.func189 rfl (by kernel_rfl) Tryz.ntmps189 rfl (by simp only [List.length_cons, List.length_nil]; decide) (by simp only [lowL, AV.low, trL, hl]; rfl) ?_; conv => whnf
  refine XCall.ret hp ?_
  conv => whnf
  exact XOut.bool rfl
theorem every_tr (nl : Bool) (xs : List Tru) (g : FuncId) (caps : List AV) (p : Tru → Bool) (hl : lowL 0 caps = true) (hx : xs.length ≤ 100000) (hp : ∀ x ∈ xs, Comp Tryz.prog g ((trA x) :: caps) (.bool (p x))) :
    Comp Tryz.prog 165 [.sl nl (xs.map (trA)), .fn g caps] (.bool (xs.all p)) := by
  refine Comp.body (T := tab) (res := [.tmp 4]) tab_ok [] Tryz.func165 rfl (by kernel_rfl) Tryz.ntmps165 rfl (by simp only [List.length_cons, List.length_nil]; decide) (by simp only [lowL, AV.low, lowTr, hl]; rfl) ?_; conv => whnf
  refine XCall.ret (contf_tr nl xs 189 [.pim [.fn g caps]] (fun x => !p x) (by simp only [lowL, AV.low, hl]; rfl) hx fun x hm => every1_tr x g caps p hl (hp x hm)) ?_
  conv => whnf
  refine XOut.bool ?_
  rw [List.not_any_eq_all_not]; simp
theorem staL {n : Nat} (x : Sta) : (staA x).low n = true := rfl
theorem lowSta {n : Nat} (xs : List Sta) : lowL n (xs.map staA) = true := lowL_map (fun _ => rfl) xs
theorem idxf_sg (nl : Bool) (xs : List (Int × Int)) (g : FuncId) (caps : List AV) (p : (Int × Int) → Bool) (hl : lowL 0 caps = true) (hx : xs.length ≤ 100000) (hp : ∀ x ∈ xs, Comp Tryz.prog g ((sgA x) :: caps) (.bool (p x))) :
    Comp Tryz.prog 183 [.sl nl (xs.map (sgA)), .fn g caps] (.int .i64 (idxR p xs)) := by
  refine Comp.body (T := tab) (res := [.tmp 4]) tab_ok [] Tryz.func183 rfl (by kernel_rfl) Tryz.ntmps183 rfl (by simp only [List.length_cons, List.length_nil]; decide) (by simp only [lowL, AV.low, lowSg, hl]; rfl) ?_; conv => whnf
  refine Walk.loop tab_ok [] (fun i : Nat => i ≤ xs.length ∧ ∀ j, j < i → p (xs.getD j default) = false) (fun i => [(0, .sl nl (xs.map (sgA))), (1, .fn g caps), (7, .int .i64 xs.length), (8, .int .i64 i)]) (fun _ => []) (fun i => xs.length - i) 0 ⟨by omega, by omega⟩ rfl ⟨rfl, rfl, by simp only [List.length_map]; rfl, rfl, trivial⟩ ?_
  rintro i ⟨h2, h3⟩
  conv => whnf
  repeat' first | ((with_reducible apply XBr.dec) <;> (intro h; first | (exfalso; omega) | ((try simp only [List.length_map] at h); first | (exfalso; omega) | (conv => whnf)))) | (((with_reducible refine XIx.nat ?_ ?_ ?_); omega; (intro _; rfl)); conv => whnf) | fail
  · refine XCall.ret (hp _ (getD_mem (i := i) (d := default) (by omega))) ?_
    conv => whnf
    refine XBr.mk' ?_ ?_ <;> intro h4 <;> (conv => whnf)
    · refine XOut.int ?_
      simp only [idxR, find_some (d := default) (i := i) (by omega) h4 h3]
    · skip
      repeat' first | ((with_reducible refine XInt.i64 (by omega) (by omega) ?_); conv => whnf) | fail
      refine XAgain.go (i + 1) ⟨by omega, fun j hj => ?_⟩ (by omega) rfl ⟨rfl, rfl, rfl, rfl, trivial⟩
      by_cases hji : j = i
      · subst hji; exact h4
      · exact h3 j (by omega)
  · refine XOut.int ?_
    simp only [idxR, find_none (d := default) fun j hj => h3 j (by omega)]
theorem contf_sg (nl : Bool) (xs : List (Int × Int)) (g : FuncId) (caps : List AV) (p : (Int × Int) → Bool) (hl : lowL 0 caps = true) (hx : xs.length ≤ 100000) (hp : ∀ x ∈ xs, Comp Tryz.prog g ((sgA x) :: caps) (.bool (p x))) :
    Comp Tryz.prog 145 [.sl nl (xs.map (sgA)), .fn g caps] (.bool (xs.any p)) := by
  refine Comp.body (T := tab) (res := [.tmp 4]) tab_ok [] Tryz.func145 rfl (by kernel_rfl) Tryz.ntmps145 rfl (by simp only [List.length_cons, List.length_nil]; decide) (by simp only [lowL, AV.low, lowSg, hl]; rfl) ?_; conv => whnf
  refine XCall.ret (idxf_sg nl xs g caps p hl hx hp) ?_
  conv => whnf
  refine XOut.bool ?_
  rw [Bool.eq_iff_iff, decide_eq_true_eq]; exact idxR_pos
theorem idxf_sta (nl : Bool) (xs : List Sta) (g : FuncId) (caps : List AV) (p : Sta → Bool) (hl : lowL 0 caps = true) (hx : xs.length ≤ 100000) (hp : ∀ x ∈ xs, Comp Tryz.prog g ((staA x) :: caps) (.bool (p x))) :
    Comp Tryz.prog 75 [.sl nl (xs.map (staA)), .fn g caps] (.int .i64 (idxR p xs)) := by
  refine Comp.body (T := tab) (res := [.tmp 4]) tab_ok [] Tryz.func75 rfl (by kernel_rfl) Tryz.ntmps75 rfl (by simp only [List.length_cons, List.length_nil]; decide) (by simp only [lowL, AV.low, lowSta, hl]; rfl) ?_; conv => whnf
  refine Walk.loop tab_ok [] (fun i : Nat => i ≤ xs.length ∧ ∀ j, j < i → p (xs.getD j default) = false) (fun i => [(0, .sl nl (xs.map (staA))), (1, .fn g caps), (7, .int .i64 xs.length), (8, .int .i64 i)]) (fun _ => []) (fun i => xs.length - i) 0 ⟨by omega, by omega⟩ rfl ⟨rfl, rfl, by simp only [List.length_map]; rfl, rfl, trivial⟩ ?_
  rintro i ⟨h2, h3⟩
  conv => whnf
  repeat' first | ((with_reducible apply XBr.dec) <;> (intro h; first | (exfalso; omega) | ((try simp only [List.length_map] at h); first | (exfalso; omega) | (conv => whnf)))) | (((with_reducible refine XIx.nat ?_ ?_ ?_); omega; (intro _; rfl)); conv => whnf) | fail
  · refine XCall.ret (hp _ (getD_mem (i := i) (d := default) (by omega))) ?_
    conv => whnf
    refine XBr.mk' ?_ ?_ <;> intro h4 <;> (conv => whnf)
    · refine XOut.int ?_
      simp only [idxR, find_some (d := default) (i := i) (by omega) h4 h3]
    · skip
      repeat' first | ((with_reducible refine XInt.i64 (by omega) (by omega) ?_); conv => whnf) | fail
      refine XAgain.go (i + 1) ⟨by omega, fun j hj => ?_⟩ (by omega) rfl ⟨rfl, rfl, rfl, rfl, trivial⟩
      by_cases hji : j = i
      · subst hji; exact h4
      · exact h3 j (by omega)
  · refine XOut.int ?_
    simp only [idxR, find_none (d := default) fun j hj => h3 j (by omega)]
theorem contf_sta (nl : Bool) (xs : List Sta) (g : FuncId) (caps : List AV) (p : Sta → Bool) (hl : lowL 0 caps = true) (hx : xs.length ≤ 100000) (hp : ∀ x ∈ xs, Comp Tryz.prog g ((staA x) :: caps) (.bool (p x))) :
    Comp Tryz.prog 184 [.sl nl (xs.map (staA)), .fn g caps] (.bool (xs.any p)) := by
  refine Comp.body (T := tab) (res := [.tmp 4]) tab_ok [] Tryz.func184 rfl (by kernel_rfl) Tryz.ntmps184 rfl (by simp only [List.length_cons, List.length_nil]; decide) (by simp only [lowL, AV.low, lowSta, hl]; rfl) ?_; conv => whnf
  refine XCall.ret (idxf_sta nl xs g caps p hl hx hp) ?_
  conv => whnf
  refine XOut.bool ?_
  rw [Bool.eq_iff_iff, decide_eq_true_eq]; exact idxR_pos
theorem everyb1_sta (x : Sta) (g : FuncId) (fs : List AV) (p : Sta → Bool) (hl : lowL 0 fs = true) (hp : Comp Tryz.prog g (fs ++ [(staA x)]) (.bool (p x))) :
    Comp Tryz.prog 185 [(staA x), .pim [.bf g fs]] (.bool (!p x)) := by
  refine Comp.body (T := tab) (res := [.tmp 3]) tab_ok [] Tryz.func185 rfl (by kernel_rfl) Tryz.ntmps185 rfl (by simp only [List.length_cons, List.length_nil]; decide) (by simp only [lowL, AV.low, staL, hl]; rfl) ?_; conv => whnf
  refine XCall.ret hp ?_
  conv => whnf
  exact XOut.bool rfl
theorem everyb_sta (nl : Bool) (xs : List Sta) (g : FuncId) (fs : List AV) (p : Sta → Bool) (hl : lowL 0 fs = true) (hx : xs.length ≤ 100000) (hp : ∀ x ∈ xs, Comp Tryz.prog g (fs ++ [(staA x)]) (.bool (p x))) :
    Comp Tryz.prog 148 [.sl nl (xs.map (staA)), .bf g fs] (.bool (xs.all p)) := by
  refine Comp.body (T := tab) (res := [.tmp 4]) tab_ok [] Tryz.func148 rfl (by kernel_rfl) Tryz.ntmps148 rfl (by simp only [List.length_cons, List.length_nil]; decide) (by simp only [lowL, AV.low, lowSta, hl]; rfl) ?_; conv => whnf
  refine XCall.ret (contf_sta nl xs 185 [.pim [.bf g fs]] (fun x => !p x) (by simp only [lowL, AV.low, hl]; rfl) hx fun x hm => everyb1_sta x g fs p hl (hp x hm)) ?_
  conv => whnf
  refine XOut.bool ?_
  rw [List.not_any_eq_all_not]; simp
end GA
end

section
namespace GA
open Go Go.RowKit Go.Proofs
set_option pp.deepTerms true
set_option maxRecDepth 8000
set_option linter.unusedVariables false
set_option linter.unusedSimpArgs false

theorem fdIn_c (n lo hi : Int) : Comp Tryz.prog 112 [.int .i64 n, .int .i64 lo, .int .i64 hi] (.bool (inZ n lo hi)) := by
  refine Comp.body (T := tab) (res := [.tmp 6]) tab_ok [] Tryz.func112 rfl (by kernel_rfl) Tryz.ntmps112 rfl (by simp only [List.length_cons, List.length_nil]; decide) (by rfl) ?_; conv => whnf
  repeat' first | ((first | (with_reducible apply XBr.tt) | (with_reducible apply XBr.ff)); conv => whnf) | ((with_reducible apply XBr.dec) <;> (intro h; first | (exfalso; omega) | ((try simp only [List.length_map] at h); first | (exfalso; omega) | (conv => whnf)))) | fail
  all_goals (refine XOut.bool ?_; rw [Bool.eq_iff_iff]; simp [inZ]; try omega)
theorem place_c (s : Sn) (p : Int) (h1 : 1 ≤ s.places) (h2 : s.places ≤ 5) : Comp Tryz.prog 119 [snA s, .int .i64 p] (.bool (plB s p)) := by
  refine Comp.body (T := tab) (res := [.tmp 4]) tab_ok [] Tryz.func119 rfl (by kernel_rfl) Tryz.ntmps119 rfl (by simp only [List.length_cons, List.length_nil]; decide) (by simp only [lowL, snL]; rfl) ?_; conv => whnf
  repeat' first | ((first | (with_reducible refine XInt.i64 (by omega) (by omega) ?_) | (refine XCall.ret (fdIn_c _ _ _) ?_)); conv => whnf) | fail
  exact XOut.bool rfl
def pvO (l : List (Int × Int)) : Nat → Option Int
  | 0 => none
  | k + 1 => some (l.getD k default).2
theorem spans_c (s : Sn) (nl : Bool) (l : List (Int × Int)) (hl : l.length ≤ 100000) (q2 : s.last ≤ 60) : Comp Tryz.prog 123 [snA s, .sl nl (l.map sgA)] (.int .i64 (spE s.last none l)) := by
  have e1 : ((l.map sgA).length : Int) = l.length := by rw [List.length_map]
  refine Comp.body (T := tab) (res := [.tmp 4]) tab_ok [] Tryz.func123 rfl (by kernel_rfl) Tryz.ntmps123 rfl (by simp only [List.length_cons, List.length_nil]; decide) (by simp only [lowL, AV.low, snL, lowSg]; rfl) ?_; conv => whnf
  skip
  refine Walk.loopGK tab_ok [] [(1, _), (2, _), (7, _), (8, _)] ⟨rfl, rfl, rfl, rfl, trivial⟩ (fun k : Nat => k ≤ l.length ∧ spE s.last none l = spE s.last (pvO l k) (l.drop k) ∧ ∀ j, j < k → (l.getD j default).2 ≤ 60 ∧ 0 ≤ (l.getD j default).2) (fun k => [(9, natA k)]) (fun _ => []) (fun k => l.length - k) 0 ⟨Nat.zero_le _, rfl, fun j hj => by omega⟩ rfl ⟨rfl, trivial⟩ ?_ (fun _ _ => Nat.le_refl _) ?_
  · intro k _
    refine ⟨by simp, fun z hz => ?_⟩
    simp only [List.cons_append, List.nil_append, List.mem_cons, List.not_mem_nil, or_false] at hz
    rcases hz with rfl | rfl | rfl | rfl | rfl <;> first | rfl | exact lowSg _ | exact snL s | exact snCL s
  rintro k ⟨hk, hs, hb⟩
  conv => whnf
  by_cases hlt : k < l.length
  · rw [drop_next hlt, spE] at hs
    have hok : (inZ (l.getD k default).1 0 s.last && inZ (l.getD k default).2 (l.getD k default).1 s.last) = true → ∀ j, j < k + 1 → (l.getD j default).2 ≤ 60 ∧ 0 ≤ (l.getD j default).2 := fun h j hj => by
      by_cases e : j = k
      · subst e; rw [Bool.and_eq_true, inZ_iff, inZ_iff] at h; omega
      · exact hb j (by omega)
    rcases Nat.eq_zero_or_pos k with rfl | hk0
    · have hq : spBad (pvO l 0) (l.getD 0 default).1 = false := rfl
      rw [hq] at hs
      repeat' first | ((first | (with_reducible apply XBr.tt) | (with_reducible apply XBr.ff)); conv => whnf) | (with_reducible apply XBr.not) | ((with_reducible apply XBr.dec) <;> (intro h; first | (exfalso; omega) | ((try simp only [List.length_map] at h); first | (exfalso; omega) | (conv => whnf)))) | ((first | (with_reducible refine XInt.i64 (by omega) (by omega) ?_) | ((with_reducible refine XIx.nat ?_ ?_ ?_); omega; (intro _; rfl))); conv => whnf) | (with_reducible apply XAnd.mk) | ((first | (with_reducible apply Chk.go) | (with_reducible apply ChkA.go) | (with_reducible apply ChkF.go) | (with_reducible apply ChkB.go)); conv => whnf) | (exact XSame.mk rfl rfl) | (with_reducible exact trivial) | (apply Walk.drawN (id := 6) tab_ok mixed_ok [] [] (hsU _) [_, _, _, _, _, _, _, _, _, _, _, _, _, _] (by kernel_rfl) rfl) | ((first | (with_reducible apply XNext.mk) | (refine XCall.ret (fdIn_c _ _ _) ?_)); conv => whnf) | ((with_reducible apply XBr.mk') <;> (intro h; conv => whnf)) | fail
      all_goals first
        | (refine XOut.int ?_; rw [hs, if_pos (by simp_all)]; done)
        | (refine XAgainG.go 1 [.cells (sgA (l.getD 0 default)).cells] ⟨by omega, ?_, hok (by simp_all)⟩ (by omega) rfl ⟨rfl, rfl, rfl, rfl, rfl, trivial⟩; rw [hs, if_neg (by simp_all), if_neg (by simp)]; rfl)
    · have hp := hb ((k : Int) - 1).toNat (by omega)
      have hq : spBad (pvO l k) (l.getD k default).1 = decide ((l.getD k default).1 ≤ (l.getD ((k : Int) - 1).toNat default).2 + 1) := by
        obtain ⟨q, rfl⟩ : ∃ q, k = q + 1 := ⟨k - 1, by omega⟩
        rw [show (((q + 1 : Nat) : Int) - 1).toNat = q by omega]; rfl
      rw [hq] at hs
      repeat' first | ((first | (with_reducible apply XBr.tt) | (with_reducible apply XBr.ff)); conv => whnf) | (with_reducible apply XBr.not) | ((with_reducible apply XBr.dec) <;> (intro h; first | (exfalso; omega) | ((try simp only [List.length_map] at h); first | (exfalso; omega) | (conv => whnf)))) | ((first | (with_reducible refine XInt.i64 (by omega) (by omega) ?_) | ((with_reducible refine XIx.nat ?_ ?_ ?_); omega; (intro _; rfl)) | ((with_reducible refine XIx.map ?_ ?_ ?_ ?_); omega; omega; (intro _; rfl))); conv => whnf) | (with_reducible apply XAnd.mk) | ((first | (with_reducible apply Chk.go) | (with_reducible apply ChkA.go) | (with_reducible apply ChkF.go) | (with_reducible apply ChkB.go)); conv => whnf) | (exact XSame.mk rfl rfl) | (with_reducible exact trivial) | (apply Walk.drawN (id := 6) tab_ok mixed_ok [] [] (hsU _) [_, _, _, _, _, _, _, _, _, _, _, _, _, _] (by kernel_rfl) rfl) | ((first | (with_reducible apply XNext.mk) | (refine XCall.ret (fdIn_c _ _ _) ?_)); conv => whnf) | ((with_reducible apply XBr.mk') <;> (intro h; conv => whnf)) | fail
      all_goals first
        | (refine XOut.int ?_; rw [hs, if_pos (by simp_all)]; done)
        | (refine XOut.int ?_; rw [hs, if_neg (by simp_all), if_pos (by simp_all)]; done)
        | (refine XAgainG.go (k + 1) [.cells (sgA (l.getD k default)).cells] ⟨by omega, ?_, hok (by simp_all)⟩ (by omega) rfl ⟨rfl, rfl, rfl, rfl, rfl, trivial⟩; rw [hs, if_neg (by simp_all), if_neg (by simp_all)]; rfl)
  obtain rfl : k = l.length := by omega
  rw [List.drop_length, spE] at hs
  repeat' first | ((with_reducible apply XBr.dec) <;> (intro h; first | (exfalso; omega) | ((try simp only [List.length_map] at h); first | (exfalso; omega) | (conv => whnf)))) | fail
  exact XOut.int hs.symm
theorem cnt1_c (s : Sn) (n : Int) : Comp Tryz.prog 163 [.int .i64 n, .pim (snC s)] (.bool (n == s.places)) := by
  refine Comp.body (T := tab) (res := [.tmp 3]) tab_ok [] Tryz.func163 rfl (by kernel_rfl) Tryz.ntmps163 rfl (by simp only [List.length_cons, List.length_nil]; decide) (by simp only [lowL, AV.low, snCL]; rfl) ?_; conv => whnf
  skip
  all_goals (refine XOut.bool ?_; first | rfl | (simp_all; done))
theorem cnt2_c (s : Sn) (r : Rw) : Comp Tryz.prog 164 [rwA r, .pim [.fn 163 [.pim (snC s)]]] (.bool (decide ((r.2.length : Int) = s.places))) := by
  have e : ((ints r.2).length : Int) = r.2.length := by rw [ints_len]
  refine Comp.body (T := tab) (res := [.tmp 3]) tab_ok [] Tryz.func164 rfl (by kernel_rfl) Tryz.ntmps164 rfl (by simp only [List.length_cons, List.length_nil]; decide) (by simp only [lowL, AV.low, snCL, rwL]; rfl) ?_; conv => whnf
  repeat' first | ((refine XCall.ret (cnt1_c s _) ?_); conv => whnf) | fail
  exact XOut.bool (by rw [e]; rfl)
theorem cnt3_c (s : Sn) (t : Tru) : Comp Tryz.prog 166 [trA t, .pim [.fn 163 [.pim (snC s)]]] (.bool (decide ((t.2.length : Int) = s.places))) := by
  have e : ((t.2.map spsA).length : Int) = t.2.length := by rw [List.length_map]
  refine Comp.body (T := tab) (res := [.tmp 3]) tab_ok [] Tryz.func166 rfl (by kernel_rfl) Tryz.ntmps166 rfl (by simp only [List.length_cons, List.length_nil]; decide) (by simp only [lowL, AV.low, snCL, trL]; rfl) ?_; conv => whnf
  repeat' first | ((refine XCall.ret (cnt1_c s _) ?_); conv => whnf) | fail
  exact XOut.bool (by rw [e]; rfl)
structure SnB (s : Sn) : Prop where
  w : s.ways.length ≤ 1000
  k : s.looks.length ≤ 1000
  t : s.truths.length ≤ 1000
  kl : ∀ r ∈ s.looks, r.2.length ≤ 1000
  tl : ∀ t ∈ s.truths, t.2.length ≤ 1000
  sl : ∀ t ∈ s.truths, ∀ r ∈ t.2, r.2.length ≤ 1000
theorem counted_c (s : Sn) (hb : SnB s) : Comp Tryz.prog 111 [snA s] (.bool (cntB s)) := by
  have b1 := hb.w; have b2 := hb.k; have b3 := hb.t
  have e1 : ((s.ways.map wyA).length : Int) = s.ways.length := by rw [List.length_map]
  have e2 : ((s.looks.map rwA).length : Int) = s.looks.length := by rw [List.length_map]
  have e3 : ((s.truths.map trA).length : Int) = s.truths.length := by rw [List.length_map]
  have c1 := every_rw s.nk s.looks 164 [.pim [.fn 163 [.pim (snC s)]]] (fun r => decide ((r.2.length : Int) = s.places)) (by simp only [lowL, AV.low, snCL]; rfl) (by omega) fun r _ => cnt2_c s r
  have c2 := every_tr s.nt s.truths 166 [.pim [.fn 163 [.pim (snC s)]]] (fun t => decide ((t.2.length : Int) = s.places)) (by simp only [lowL, AV.low, snCL]; rfl) (by omega) fun t _ => cnt3_c s t
  have hcn : cntB s = (inZ s.places 1 5 && inZ s.truths.length 1 4 && decide ((s.ways.length : Int) ≤ 10) && decide ((s.looks.length : Int) = s.truths.length) && s.looks.all (fun l => decide ((l.2.length : Int) = s.places)) && s.truths.all (fun t => decide ((t.2.length : Int) = s.places))) := rfl
  generalize s.looks.all (fun l => decide ((l.2.length : Int) = s.places)) = r1 at c1 hcn
  generalize s.truths.all (fun t => decide ((t.2.length : Int) = s.places)) = r2 at c2 hcn
  rw [hcn]
  refine Comp.body (T := tab) (res := [.tmp 2]) tab_ok [] Tryz.func111 rfl (by kernel_rfl) Tryz.ntmps111 rfl (by simp only [List.length_cons, List.length_nil]; decide) (by simp only [lowL, snL]; rfl) ?_; conv => whnf
  skip
  refine Walk.norm tab_ok [] [(1, _), (3, _)] ⟨rfl, rfl, trivial⟩ ?_
  conv => whnf
  repeat' first | ((first | (with_reducible apply XBr.tt) | (with_reducible apply XBr.ff)); conv => whnf) | ((with_reducible apply XBr.dec) <;> (intro h; first | (exfalso; omega) | ((try simp only [List.length_map] at h); first | (exfalso; omega) | (conv => whnf)))) | ((with_reducible apply XBr.beq) <;> (intro h; first | (exfalso; omega) | (conv => whnf))) | ((first | (refine XCall.ret (fdIn_c _ _ _) ?_) | (refine XCall.lend c1 (.cons (.low (lowRk _)) (.cons (Froz.fn (.cons (Froz.ptr rfl (one1 rfl) (.cons (Froz.fn (.low (by simp only [lowL, AV.low, snCL]; rfl))) .nil)) .nil)) .nil)) rfl ?_) | (refine XCall.lend c2 (.cons (.low (lowTr _)) (.cons (Froz.fn (.cons (Froz.ptr rfl (one1 rfl) (.cons (Froz.fn (.low (by simp only [lowL, AV.low, snCL]; rfl))) .nil)) .nil)) .nil)) rfl ?_)); conv => whnf) | ((with_reducible apply XBr.mk') <;> (intro h; conv => whnf)) | fail
  all_goals (refine XOut.bool ?_; clear hcn c1 c2; simp only [List.length_map] at *; simp_all <;> omega)
theorem chk1_c (w : Wy) : Comp Tryz.prog 114 [wyA w] (.bool (inZ w.2.2 1 20)) := by
  refine Comp.body (T := tab) (res := [.tmp 2]) tab_ok [] Tryz.func114 rfl (by kernel_rfl) Tryz.ntmps114 rfl (by simp only [List.length_cons, List.length_nil]; decide) (by rfl) ?_; conv => whnf
  repeat' first | ((first | (refine XArr.at _ (by omega) (by omega) rfl ?_) | (refine XCall.ret (fdIn_c _ _ _) ?_)); conv => whnf) | fail
  exact XOut.bool rfl
theorem chk21_c (n : Int) : Comp Tryz.prog 118 [.int .i64 n] (.bool (inZ n 0 3)) := by
  refine Comp.body (T := tab) (res := [.tmp 2]) tab_ok [] Tryz.func118 rfl (by kernel_rfl) Tryz.ntmps118 rfl (by simp only [List.length_cons, List.length_nil]; decide) (by rfl) ?_; conv => whnf
  repeat' first | ((refine XCall.ret (fdIn_c _ _ _) ?_); conv => whnf) | fail
  exact XOut.bool rfl
theorem chk2_c (r : Rw) (h : r.2.length ≤ 100000) : Comp Tryz.prog 116 [rwA r] (.bool (r.2.all fun n => inZ n 0 3)) := by
  have c := every_zi r.1 r.2 118 [] (fun n => inZ n 0 3) rfl h fun n _ => chk21_c n
  refine Comp.body (T := tab) (res := [.tmp 2]) tab_ok [] Tryz.func116 rfl (by kernel_rfl) Tryz.ntmps116 rfl (by simp only [List.length_cons, List.length_nil]; decide) (by simp only [lowL, rwL]; rfl) ?_; conv => whnf
  repeat' first | ((refine XCall.ret c ?_); conv => whnf) | fail
  exact XOut.bool rfl
theorem chk3_c (s : Sn) (w : Wy) (h1 : 1 ≤ s.places) (h2 : s.places ≤ 5) : Comp Tryz.prog 120 [wyA w, .pim (snC s)] (.bool (plB s w.1 && plB s w.2.1)) := by
  refine Comp.body (T := tab) (res := [.tmp 3]) tab_ok [] Tryz.func120 rfl (by kernel_rfl) Tryz.ntmps120 rfl (by simp only [List.length_cons, List.length_nil]; decide) (by simp only [lowL, AV.low, snCL]; rfl) ?_; conv => whnf
  repeat' first | ((first | (with_reducible apply XBr.tt) | (with_reducible apply XBr.ff) | (with_reducible apply XArr.pim0) | (with_reducible apply XArr.pim1) | (refine XCall.ret (place_c s _ h1 h2) ?_)); conv => whnf) | ((with_reducible apply XBr.mk') <;> (intro h; conv => whnf)) | fail
  all_goals (refine XOut.bool ?_; simp_all)
theorem chk4_c (x w : Wy) : Comp Tryz.prog 122 [wyA x, .pim [.int .i64 w.1, .int .i64 w.2.1, .int .i64 w.2.2]] (.bool (leadB x w.1 w.2.1)) := by
  refine Comp.body (T := tab) (res := [.tmp 3]) tab_ok [] Tryz.func122 rfl (by kernel_rfl) Tryz.ntmps122 rfl (by simp only [List.length_cons, List.length_nil]; decide) (by rfl) ?_; conv => whnf
  refine Walk.norm tab_ok [] [(1, _), (2, _)] ⟨rfl, rfl, trivial⟩ ?_
  conv => whnf
  repeat' first | ((first | (with_reducible apply XBr.tt) | (with_reducible apply XBr.ff)); conv => whnf) | ((with_reducible apply XBr.beq) <;> (intro h; first | (exfalso; omega) | (conv => whnf))) | ((first | (with_reducible apply XArr.pim0) | (with_reducible apply XArr.pim1)); conv => whnf) | fail
  all_goals (refine XOut.bool ?_; unfold leadB; simp_all)
theorem snE_1 {s : Sn} (h : cntB s = false) : snE s = 2 := by unfold snE; rw [if_pos h]
theorem snE_2 {s : Sn} (h : cntB s = true) (h2 : inZ s.last 1 60 = false ∨ s.ways.all (fun w => inZ w.2.2 1 20) = false) : snE s = 3 := by unfold snE; rw [if_neg (by rw [h]; simp), if_pos h2]
theorem snE_3 {s : Sn} (h : cntB s = true) (h2 : ¬ (inZ s.last 1 60 = false ∨ s.ways.all (fun w => inZ w.2.2 1 20) = false)) (h3 : s.looks.all (fun l => l.2.all fun n => inZ n 0 3) = false) : snE s = 3 := by unfold snE; rw [if_neg (by rw [h]; simp), if_neg h2, if_pos h3]
theorem snE_4 {s : Sn} (h : cntB s = true) (h2 : ¬ (inZ s.last 1 60 = false ∨ s.ways.all (fun w => inZ w.2.2 1 20) = false)) (h3 : s.looks.all (fun l => l.2.all fun n => inZ n 0 3) = true) (h4 : plB s s.home = false ∨ plB s s.bed = false ∨ s.ways.all (fun w => plB s w.1 && plB s w.2.1) = false) : snE s = 1 := by
  unfold snE; rw [if_neg (by rw [h]; simp), if_neg h2, if_neg (by rw [h3]; simp), if_pos h4]
theorem snE_5 {s : Sn} (h : cntB s = true) (h2 : ¬ (inZ s.last 1 60 = false ∨ s.ways.all (fun w => inZ w.2.2 1 20) = false)) (h3 : s.looks.all (fun l => l.2.all fun n => inZ n 0 3) = true) (h4 : ¬ (plB s s.home = false ∨ plB s s.bed = false ∨ s.ways.all (fun w => plB s w.1 && plB s w.2.1) = false)) (h5 : s.home = s.bed) : snE s = 5 := by
  unfold snE; rw [if_neg (by rw [h]; simp), if_neg h2, if_neg (by rw [h3]; simp), if_neg h4, if_pos h5]
theorem snE_6 {s : Sn} (h : cntB s = true) (h2 : ¬ (inZ s.last 1 60 = false ∨ s.ways.all (fun w => inZ w.2.2 1 20) = false)) (h3 : s.looks.all (fun l => l.2.all fun n => inZ n 0 3) = true) (h4 : ¬ (plB s s.home = false ∨ plB s s.bed = false ∨ s.ways.all (fun w => plB s w.1 && plB s w.2.1) = false)) (h5 : s.home ≠ s.bed) (h6 : agnB s = true) : snE s = 5 := by
  unfold snE; rw [if_neg (by rw [h]; simp), if_neg h2, if_neg (by rw [h3]; simp), if_neg h4, if_neg h5, if_pos h6]
theorem snE_7 {s : Sn} (h : cntB s = true) (h2 : ¬ (inZ s.last 1 60 = false ∨ s.ways.all (fun w => inZ w.2.2 1 20) = false)) (h3 : s.looks.all (fun l => l.2.all fun n => inZ n 0 3) = true) (h4 : ¬ (plB s s.home = false ∨ plB s s.bed = false ∨ s.ways.all (fun w => plB s w.1 && plB s w.2.1) = false)) (h5 : s.home ≠ s.bed) (h6 : agnB s = false) : snE s = firstE (s.truths.map (trE s)) := by
  unfold snE; rw [if_neg (by rw [h]; simp), if_neg h2, if_neg (by rw [h3]; simp), if_neg h4, if_neg h5, if_neg (by rw [h6]; simp)]
theorem firstE_at {α : Type} {f : α → Int} {l : List α} {d : α} {k : Nat} (hk : k < l.length) (h0 : ∀ j, j < k → f (l.getD j d) = 0) (h : f (l.getD k d) ≠ 0) : firstE (l.map f) = f (l.getD k d) := by
  induction l generalizing k with
  | nil => simp at hk
  | cons x l ih =>
    rw [List.map_cons, firstE]
    cases k with
    | zero => exact if_pos h
    | succ k =>
      have hx : f x = 0 := h0 0 (by omega)
      rw [if_neg (by rw [hx]; simp)]
      exact ih (by simpa using hk) (fun j hj => h0 (j + 1) (by omega)) h
theorem firstE_none {α : Type} {f : α → Int} {l : List α} {d : α} (h : ∀ j, j < l.length → f (l.getD j d) = 0) : firstE (l.map f) = 0 := by
  rw [firstE_iff]
  intro e he
  obtain ⟨x, hx, rfl⟩ := List.mem_map.1 he
  obtain ⟨j, hj, rfl⟩ := List.mem_iff_getElem.1 hx
  have := h j hj
  rwa [List.getD_eq_getElem?_getD, List.getElem?_eq_getElem hj] at this
theorem wyOne (w : Wy) : ∀ x ∈ [AV.int .i64 w.1, .int .i64 w.2.1, .int .i64 w.2.2], x.one = true := by simp [AV.one]
theorem fdCheck_c (s : Sn) (hb : SnB s) : Comp Tryz.prog 53 [snA s] (.int .i64 (snE s)) := by
  have b1 := hb.w; have b2 := hb.k; have b3 := hb.t
  have e1 : ((s.ways.map wyA).length : Int) = s.ways.length := by rw [List.length_map]
  have e3 : ((s.truths.map trA).length : Int) = s.truths.length := by rw [List.length_map]
  have k1 := counted_c s hb
  have k2 := every_wy s.nw s.ways 114 [] (fun w => inZ w.2.2 1 20) rfl (by omega) fun w _ => chk1_c w
  have k3 := every_rw s.nk s.looks 116 [] (fun l => l.2.all fun n => inZ n 0 3) rfl (by omega) fun r hr => chk2_c r (by have := hb.kl r hr; omega)
  cases q1 : cntB s
  · rw [q1] at k1
    rw [snE_1 q1]
    refine Comp.body (T := tab) (res := [.tmp 2]) tab_ok [] Tryz.func53 rfl (by kernel_rfl) Tryz.ntmps53 rfl (by simp only [List.length_cons, List.length_nil]; decide) (by simp only [lowL, snL]; rfl) ?_; conv => whnf
    repeat' first | ((with_reducible apply XBr.ff); conv => whnf) | (with_reducible apply XBr.not) | ((refine XCall.ret k1 ?_); conv => whnf) | fail
    exact XOut.int rfl
  have p1 : 1 ≤ s.places ∧ s.places ≤ 5 := by
    unfold cntB at q1
    simp only [Bool.and_eq_true, inZ_iff] at q1
    exact q1.1.1.1.1.1
  have k4 := every_wy s.nw s.ways 120 [.pim (snC s)] (fun w => plB s w.1 && plB s w.2.1) (by simp only [lowL, AV.low, snCL]; rfl) (by omega) fun w _ => chk3_c s w p1.1 p1.2
  have k5 := fun p => place_c s p p1.1 p1.2
  rw [q1] at k1
  cases q2 : inZ s.last 1 60
  · rw [snE_2 q1 (.inl q2)]
    refine Comp.body (T := tab) (res := [.tmp 2]) tab_ok [] Tryz.func53 rfl (by kernel_rfl) Tryz.ntmps53 rfl (by simp only [List.length_cons, List.length_nil]; decide) (by simp only [lowL, snL]; rfl) ?_; conv => whnf
    repeat' first | ((first | (with_reducible apply XBr.tt) | (with_reducible apply XBr.ff)); conv => whnf) | (with_reducible apply XBr.not) | ((first | (refine XCall.ret k1 ?_) | ((refine XCall.ret (fdIn_c _ _ _) ?_); rw [q2])); conv => whnf) | fail
    exact XOut.int rfl
  cases q3 : s.ways.all (fun w => inZ w.2.2 1 20)
  · rw [q3] at k2
    rw [snE_2 q1 (.inr q3)]
    refine Comp.body (T := tab) (res := [.tmp 2]) tab_ok [] Tryz.func53 rfl (by kernel_rfl) Tryz.ntmps53 rfl (by simp only [List.length_cons, List.length_nil]; decide) (by simp only [lowL, snL]; rfl) ?_; conv => whnf
    repeat' first | ((first | (with_reducible apply XBr.tt) | (with_reducible apply XBr.ff)); conv => whnf) | (with_reducible apply XBr.not) | ((first | (refine XCall.ret k1 ?_) | ((refine XCall.ret (fdIn_c _ _ _) ?_); rw [q2]) | (refine XCall.ret k2 ?_)); conv => whnf) | fail
    exact XOut.int rfl
  rw [q3] at k2
  have n2 : ¬ (inZ s.last 1 60 = false ∨ s.ways.all (fun w => inZ w.2.2 1 20) = false) := by rw [q2, q3]; simp
  cases q4 : s.looks.all (fun l => l.2.all fun n => inZ n 0 3)
  · rw [q4] at k3
    rw [snE_3 q1 n2 q4]
    refine Comp.body (T := tab) (res := [.tmp 2]) tab_ok [] Tryz.func53 rfl (by kernel_rfl) Tryz.ntmps53 rfl (by simp only [List.length_cons, List.length_nil]; decide) (by simp only [lowL, snL]; rfl) ?_; conv => whnf
    repeat' first | ((first | (with_reducible apply XBr.tt) | (with_reducible apply XBr.ff)); conv => whnf) | (with_reducible apply XBr.not) | ((first | (refine XCall.ret k1 ?_) | ((refine XCall.ret (fdIn_c _ _ _) ?_); rw [q2]) | (refine XCall.ret k2 ?_) | (refine XCall.ret k3 ?_)); conv => whnf) | fail
    exact XOut.int rfl
  rw [q4] at k3
  by_cases q5 : plB s s.home = false ∨ plB s s.bed = false ∨ s.ways.all (fun w => plB s w.1 && plB s w.2.1) = false
  · rw [snE_4 q1 n2 q4 q5]
    generalize s.ways.all (fun w => plB s w.1 && plB s w.2.1) = r5 at q5 k4
    refine Comp.body (T := tab) (res := [.tmp 2]) tab_ok [] Tryz.func53 rfl (by kernel_rfl) Tryz.ntmps53 rfl (by simp only [List.length_cons, List.length_nil]; decide) (by simp only [lowL, snL]; rfl) ?_; conv => whnf
    repeat' first | ((first | (with_reducible apply XBr.tt) | (with_reducible apply XBr.ff)); conv => whnf) | (with_reducible apply XBr.not) | ((with_reducible apply XBr.beq) <;> (intro h; first | (exfalso; omega) | (conv => whnf))) | ((first | (refine XCall.ret k1 ?_) | ((refine XCall.ret (fdIn_c _ _ _) ?_); rw [q2]) | (refine XCall.ret k2 ?_) | (refine XCall.ret k3 ?_) | (refine XCall.ret (k5 _) ?_) | (refine XCall.ret k4 ?_)); conv => whnf) | ((with_reducible apply XBr.mk') <;> (intro h; conv => whnf)) | fail
    all_goals first | exact XOut.int rfl | (exfalso; simp_all; done)
  have q51 : plB s s.home = true := by cases h : plB s s.home with | true => rfl | false => exact absurd (.inl h) q5
  have q52 : plB s s.bed = true := by cases h : plB s s.bed with | true => rfl | false => exact absurd (.inr (.inl h)) q5
  have q53 : s.ways.all (fun w => plB s w.1 && plB s w.2.1) = true := by cases h : s.ways.all (fun w => plB s w.1 && plB s w.2.1) with | true => rfl | false => exact absurd (.inr (.inr h)) q5
  rw [q53] at k4
  have k51 := k5 s.home
  have k52 := k5 s.bed
  rw [q51] at k51
  rw [q52] at k52
  by_cases q6 : s.home = s.bed
  · rw [snE_5 q1 n2 q4 q5 q6]
    refine Comp.body (T := tab) (res := [.tmp 2]) tab_ok [] Tryz.func53 rfl (by kernel_rfl) Tryz.ntmps53 rfl (by simp only [List.length_cons, List.length_nil]; decide) (by simp only [lowL, snL]; rfl) ?_; conv => whnf
    repeat' first | ((first | (with_reducible apply XBr.tt) | (with_reducible apply XBr.ff)); conv => whnf) | (with_reducible apply XBr.not) | ((with_reducible apply XBr.beq) <;> (intro h; first | (exfalso; omega) | (conv => whnf))) | ((first | (refine XCall.ret k1 ?_) | ((refine XCall.ret (fdIn_c _ _ _) ?_); rw [q2]) | (refine XCall.ret k2 ?_) | (refine XCall.ret k3 ?_) | (first | refine XCall.ret k51 ?_ | refine XCall.ret k52 ?_) | (refine XCall.ret k4 ?_)); conv => whnf) | fail
    exact XOut.int rfl
  refine Comp.body (T := tab) (res := [.tmp 2]) tab_ok [] Tryz.func53 rfl (by kernel_rfl) Tryz.ntmps53 rfl (by simp only [List.length_cons, List.length_nil]; decide) (by simp only [lowL, snL]; rfl) ?_; conv => whnf
  repeat' first | ((first | (with_reducible apply XBr.tt) | (with_reducible apply XBr.ff)); conv => whnf) | (with_reducible apply XBr.not) | ((with_reducible apply XBr.beq) <;> (intro h; first | (exfalso; omega) | (conv => whnf))) | ((first | (refine XCall.ret k1 ?_) | ((refine XCall.ret (fdIn_c _ _ _) ?_); rw [q2]) | (refine XCall.ret k2 ?_) | (refine XCall.ret k3 ?_) | (first | refine XCall.ret k51 ?_ | refine XCall.ret k52 ?_) | (refine XCall.ret k4 ?_)); conv => whnf) | fail
  refine Walk.loopGK tab_ok [] [(1, _), (57, _), (58, _)] ⟨rfl, rfl, rfl, trivial⟩ (fun k : Nat => k ≤ s.ways.length ∧ ∀ j, j < k → agnI s j = false) (fun k => [(59, natA k)]) (fun _ => []) (fun k => s.ways.length - k) 0 ⟨Nat.zero_le _, fun j hj => by omega⟩ rfl ⟨rfl, trivial⟩ ?_ (fun _ _ => Nat.le_refl _) ?_
  · intro k _
    refine ⟨by simp, fun z hz => ?_⟩
    simp only [List.cons_append, List.nil_append, List.mem_cons, List.not_mem_nil, or_false] at hz
    rcases hz with rfl | rfl | rfl | rfl <;> first | rfl | exact lowWy _ | exact snCL s
  rintro k ⟨hk, hs⟩
  conv => whnf
  by_cases hlt : k < s.ways.length
  · have hag : agnI s k = ((s.ways.getD k default).1 == (s.ways.getD k default).2.1 || (s.ways.take k).any fun x => leadB x (s.ways.getD k default).1 (s.ways.getD k default).2.1) := rfl
    have hE : agnI s k = true → snE s = 5 := fun h => snE_6 q1 n2 q4 q5 q6 (by unfold agnB; rw [List.any_eq_true]; exact ⟨k, List.mem_range.2 hlt, h⟩)
    have hgo : agnI s k = false → ∀ j, j < k + 1 → agnI s j = false := fun h j hj => by
      by_cases e : j = k
      · subst e; exact h
      · exact hs j (by omega)
    have k6 := contf_wy s.nw (s.ways.take k) 122 [.pim [.int .i64 (s.ways.getD k default).1, .int .i64 (s.ways.getD k default).2.1, .int .i64 (s.ways.getD k default).2.2]] (fun x => leadB x (s.ways.getD k default).1 (s.ways.getD k default).2.1) rfl (by rw [List.length_take]; omega) fun x _ => chk4_c x _
    generalize hany : (s.ways.take k).any (fun x => leadB x (s.ways.getD k default).1 (s.ways.getD k default).2.1) = r at k6 hag
    have hsl : List.take ((k : Int) - 0).toNat (List.drop (Int.toNat 0) (s.ways.map wyA)) = (s.ways.take k).map wyA := by
      rw [show ((k : Int) - 0).toNat = k by omega, show Int.toNat 0 = 0 from rfl, List.drop_zero, List.map_take]
    repeat' first | ((first | (with_reducible apply XBr.tt) | (with_reducible apply XBr.ff)); conv => whnf) | ((with_reducible apply XBr.dec) <;> (intro h; first | (exfalso; omega) | ((try simp only [List.length_map] at h); first | (exfalso; omega) | (conv => whnf)))) | ((with_reducible apply XBr.beq) <;> (intro h; first | (exfalso; omega) | (conv => whnf))) | ((with_reducible refine XInt.i64 (by omega) (by omega) ?_); conv => whnf) | ((with_reducible refine XHold.mk ?_ ?_); (first | omega | rfl | decide | exact ⟨rfl, by decide, rfl⟩ | exact wideI _ | exact widePr _ | exact wideSk _ | (unfold Room; constructor <;> ((try simp) <;> omega)) | exact ⟨rfl, by simp only [List.length_map], by unfold Room; constructor <;> ((try simp) <;> omega)⟩ | exact ⟨by omega, by omega, by unfold Room; constructor <;> ((try simp) <;> omega)⟩); conv => whnf) | ((first | ((with_reducible refine XIx.nat ?_ ?_ ?_); omega; (intro _; rfl)) | ((with_reducible refine XArr.ptr ?_ ?_ ?_); omega; omega)); conv => whnf) | (rw [hsl]; (refine XCall.lend k6 (.cons (.low (lowWy _)) (.cons (Froz.fn (.cons (Froz.ptr rfl (wyOne _) (.low rfl)) .nil)) .nil)) rfl ?_); conv => whnf) | ((with_reducible apply XBr.mk') <;> (intro h; conv => whnf)) | fail
    all_goals first
      | (refine XOut.int (hE ?_).symm; rw [hag]; simp_all; done)
      | exact XAgainG.go (k + 1) [.cells (wyA (s.ways.getD k default)).cells] ⟨by omega, hgo (by rw [hag]; simp_all)⟩ (by omega) rfl ⟨rfl, rfl, rfl, rfl, trivial⟩
  obtain rfl : k = s.ways.length := by omega
  have q7 : agnB s = false := by
    unfold agnB
    rw [List.any_eq_false]
    intro i hi
    rw [hs i (List.mem_range.1 hi)]; simp
  rw [snE_7 q1 n2 q4 q5 q6 q7]
  clear hs
  repeat' first | ((with_reducible apply XBr.dec) <;> (intro h; first | (exfalso; omega) | ((try simp only [List.length_map] at h); first | (exfalso; omega) | (conv => whnf)))) | fail
  refine Walk.loopGK tab_ok [] [(1, _), (79, _), (80, _)] ⟨rfl, rfl, rfl, trivial⟩ (fun k : Nat => k ≤ s.truths.length ∧ ∀ j, j < k → trE s (s.truths.getD j default) = 0) (fun k => [(81, natA k)]) (fun _ => []) (fun k => s.truths.length - k) 0 ⟨Nat.zero_le _, fun j hj => by omega⟩ rfl ⟨rfl, trivial⟩ ?_ (fun _ _ => Nat.le_refl _) ?_
  · intro k _
    refine ⟨by simp, fun z hz => ?_⟩
    simp only [List.cons_append, List.nil_append, List.mem_cons, List.not_mem_nil, or_false] at hz
    rcases hz with rfl | rfl | rfl | rfl <;> first | rfl | exact lowTr _ | exact snCL s
  rintro k ⟨hk, hs⟩
  conv => whnf
  by_cases hlt : k < s.truths.length
  · have hmem : s.truths.getD k default ∈ s.truths := getD_mem hlt
    have htl := hb.tl _ hmem
    have hE : trE s (s.truths.getD k default) ≠ 0 → firstE (s.truths.map (trE s)) = trE s (s.truths.getD k default) := firstE_at hlt hs
    have hgo : trE s (s.truths.getD k default) = 0 → ∀ j, j < k + 1 → trE s (s.truths.getD j default) = 0 := fun h j hj => by
      by_cases e : j = k
      · subst e; exact h
      · exact hs j (by omega)
    have hsl := hb.sl _ hmem
    have e4 : (((s.truths.getD k default).2.map spsA).length : Int) = (s.truths.getD k default).2.length := by rw [List.length_map]
    repeat' first | ((with_reducible apply XBr.dec) <;> (intro h; first | (exfalso; omega) | ((try simp only [List.length_map] at h); first | (exfalso; omega) | (conv => whnf)))) | (((with_reducible refine XIx.nat ?_ ?_ ?_); omega; (intro _; rfl)); conv => whnf) | fail
    refine Walk.loopK tab_ok [] [(1, _), (79, _), (80, _), (81, _), (86, _), (87, _)] ⟨rfl, rfl, rfl, rfl, rfl, rfl, trivial⟩ (fun j : Nat => j ≤ (s.truths.getD k default).2.length ∧ ∀ i, i < j → spE s.last none ((s.truths.getD k default).2.getD i default).2 = 0) (fun j => [(88, natA j)]) (fun _ => [.cells [.sl (s.truths.getD k default).1 ((s.truths.getD k default).2.map spsA)]]) (fun j => (s.truths.getD k default).2.length - j) 0 ⟨Nat.zero_le _, fun j hj => by omega⟩ rfl ⟨rfl, trivial⟩ ?_
    rintro j ⟨hj, hjs⟩
    conv => whnf
    by_cases hlt2 : j < (s.truths.getD k default).2.length
    · have hmem2 : (s.truths.getD k default).2.getD j default ∈ (s.truths.getD k default).2 := getD_mem hlt2
      have hc := spans_c s ((s.truths.getD k default).2.getD j default).1 ((s.truths.getD k default).2.getD j default).2 (by have := hsl _ hmem2; omega) (by rw [inZ_iff] at q2; omega)
      have hE2 : spE s.last none ((s.truths.getD k default).2.getD j default).2 ≠ 0 → trE s (s.truths.getD k default) = spE s.last none ((s.truths.getD k default).2.getD j default).2 := fun h => firstE_at (f := fun r : Sps => spE s.last none r.2) hlt2 hjs h
      have hgo2 : spE s.last none ((s.truths.getD k default).2.getD j default).2 = 0 → ∀ i, i < j + 1 → spE s.last none ((s.truths.getD k default).2.getD i default).2 = 0 := fun h i hi => by
        by_cases e : i = j
        · subst e; exact h
        · exact hjs i (by omega)
      generalize spE s.last none ((s.truths.getD k default).2.getD j default).2 = v at hc hE2 hgo2
      repeat' first | ((with_reducible apply XBr.dec) <;> (intro h; first | (exfalso; omega) | ((try simp only [List.length_map] at h); first | (exfalso; omega) | (conv => whnf)))) | ((with_reducible apply XBr.bne) <;> (intro h; first | (exfalso; omega) | (conv => whnf))) | ((first | (with_reducible refine XInt.i64 (by omega) (by omega) ?_) | ((with_reducible refine XIx.nat ?_ ?_ ?_); omega; (intro _; rfl)) | (refine XCall.ret hc ?_)); conv => whnf) | fail
      · exact XOut.int (((hE (by rw [hE2 (by assumption)]; assumption)).trans (hE2 (by assumption))).symm)
      · exact XAgain.go (j + 1) ⟨by omega, hgo2 (by assumption)⟩ (by omega) rfl ⟨rfl, rfl, rfl, rfl, rfl, rfl, rfl, trivial⟩
    obtain rfl : j = (s.truths.getD k default).2.length := by omega
    repeat' first | ((with_reducible apply XBr.dec) <;> (intro h; first | (exfalso; omega) | ((try simp only [List.length_map] at h); first | (exfalso; omega) | (conv => whnf)))) | ((with_reducible refine XInt.i64 (by omega) (by omega) ?_); conv => whnf) | fail
    exact XAgainG.go (k + 1) [.cells (trA (s.truths.getD k default)).cells] ⟨by omega, hgo (firstE_none (f := fun r : Sps => spE s.last none r.2) hjs)⟩ (by omega) rfl ⟨rfl, rfl, rfl, rfl, trivial⟩
  obtain rfl : k = s.truths.length := by omega
  repeat' first | ((with_reducible apply XBr.dec) <;> (intro h; first | (exfalso; omega) | ((try simp only [List.length_map] at h); first | (exfalso; omega) | (conv => whnf)))) | fail
  exact XOut.int (firstE_none hs).symm
end GA
end

section
namespace GA
open Go Go.RowKit Go.Proofs
set_option maxRecDepth 8000
set_option linter.unusedVariables false
set_option linter.unusedSimpArgs false

def sgs (l : List (Int × Int)) : List AV := l.map sgA
theorem sgs_low {n : Nat} (l : List (Int × Int)) : lowL n (sgs l) = true := lowSg l
theorem sgs_len (l : List (Int × Int)) : (sgs l).length = l.length := List.length_map _
def esF (s : Sn) (p : Nat) : List (Int × AV) := (List.range p).map fun q : Nat => ((q : Int), AV.sl false (sgs (waysL s q)))
theorem esF_succ (s : Sn) (p : Nat) : esF s (p + 1) = esF s p ++ [((p : Int), .sl false (sgs (waysL s p)))] := by unfold esF; rw [List.range_succ, List.map_append]; rfl
theorem esF_keys (s : Sn) (p : Nat) : ∀ x ∈ esF s p, ∃ q : Nat, q < p ∧ x.1 = q := fun x hx => by
  obtain ⟨q, hq, rfl⟩ := List.mem_map.1 hx
  exact ⟨q, List.mem_range.1 hq, rfl⟩
theorem mget_app {n : Int} {fs : List (Int × AV)} : ∀ {es : List (Int × AV)}, (∀ x ∈ es, x.1 ≠ n) → mget n (es ++ fs) = mget n fs
  | [], _ => rfl
  | (m, v) :: l, h => by
    show (if m = n then some v else mget n (l ++ fs)) = _
    rw [if_neg (h _ List.mem_cons_self)]
    exact mget_app fun x hx => h x (List.mem_cons_of_mem _ hx)
theorem mput_app {n : Int} {v : AV} {fs : List (Int × AV)} : ∀ {es : List (Int × AV)}, (∀ x ∈ es, x.1 ≠ n) → mput n v (es ++ fs) = es ++ mput n v fs
  | [], _ => rfl
  | (m, u) :: l, h => by
    show (if m = n then (m, v) :: (l ++ fs) else (m, u) :: mput n v (l ++ fs)) = _
    rw [if_neg (h _ List.mem_cons_self), mput_app fun x hx => h x (List.mem_cons_of_mem _ hx)]; rfl
theorem esF_ne (s : Sn) (p : Nat) : ∀ x ∈ esF s p, x.1 ≠ (p : Int) := fun x hx => by obtain ⟨q, h1, h2⟩ := esF_keys s p x hx; omega
def esW (s : Sn) (p : Nat) (R : List (Int × Int)) : List (Int × AV) := esF s p ++ if R.isEmpty = true then [] else [((p : Int), .gr 2 R.length)]
theorem esW_get (s : Sn) (p : Nat) (R : List (Int × Int)) : mget (p : Int) (esW s p R) = if (sgs R).isEmpty = true then none else some (.gr 2 (sgs R).length) := by
  unfold esW
  rw [mget_app (esF_ne s p), sgs_len, show (sgs R).isEmpty = R.isEmpty by cases R <;> rfl]
  by_cases h : R.isEmpty = true
  · rw [if_pos h, if_pos h]; rfl
  · rw [if_neg h, if_neg h]
    show (if (p : Int) = p then _ else _) = _
    rw [if_pos rfl]
theorem esW_put (s : Sn) (p : Nat) (R : List (Int × Int)) (x : Int × Int) : mput (p : Int) (.gr 2 (R.length + 1)) (esW s p R) = esW s p (R ++ [x]) := by
  unfold esW
  rw [mput_app (esF_ne s p), if_neg (show ¬ (R ++ [x]).isEmpty = true by simp), List.length_append]
  by_cases h : R.isEmpty = true
  · rw [if_pos h]; rfl
  · rw [if_neg h]
    show _ ++ (if (p : Int) = p then _ else _) = _
    rw [if_pos rfl]; rfl
theorem esW_nil (s : Sn) (p : Nat) : esW s p [] = esF s p := by unfold esW; rw [if_pos (show ([] : List (Int × Int)).isEmpty = true from rfl), List.append_nil]
theorem esF_low {n : Nat} (s : Sn) (p : Nat) : lowL n ((esF s p).map (·.2)) = true := by
  unfold esF
  rw [List.map_map]
  exact lowL_map (f := fun q : Nat => AV.sl false (sgs (waysL s q))) (fun _ => sgs_low _) _
theorem lowL_app {n : Nat} : ∀ {a b : List AV}, lowL n a = true → lowL n b = true → lowL n (a ++ b) = true
  | [], _, _, h => h
  | x :: l, b, h1, h2 => by
    have h1' : (x.low n && lowL n l) = true := h1
    rw [Bool.and_eq_true] at h1'
    show (x.low n && lowL n (l ++ b)) = true
    rw [h1'.1, lowL_app h1'.2 h2]; rfl
theorem esW_low (s : Sn) (p : Nat) (R : List (Int × Int)) : lowL 3 ((esW s p R).map (·.2)) = true := by
  unfold esW
  rw [List.map_append]
  refine lowL_app (esF_low s p) ?_
  split <;> rfl
theorem esF_get (s : Sn) : ∀ (n p : Nat), p < n → mget (p : Int) (esF s n) = some (.sl false (sgs (waysL s p)))
  | 0, p, h => by omega
  | n + 1, p, h => by
    rw [esF_succ]
    by_cases e : p < n
    · have ih := esF_get s n p e
      clear h
      generalize esF s n = es at ih
      induction es with
      | nil => cases ih
      | cons x l ihl =>
        obtain ⟨m, v⟩ := x
        have ih' : (if m = (p : Int) then some v else mget p l) = _ := ih
        show (if m = (p : Int) then some v else mget p (l ++ _)) = _
        by_cases hm : m = (p : Int)
        · rw [if_pos hm] at ih' ⊢; exact ih'
        · rw [if_neg hm] at ih' ⊢; exact ihl ih'
    · have e : p = n := by omega
      subst e
      rw [mget_app (esF_ne s p)]
      show (if (p : Int) = p then _ else _) = _
      rw [if_pos rfl]
theorem waysQ_self {s : Sn} {p : Nat} : ((p : Int), (1 : Int)) ∈ waysQ s p p := by unfold waysQ; rw [if_pos rfl]; simp
theorem waysK_mem {s : Sn} {p : Nat} {t : Int × Int} : ∀ {k : Nat}, t ∈ waysK s p k ↔ ∃ q, q < k ∧ t ∈ waysQ s p q
  | 0 => by simp [waysK]
  | k + 1 => by
    rw [waysK, List.mem_append, waysK_mem]
    constructor
    · rintro (⟨q, h1, h2⟩ | h)
      · exact ⟨q, by omega, h2⟩
      · exact ⟨k, by omega, h⟩
    · rintro ⟨q, h1, h2⟩
      by_cases e : q = k
      · subst e; exact .inr h2
      · exact .inl ⟨q, by omega, h2⟩
theorem waysL_ne {s : Sn} {p : Nat} (h : (p : Int) < s.places) : waysL s p ≠ [] := fun e => by
  have : ((p : Int), (1 : Int)) ∈ waysL s p := waysK_mem.2 ⟨p, by omega, waysQ_self⟩
  rw [e] at this; cases this
def dryC (s : Sn) : List AV := nvs 305 (dryG s.truths.length (dryV s s.truths.length 0 0))
def keyF (s : Sn) : List Int := (esF s s.places.toNat).map (·.1)
def dskFC (s : Sn) : List AV := snC s ++ (dryC s ++ [.im (keyF s) ((esF s s.places.toNat).map (·.2))])
def dskFA (s : Sn) : AV := .pim (dskFC s)
theorem dskFL {n : Nat} (s : Sn) : (dskFA s).low n = true := lowL_app (snCL s) (lowL_app (nvs_low _ _) (by
  show (lowL n ((esF s s.places.toNat).map (·.2)) && true) = true
  rw [esF_low]; rfl))
end GA
end

section
namespace GA
open Go Go.RowKit Go.Proofs
set_option maxRecDepth 8000
set_option linter.unusedVariables false
set_option linter.unusedSimpArgs false

theorem foldl_congr' {α β : Type} {f g : β → α → β} : ∀ {l : List α} {b : β}, (∀ b, ∀ x ∈ l, f b x = g b x) → l.foldl f b = l.foldl g b
  | [], _, _ => rfl
  | x :: l, b, h => by rw [List.foldl_cons, List.foldl_cons, h b x List.mem_cons_self]; exact foldl_congr' fun b y hy => h b y (List.mem_cons_of_mem _ hy)
theorem minL_congr {f g : Sta → Int} {l : List Sta} (h : ∀ x ∈ l, f x = g x) : minL f l = minL g l := by
  cases l with
  | nil => rfl
  | cons x l =>
    show l.foldl (fun n y => min n (f y)) (f x) = l.foldl (fun n y => min n (g y)) (g x)
    rw [h x List.mem_cons_self]
    exact foldl_congr' fun b y hy => by rw [h y (List.mem_cons_of_mem _ hy)]
theorem bestZ_congr {s : Sn} {f g : Sta → Int} {x : Sta} (h : ∀ t ∈ stepsS s x, ∀ y ∈ afterS s x t, f y = g y) : bestZ s f x = bestZ s g x := by
  unfold bestZ
  split
  · refine foldl_congr' fun b t ht => ?_
    unfold gainZ
    rw [minL_congr (h t ht)]
  · rfl
theorem afterS_mem {s : Sn} {x y : Sta} {t : Int × Int} (h : y ∈ afterS s x t) : y.p = t.1.toNat ∧ (y.m : Int) = x.m + t.2 ∧ (y.m : Int) ≤ s.last ∧ t ∈ waysL s x.p ∧ y.l ∈ partsL s t.1.toNat x.l ∧ safeB s y = true ∧ safeB s x = true := by
  unfold afterS at h
  split at h
  · rename_i hc
    obtain ⟨h1, h2, h3, h4⟩ := hc
    have hy := List.all_eq_true.1 h4 y h
    unfold outS at h
    obtain ⟨l, hl, rfl⟩ := List.mem_map.1 h
    rw [inZ_iff] at h2
    exact ⟨rfl, by show (((x.m + t.2).toNat : Nat) : Int) = _; omega, by show (((x.m + t.2).toNat : Nat) : Int) ≤ _; omega, List.contains_iff_mem.1 h3, hl, hy, h1⟩
  · cases h
theorem waysL_pos {s : Sn} (ok : SnOk s) {p : Nat} {t : Int × Int} (h : t ∈ waysL s p) : 1 ≤ t.2 ∧ t.2 ≤ 20 ∧ 0 ≤ t.1 ∧ t.1 < s.places := by
  obtain ⟨q, hq, hm⟩ := waysK_mem.1 h
  have p1 := ok.p1
  unfold waysQ at hm
  rcases List.mem_append.1 hm with h1 | h1
  · split at h1
    · rename_i e
      rw [List.mem_singleton] at h1
      subst h1
      dsimp only
      omega
    · cases h1
  · obtain ⟨w, hw, rfl⟩ := List.mem_map.1 h1
    have := ok.wm w (List.mem_filter.1 hw).1
    dsimp only
    omega
theorem afterS_later {s : Sn} (ok : SnOk s) {x y : Sta} {t : Int × Int} (h : y ∈ afterS s x t) : x.m < y.m ∧ (y.m : Int) ≤ s.last := by
  obtain ⟨-, h2, h3, h4, -⟩ := afterS_mem h
  have := waysL_pos ok h4
  omega
theorem worthK_eq {s : Sn} (ok : SnOk s) : ∀ (d k k' : Nat) (x : Sta), (s.last + 1 - x.m).toNat ≤ d → (s.last + 1 - x.m).toNat ≤ k → (s.last + 1 - x.m).toNat ≤ k' → (x.m : Int) ≤ s.last → worthK s k x = worthK s k' x
  | 0, k, k', x, h, _, _, hx => by omega
  | d + 1, k, k', x, h, h1, h2, hx => by
    obtain ⟨k, rfl⟩ : ∃ j, k = j + 1 := ⟨k - 1, by omega⟩
    obtain ⟨k', rfl⟩ : ∃ j, k' = j + 1 := ⟨k' - 1, by omega⟩
    rw [worthK, worthK]
    refine bestZ_congr fun t _ y hy => ?_
    obtain ⟨h3, h4⟩ := afterS_later ok hy
    exact worthK_eq ok d k k' y (by omega) (by omega) (by omega) h4
theorem worthZ_eq {s : Sn} (ok : SnOk s) {x : Sta} (hx : (x.m : Int) ≤ s.last) : worthZ s x = bestZ s (worthZ s) x := by
  obtain ⟨k, hk⟩ : ∃ k, (s.last + 1 - x.m).toNat = k + 1 := ⟨(s.last - x.m).toNat, by omega⟩
  unfold worthZ
  rw [hk, worthK]
  refine bestZ_congr fun t _ y hy => ?_
  obtain ⟨h3, h4⟩ := afterS_later ok hy
  exact worthK_eq ok _ _ _ y (Nat.le_refl _) (by omega) (by omega) h4
theorem foldl_min_prop {α : Type} {f : α → Int} : ∀ {l : List α} {b : Int}, (l.foldl (fun n t => min n (f t)) b = b ∨ ∃ t ∈ l, l.foldl (fun n t => min n (f t)) b = f t) ∧ l.foldl (fun n t => min n (f t)) b ≤ b ∧ ∀ t ∈ l, l.foldl (fun n t => min n (f t)) b ≤ f t
  | [], b => ⟨.inl rfl, Int.le_refl _, fun t ht => by cases ht⟩
  | x :: l, b => by
    obtain ⟨h1, h2, h3⟩ := foldl_min_prop (f := f) (l := l) (b := min b (f x))
    rw [List.foldl_cons]
    refine ⟨?_, by omega, fun t ht => ?_⟩
    · rcases h1 with h1 | ⟨t, ht, h1⟩
      · by_cases h : b ≤ f x
        · left; rw [h1]; omega
        · right; exact ⟨x, List.mem_cons_self, by rw [h1]; omega⟩
      · right; exact ⟨t, List.mem_cons_of_mem _ ht, h1⟩
    · rcases List.mem_cons.1 ht with rfl | ht
      · omega
      · exact h3 t ht
theorem minL_mem {f : Sta → Int} {l : List Sta} (h : l ≠ []) : (∃ y ∈ l, minL f l = f y) ∧ ∀ y ∈ l, minL f l ≤ f y := by
  cases l with
  | nil => exact absurd rfl h
  | cons x l =>
    obtain ⟨h1, h2, h3⟩ := foldl_min_prop (f := f) (l := l) (b := f x)
    refine ⟨?_, fun y hy => ?_⟩
    · rcases h1 with h1 | ⟨t, ht, h1⟩
      · exact ⟨x, List.mem_cons_self, h1⟩
      · exact ⟨t, List.mem_cons_of_mem _ ht, h1⟩
    · rcases List.mem_cons.1 hy with rfl | hy
      · exact h2
      · exact h3 y hy
theorem foldl_max_prop {α : Type} {f : α → Int} : ∀ {l : List α} {b : Int}, (l.foldl (fun n t => max n (f t)) b = b ∨ ∃ t ∈ l, l.foldl (fun n t => max n (f t)) b = f t) ∧ b ≤ l.foldl (fun n t => max n (f t)) b ∧ ∀ t ∈ l, f t ≤ l.foldl (fun n t => max n (f t)) b
  | [], b => ⟨.inl rfl, Int.le_refl _, fun t ht => by cases ht⟩
  | x :: l, b => by
    obtain ⟨h1, h2, h3⟩ := foldl_max_prop (f := f) (l := l) (b := max b (f x))
    rw [List.foldl_cons]
    refine ⟨?_, by omega, fun t ht => ?_⟩
    · rcases h1 with h1 | ⟨t, ht, h1⟩
      · by_cases h : f x ≤ b
        · left; rw [h1]; omega
        · right; exact ⟨x, List.mem_cons_self, by rw [h1]; omega⟩
      · right; exact ⟨t, List.mem_cons_of_mem _ ht, h1⟩
    · rcases List.mem_cons.1 ht with rfl | ht
      · omega
      · exact h3 t ht
theorem stepsS_mem {s : Sn} {x : Sta} {t : Int × Int} : t ∈ stepsS s x ↔ afterS s x t ≠ [] := by
  unfold stepsS
  rw [List.mem_filter]
  constructor
  · rintro ⟨-, h⟩ e
    rw [e] at h; cases h
  · intro h
    refine ⟨?_, by cases e : afterS s x t with | nil => exact absurd e h | cons _ _ => rfl⟩
    obtain ⟨y, hy⟩ := List.exists_mem_of_ne_nil _ h
    exact (afterS_mem hy).2.2.2.1
end GA
end
