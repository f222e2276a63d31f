/- Part 8 of a proof: Abs39, D55, D50, D64, D15, D66, D65, B8, D67. -/
import Derived.Test.YtfpggfdojnnaiaaP7
section
namespace GA
open Go Go.RowKit
set_option linter.unusedVariables false
section
variable {P : Program} {N : Nat} {ρ : Option Nat} {H : List Blk} {σ : St} {D : List Nat} {Q : Post} {E : Env} {h : Nat → Option Obj} {β : Nat → Value} {a : Act} {w : World}

theorem keep_stands (H1 l : List Blk) (L : List (Nat × AV)) (hlow : ∀ x ∈ H1, x.low H1.length = true) (hs : SubF P H1.length (H1 ++ l) L σ) (s : Stands P E N h β D σ (H1 ++ l) a w) :
    ∃ h', Ext h β (H1 ++ l) h' β (H1 ++ l.map fun _ => .dead) ∧ Stands P E N h' β D (stX L) (H1 ++ l.map fun _ => .dead) a w := by
  have hd : ∀ (l : List Blk) (i : Nat) x, (l.map fun _ => Blk.dead)[i]? = some x → x = .dead := fun l i x e => by
    rw [List.getElem?_map] at e
    cases hx : l[i]? with
    | none => rw [hx] at e; cases e
    | some y => rw [hx] at e; cases e; rfl
  have X : Ext h β (H1 ++ l) (hallN H1.length h β (H1 ++ l) w) β (H1 ++ l.map fun _ => .dead) := by
    refine ⟨fun b o e => hallN_imm s.sr e, by simp, fun i x x' e e' => ?_⟩
    by_cases hi : i < H1.length
    · rw [List.getElem?_append_left hi] at e e'
      rw [e] at e'; cases e'; exact Blk.to_refl _ _ _
    · rw [List.getElem?_append_right (by omega)] at e'
      have := hd _ _ _ e'
      subst this
      cases x <;> first | rfl | trivial | exact .inl rfl
  have s1 := s.sr.allN hlow
  have X1 : Ext (hallN H1.length h β (H1 ++ l) w) β H1 (hallN H1.length h β (H1 ++ l) w) β (H1 ++ l.map fun _ => .dead) :=
    ⟨fun _ _ e => e, by simp, fun i x x' e e' => by rw [List.getElem?_append_left (List.getElem?_eq_some_iff.1 e).1, e] at e'; cases e'; exact Blk.to_refl _ _ _⟩
  have hbo : ∀ i b, blkOf β (H1 ++ l.map fun _ => .dead) i = some b → blkOf β H1 i = some b := fun i b e => by
    have hlt := (blkOf_some e).1
    by_cases hi : i < H1.length
    · rw [← e]; exact (blkOf_congr rfl (List.getElem?_append_left hi)).symm
    · exfalso
      unfold blkOf at e
      cases hx : (H1 ++ l.map fun _ => Blk.dead)[i]? with
      | none => rw [hx] at e; cases e
      | some x =>
        rw [hx] at e
        rw [List.getElem?_append_right (by omega)] at hx
        have := hd _ _ _ hx
        subst this; cases e
  have s2 : SR P E (hallN H1.length h β (H1 ++ l) w) β (H1 ++ l.map fun _ => .dead) w := by
    refine s1.grown X1 s1.env s1.imm (fun i x e => ?_) (fun i j b e1 e2 => s1.own i j b (hbo _ _ e1) (hbo _ _ e2)) (fun i b e => s1.fresh i b (hbo _ _ e)) s1.frm (fun i b e => s1.fro i b (hbo _ _ e))
    by_cases hi : i < H1.length
    · rw [List.getElem?_append_left hi] at e; exact .inl ⟨e, rfl, fun _ _ => rfl⟩
    · rw [List.getElem?_append_right (by omega)] at e
      have := hd _ _ _ e
      subst this; exact .inr trivial
  refine ⟨_, X, ⟨s2, fun t r e => ?_, s.size, s.df.ext X⟩⟩
  obtain ⟨r0, e1, e2⟩ := stX_subF hs t r e
  obtain ⟨v, h1, h2⟩ := s.fits t r0 e1
  rcases e2 with e2 | ⟨rfl, e2⟩
  · exact ⟨v, h1, e2 E h β w s.sr v h2 _⟩
  · refine ⟨v, h1, X1.rep (Rep.cut (l := l) ?_ e2)⟩
    have XA : Ext h β (H1 ++ l) (hallN H1.length h β (H1 ++ l) w) β (H1 ++ l) := ⟨fun b o e => hallN_imm s.sr e, Nat.le_refl _, fun i x x' e e' => by rw [e] at e'; cases e'; exact Blk.to_refl _ _ _⟩
    exact XA.rep h2
structure XKeepE (P : Program) (σ : St) (H : List Blk) (k : St → List Blk → Prop) : Prop where
  o : ∃ (H1 l : List Blk) (L : List (Nat × AV)), H1 ++ l = H ∧ (∀ x ∈ H1, x.low H1.length = true) ∧ SubF P H1.length H L σ ∧ k (stX L) (H1 ++ l.map fun _ => .dead)
theorem XKeepE.go {k : St → List Blk → Prop} (H1 l : List Blk) (L : List (Nat × AV)) (hH : H1 ++ l = H) (hlow : ∀ x ∈ H1, x.low H1.length = true) (hs : SubF P H1.length H L σ) (x : k (stX L) (H1 ++ l.map fun _ => .dead)) : XKeepE P σ H k := ⟨H1, l, L, hH, hlow, hs, x⟩
def keepQ (P : Program) (Q : Post) : Post
  | .exit id, D, σ, H => XKeepE P σ H (Q (.exit id) D)
  | e, D, σ, H => Q e D σ H
theorem Walk.thenKeep {c : Code} (x : Walk P N ρ c (keepQ P Q) D σ H) : Walk P N ρ c Q D σ H := by
  constructor
  intro E h β a w s
  refine wpIn_mono (x.o E h β a w s) fun e a' w' hc => ?_
  obtain ⟨D', σ', H', h', β', q, X, s'⟩ := hc
  cases e with
  | exit id =>
    obtain ⟨H1, l, L, rfl, hlow, hs, q⟩ := q.o
    obtain ⟨h'', X1, s1⟩ := keep_stands H1 l L hlow hs s'
    exact ⟨D', _, _, h'', β', q, X.trans X1, s1⟩
  | _ => exact ⟨D', σ', H', h', β', q, X, s'⟩
theorem hallN_zero {h : Nat → Option Obj} {β : Nat → Value} {H : List Blk} {w : World} : hallN 0 h β H w = hall h β H w := by
  funext b
  by_cases hx : ∃ i, blkOf β H i = some b
  · obtain ⟨i, hi⟩ := hx
    rw [hallN_own (Nat.zero_le i) hi]
    unfold hall; rw [if_pos ⟨i, hi⟩]
  · unfold hallN hall
    rw [if_neg hx, if_neg (fun ⟨i, _, h⟩ => hx ⟨i, h⟩)]
theorem Froz.n0 {r r' : AV} (f : Froz P H r r') : FrozN P 0 H r r' := fun E h β w s v hr H1 => by
  rw [hallN_zero]
  exact (f E h β w s v hr).none
theorem XKeep.all {r r' : AV} (f : Froz P H r r') : XKeep P 0 H r r' := .inl f.n0
theorem Walk.truncCell {c : Code} (j o i m n : Nat) {cs : List AV} {te : TypeId} {nl : Bool} {els : List AV} (hj : lget H j = some (.cells cs)) (hc : lget cs o = some (.os i m 0 n)) (hi : lget H i = some (.grow te nl els)) (hm : els.length = m) (m0 : 0 < m)
    (x : Walk P N ρ c Q D σ ((H.set i .dead).set j (.cells (cs.set o (.gr H.length n))) ++ [.grow te false (els.take n)])) : Walk P N ρ c Q D σ H := by
  constructor
  intro E h β a w s
  rw [lget_eq] at hj hc hi
  have hlt := (List.getElem?_eq_some_iff.1 hj).1
  have hlo := (List.getElem?_eq_some_iff.1 hc).1
  have hij : i ≠ j := fun e => by subst e; rw [hi] at hj; cases hj
  obtain ⟨b, c', t, h1, h2, h3, h4, us, h5, h6⟩ := s.sr.blk j _ hj
  obtain ⟨β1, s1, X1, hr⟩ := trunc_sr s.sr hi hm m0 (h6 o _ hc)
  have hlen : (H.set i .dead).length = H.length := List.length_set
  have hj1 : (H.set i .dead ++ [Blk.grow te false (els.take n)])[j]? = some (.cells cs) := by
    rw [List.getElem?_append_left (by omega), List.getElem?_set_ne hij]; exact hj
  have hβ : β1 j = β j := by
    rcases X1.to j _ _ hj hj1 with h | ⟨_, _, h⟩
    · cases h
    · exact h
  obtain ⟨s2, X2⟩ := s1.modify (β' := β1) (w' := w) (x' := .cells (cs.set o (.gr H.length n))) hj1 (fun _ _ => rfl) (.inr ⟨_, rfl, rfl⟩) s1.env (fun _ _ _ => rfl) (fun b e => .inl (by unfold blkOf; rw [hj1]; exact e)) (fun X => by
    refine ⟨b, c', t, hβ.trans h1, h2, by rw [List.length_set]; exact h3, fun y hy => ?_, us, fun i y e => ?_, fun i y e => ?_⟩
    · rcases List.mem_or_eq_of_mem_set hy with hy | rfl
      · exact h4 y hy
      · rfl
    · by_cases hio : o = i
      · subst hio; exact h5 o _ hc
      · rw [List.getElem?_set_ne hio] at e; exact h5 i y e
    · by_cases hio : o = i
      · subst hio
        rw [List.getElem?_set_self hlo] at e; cases e
        exact X.rep hr
      · rw [List.getElem?_set_ne hio] at e; exact X.rep (X1.rep (h6 i y e)))
  rw [List.set_append_left _ _ (by omega)] at s2 X2
  exact wpIn_mono (x.o E h _ a w ⟨s2, fun u r e => let ⟨v, h1, h2⟩ := s.fits u r e; ⟨v, h1, (X1.trans X2).rep h2⟩, s.size, s.df.ext (X1.trans X2)⟩) fun _ _ _ => Conc.ext (X1.trans X2)
end
end GA
end

section
namespace GA
open Go Go.RowKit Go.Proofs
set_option pp.deepTerms true
set_option maxRecDepth 8000
set_option linter.unusedVariables false
set_option linter.unusedSimpArgs false

def bedG (b : Bd) (i n : Nat) : List AV := [.int .i64 b.room, .int .i64 b.first, .int .i64 b.unsure, .sl b.nlm (b.months.map moA), .gr i n]
end GA
end

section
namespace GA
open Go Go.RowKit Go.Proofs
set_option maxRecDepth 8000
set_option linter.unusedVariables false
set_option linter.unusedSimpArgs false

def addS (b : Bd) (m : Nat) (n : Nat) : Bd := { b with nls := false, surveys := b.surveys ++ [⟨m, n, n⟩] }
theorem addS_same (b : Bd) (m n : Nat) : SameB b (addS b m n) := ⟨rfl, rfl, rfl, rfl⟩
theorem addS_back (b : Bd) (m n : Nat) : SameB (addS b m n) b := ⟨rfl, rfl, rfl, rfl⟩
theorem addS_ok {b : Bd} (ok : BedOk b) (m n : Nat) : BedOk (addS b m n) := ⟨ok.r1, ok.r2, ok.m1, ok.m2, ok.f1, ok.f2, ok.u1, ok.u2, ok.mo⟩
theorem suB_app (b : Bd) (s : Su) (i : Nat) : (b.surveys ++ [s]).getD i default = if i < b.surveys.length then suB b i else if i = b.surveys.length then s else default := getD_app rfl
theorem addS_ag {b : Bd} {m n i k : Nat} : agB (addS b m n) alwP i k = true ↔ agB b alwP i k = true ∧ (i = m → k = n) := by
  rw [agB_iff, agB_iff]
  have hl : (addS b m n).surveys.length = b.surveys.length + 1 := by show (b.surveys ++ [_]).length = _; rw [List.length_append]; rfl
  have hg : ∀ j, suB (addS b m n) j = if j < b.surveys.length then suB b j else if j = b.surveys.length then ⟨m, n, n⟩ else default := fun j => suB_app b _ j
  constructor
  · intro h
    refine ⟨fun j hj h1 h2 => ?_, fun e => ?_⟩
    · have := h j (by omega)
      rw [hg, if_pos hj] at this
      exact this h1 h2
    · have := h b.surveys.length (by omega)
      rw [hg, if_neg (by omega), if_pos rfl] at this
      have := this (by dsimp only; omega) rfl
      dsimp only at this; omega
  · rintro ⟨h1, h2⟩ j hj h3 h4
    rw [hg] at h3 ⊢
    by_cases h5 : j < b.surveys.length
    · rw [if_pos h5] at h3 ⊢
      exact h1 j h5 h3 h4
    · rw [if_neg h5, if_pos (by omega)] at h3 ⊢
      dsimp only at h3 ⊢
      have := h2 (by omega); omega
theorem addS_none {b : Bd} (ok : BedOk b) {m n : Nat} (hm : m ≤ b.months.length) : noneB (addS b m n) alwP = false ↔ cnB b alwP m n = true := by
  rw [none_iff (addS_ok ok m n), cn_iff ok hm]
  constructor
  · rintro ⟨c, hc⟩
    exact ⟨c, hc.other (addS_back b m n) fun i _ h => (addS_ag.1 h).1, (addS_ag.1 (hc.ag m hm)).2 rfl⟩
  · rintro ⟨c, hc, e⟩
    exact ⟨c, hc.other (addS_same b m n) fun i _ h => addS_ag.2 ⟨h, fun e2 => by rw [e2]; exact e⟩⟩
def cr (b : Bd) : Nat → Nat
  | 0 => ((List.range 121).find? (cnB b alwP 0)).getD 0
  | m + 1 => ((lvL b m (cr b m)).find? (cnB b alwP (m + 1))).getD 0
theorem find_ex {α : Type} {f : α → Bool} {l : List α} {x d : α} (hx : x ∈ l) (hf : f x = true) : (l.find? f).getD d ∈ l ∧ f ((l.find? f).getD d) = true := by
  cases h : l.find? f with
  | none => exact absurd hf (List.find?_eq_none.1 h x hx)
  | some y => exact ⟨List.mem_of_find?_eq_some h, List.find?_some h⟩
theorem cr_cn {b : Bd} (ok : BedOk b) (h : noneB b alwP = false) : ∀ m, m ≤ b.months.length → cnB b alwP m (cr b m) = true
  | 0, _ => by
    obtain ⟨n, h1, h2⟩ := cn_some ok h 0 (Nat.zero_le _)
    exact (find_ex (List.mem_range.2 h1) h2).2
  | m + 1, hm => by
    obtain ⟨k, h1, h2⟩ := cn_next ok (by omega) (cr_cn ok h m (by omega))
    exact (find_ex h1 h2).2
theorem cr_nx {b : Bd} (ok : BedOk b) (h : noneB b alwP = false) {m : Nat} (hm : m < b.months.length) : cr b (m + 1) ∈ lvL b m (cr b m) := by
  obtain ⟨k, h1, h2⟩ := cn_next ok hm (cr_cn ok h m (by omega))
  exact (find_ex h1 h2).1
theorem cn_ag {b : Bd} {p : Nat → Bool} {m n : Nat} (hm : m ≤ b.months.length) (h : cnB b p m n = true) : agB b p m n = true := by
  have hf := cn_ah h
  unfold ahF at hf
  rw [Bool.and_eq_true] at hf
  have hf := hf.2
  cases hk : b.months.length - m with
  | zero => rw [hk, ahB] at hf; rwa [show b.months.length = m by omega] at hf
  | succ k => rw [hk, ahB, Bool.and_eq_true] at hf; have := hf.2; rwa [show b.months.length - (k + 1) = m by omega] at this
theorem cr_crs {b : Bd} (ok : BedOk b) (h : noneB b alwP = false) : Crs b alwP (cr b) := by
  refine ⟨?_, fun m hm => cnB_room (cr_cn ok h m hm), fun m hm => cn_ag hm (cr_cn ok h m hm), fun m hm => cr_nx ok h hm⟩
  have := cr_cn ok h 0 (Nat.zero_le _)
  rw [cnB, Bool.and_eq_true] at this
  exact this.2
def crL (b : Bd) (k : Nat) : List Int := vecF k fun m => (cr b m : Int)
theorem chK_ex2 {b : Bd} {c : List Int} {K : Nat} (h : ∀ m, m < K → fstC b m (c.getD m default) (c.getD (m + 1) default) ≠ none) : ∀ k, k ≤ K → chK b c k ≠ none
  | 0, _ => by rw [chK]; simp
  | k + 1, hk => by
    have ih := chK_ex2 h k (by omega)
    have h2 := h k (by omega)
    rw [chK]
    cases h1 : chK b c k with
    | none => exact absurd h1 ih
    | some l =>
      dsimp only
      cases h3 : fstC b k (c.getD k default) (c.getD (k + 1) default) with
      | none => exact absurd h3 h2
      | some x => simp
theorem crs_agrees {b : Bd} (ok : BedOk b) {c : Nat → Nat} (h : Crs b alwP c) : agrB b (vecF (b.months.length + 1) fun m => (c m : Int)) = true := by
  have hg : ∀ m, m ≤ b.months.length → (vecF (b.months.length + 1) fun m => (c m : Int)).getD m default = (c m : Int) := fun m hm => vecF_get _ (by omega)
  unfold agrB
  rw [Bool.and_eq_true]
  constructor
  · unfold chR
    rw [hg 0 (Nat.zero_le _), if_pos h.st]
    have := chK_ex2 (b := b) (c := vecF (b.months.length + 1) fun m => (c m : Int)) (K := b.months.length) (fun m hm => by
      rw [hg m (by omega), hg (m + 1) (by omega)]
      obtain ⟨sp, st, h1, h2⟩ := (mem_lv ok hm).1 (h.nx m hm)
      exact fstC_ex ok hm h1.1 h1.2.1 h1.2.2.1 h1.2.2.2 h2) b.months.length (Nat.le_refl _)
    cases hx : chK b (vecF (b.months.length + 1) fun m => (c m : Int)) b.months.length with
    | none => exact absurd hx this
    | some l => rfl
  · rw [List.all_eq_true]
    intro m hm
    have := List.mem_range.1 hm
    rw [hg m (by omega), Int.toNat_natCast]
    exact h.ag m (by omega)
end GA
end

section
namespace GA
open Go Go.RowKit Go.Proofs
set_option pp.deepTerms true
set_option maxRecDepth 8000
set_option linter.unusedVariables false
set_option linter.unusedSimpArgs false

theorem amList_g (F : Nat → Bool) : Gives Try.prog 144 [amA F] (.gr 0 (lstF F 121).length) [.grow 3 (lstF F 121).isEmpty (ints (lstF F 121))] := by
  refine Gives.body (T := tab) (res := [.tmp 2]) tab_ok [] Try.func144 rfl (by kernel_rfl) Try.ntmps144 rfl (by simp only [List.length_cons, List.length_nil]; decide) (by simp only [lowL, amL]; rfl) rfl (fun x hx => by simp only [List.mem_cons, List.not_mem_nil, or_false] at hx; subst hx; exact lowI _) ?_; conv => whnf
  repeat' first | ((refine xtk_vec rfl ?_); conv => whnf) | fail
  refine Walk.nilgr 3 3 rfl ?_
  refine Walk.loopK tab_ok [] [(2, _), (6, _)] ⟨rfl, rfl, trivial⟩ (fun n : Nat => n ≤ 121) (fun n => [(3, .gr 0 (lstF F n).length), (7, natA n)]) (fun n => [.grow 3 (lstF F n).isEmpty (ints (lstF F n))]) (fun n => 121 - n) 0 (Nat.zero_le _) rfl ⟨rfl, rfl, trivial⟩ ?_
  intro n hn
  have hs := lstF_succ F n
  have hl := lstF_len F n
  have hl2 : (ints (lstF F n)).length = (lstF F n).length := ints_len _
  generalize hc : F n = s at hs
  conv => whnf
  repeat' first | ((with_reducible apply XBr.dec) <;> (intro h; first | (exfalso; omega) | ((try simp only [List.length_map] at h); first | (exfalso; omega) | (conv => whnf)))) | ((with_reducible refine XInt.i64 (by omega) (by omega) ?_); conv => whnf) | ((with_reducible refine XHold.mk ?_ ?_); (first | omega | rfl | decide | exact ⟨rfl, by decide, rfl⟩ | exact wideI _ | exact widePr _ | exact wideSk _ | (unfold Room; constructor <;> ((try simp) <;> omega)) | exact ⟨rfl, by simp only [List.length_map], by unfold Room; constructor <;> ((try simp) <;> omega)⟩ | exact ⟨by omega, by omega, by unfold Room; constructor <;> ((try simp) <;> omega)⟩); conv => whnf) | (((refine xdrop_vec n (by omega) (by omega) ?_); rw [hc]); conv => whnf) | ((with_reducible apply XBr.mk') <;> (intro h; conv => whnf)) | fail
  all_goals try subst h
  · rw [if_pos rfl] at hs
    refine XAgain.go (n + 1) (by omega) (by omega) ?_ ⟨rfl, rfl, ?_, rfl, trivial⟩
    · rw [hs]
      show [Blk.grow _ (lstF F n ++ [(n : Int)]).isEmpty ((lstF F n ++ [(n : Int)]).map (AV.int .i64))] = _
      rw [isEmpty_app, List.map_append]; rfl
    · show some (AV.gr 0 ((lstF F n).length + 1)) = _
      rw [hs, List.length_append]; rfl
  · rw [if_neg (by simp)] at hs
    exact XAgain.go (n + 1) (by omega) (by omega) (by rw [hs]) ⟨rfl, rfl, by rw [hs]; rfl, rfl, trivial⟩
  · obtain rfl : n = 121 := by omega
    exact XGive.mk' [0] rfl (by decide) ⟨congrArg some (ren_grow _ _ _ _).symm, trivial⟩ rfl
theorem XCall.amList {F : Nat → Bool} {H : List Blk} {k : AV → List Blk → Prop} (hk : k (.gr H.length (lstF F 121).length) (H ++ [.grow 3 (lstF F 121).isEmpty (ints (lstF F 121))])) : XCall Try.prog 144 [amA F] H k := by
  refine XCall.give (amList_g F) ?_
  rw [List.map_cons, ren_grow, List.map_nil]; exact hk
def esT (g : Nat) (b : Bd) : Nat → List (Int × AV)
  | 0 => []
  | j + 1 => mput (b.surveys.getD j default).m (.gr (g + (b.surveys.getD j default).m.toNat) (rowS b (j + 1) (b.surveys.getD j default).m.toNat).length) (esT g b j)
theorem esT_get (g : Nat) (b : Bd) (hm : ∀ s ∈ b.surveys, 0 ≤ s.m) : ∀ j, j ≤ b.surveys.length → ∀ k : Nat, mget (k : Int) (esT g b j) = if (rowS b j k).isEmpty = true then none else some (.gr (g + k) (rowS b j k).length)
  | 0, _, k => rfl
  | j + 1, hj, k => by
    have h0 := hm _ (getD_mem (xs := b.surveys) (i := j) (d := default) (by omega))
    show mget (k : Int) (mput _ _ (esT g b j)) = _
    rw [mget_mput, esT_get g b hm j (by omega) k]
    have hr := rowS_next b j k
    generalize hmm : (b.surveys.getD j default).m = m at h0 hr
    by_cases h : (k : Int) = m
    · have e : m.toNat = k := by omega
      rw [if_pos h, e, hr, if_pos h.symm, if_neg (by simp)]
    · rw [if_neg (fun e => h e.symm)] at hr
      rw [if_neg h, hr]
theorem esT_low (g : Nat) (b : Bd) (hm : ∀ s ∈ b.surveys, 0 ≤ s.m ∧ s.m ≤ 10) : ∀ j, j ≤ b.surveys.length → lowL (g + 11) ((esT g b j).map (·.2)) = true
  | 0, _ => rfl
  | j + 1, hj => by
    have h0 := hm _ (getD_mem (xs := b.surveys) (i := j) (d := default) (by omega))
    refine mput_low _ _ ?_ _ (esT_low g b hm j (by omega))
    simp only [AV.low, decide_eq_true_eq]; omega
theorem mput_keyC (q : Int) (v u : AV) : ∀ {es es' : List (Int × AV)}, es.map (·.1) = es'.map (·.1) → (mput q v es).map (·.1) = (mput q u es').map (·.1)
  | [], [], _ => rfl
  | [], _ :: _, h => by cases h
  | _ :: _, [], h => by cases h
  | (m, x) :: l, (m', x') :: l', h => by
    have h1 : m = m' := (List.cons.inj h).1
    have h2 : l.map (·.1) = l'.map (·.1) := (List.cons.inj h).2
    subst h1
    show ((if m = q then (m, v) :: l else (m, x) :: mput q v l).map (·.1)) = ((if m = q then (m, u) :: l' else (m, x') :: mput q u l').map (·.1))
    split
    · exact congrArg (List.cons m) h2
    · exact congrArg (List.cons m) (mput_keyC q v u h2)
theorem esT_keys (g : Nat) (b : Bd) : ∀ j, (esT g b j).map (·.1) = (esS b j).map (·.1)
  | 0 => rfl
  | j + 1 => mput_keyC _ _ _ (esT_keys g b j)
theorem esT_vals (g : Nat) (b : Bd) (hm : ∀ s ∈ b.surveys, 0 ≤ s.m ∧ s.m ≤ 10) : ∀ j, j ≤ b.surveys.length → ∀ p ∈ esT g b j, 0 ≤ p.1 ∧ p.1 ≤ 10 ∧ p.2 = .gr (g + p.1.toNat) (rowS b j p.1.toNat).length
  | 0, _, p, hp => by cases hp
  | j + 1, hj, p, hp => by
    have h0 := hm _ (getD_mem (xs := b.surveys) (i := j) (d := default) (by omega))
    have hnd : ((esT g b j).map (·.1)).Nodup := by rw [esT_keys]; exact esS_nd b j
    rcases mput_mem hnd p hp with rfl | ⟨h1, h2⟩
    · exact ⟨h0.1, h0.2, rfl⟩
    · obtain ⟨h3, h4, h5⟩ := esT_vals g b hm j (by omega) p h1
      refine ⟨h3, h4, ?_⟩
      rw [h5, rowS_next, if_neg (by omega)]
theorem addS_k {b : Bd} (ok : BdOk b) {m n : Nat} (hm : m ≤ b.months.length) (hn : (n : Int) ≤ b.room) : BdK (addS b m n) := by
  refine ⟨addS_ok ok.toBedOk m n, ?_, fun s hs => ?_⟩
  · show (b.surveys ++ [_]).length ≤ 9
    rw [List.length_append]; have := ok.s1; simp; omega
  · have hs' : s ∈ b.surveys ++ [⟨m, n, n⟩] := hs
    rw [List.mem_append, List.mem_singleton] at hs'
    rcases hs' with h | rfl
    · exact ok.su s h
    · show (0 : Int) ≤ m ∧ (m : Int) ≤ (b.months.length : Int) ∧ (0 : Int) ≤ n ∧ (n : Int) ≤ n ∧ (n : Int) ≤ b.room
      omega
def courseA (b : Bd) (month amount : Int) : AV :=
  if bedE b ≠ 0 then .tup [.sl true [], .int .i64 (bedE b)]
  else if inZ month 0 b.months.length = false then .tup [.sl true [], .int .i64 1]
  else if inZ amount 0 b.room = false then .tup [.sl true [], .int .i64 3]
  else if noneB (addS b month.toNat amount.toNat) alwP = true then .tup [.sl true [], .int .i64 6]
  else .tup [.sl false (ints (crL (addS b month.toNat amount.toNat) (b.months.length + 1))), .int .i64 0]
end GA
end

section
namespace GA
open Go Go.RowKit Go.Proofs
set_option pp.deepTerms true
set_option maxRecDepth 8000
set_option linter.unusedVariables false
set_option linter.unusedSimpArgs false

theorem ruleAs_low {n : Nat} (b : Bd) (l : List Int) : lowL n (ruleAs b l) = true := by
  rw [lowL_iff]; intro x hx
  obtain ⟨i, _, rfl⟩ := vecF_mem.1 hx
  exact lowI _
theorem XIx.vecA {b : Bd} {l : List Int} {n : Int} {k : AV → Prop} (i : Nat) (hn : n = i) (h2 : i < b.months.length) (h : k (.pim [.sl false (ints (ruleRow b l i))])) : XIx (ruleAs b l) n 1 k := by
  subst hn
  have : nth (ruleAs b l) (i : Int) = .sl false (ints (ruleRow b l i)) := by
    unfold nth
    rw [Int.toNat_natCast]; exact vecF_get _ h2
  refine ⟨by omega, by show (i : Int) < ((ruleAs b l).length : Int); unfold ruleAs; rw [vecF_len]; omega, by rw [this]; rfl, ?_⟩
  rw [this]; exact h
theorem ruleA_none {b : Bd} {share : Int} (h : bShareE b share = 0) (hl : flrL b share b.months.length = none) : ruleA b share = .tup [.sl true [], .int .i64 0, .int .i64 6] := by
  unfold ruleA; rw [if_neg (fun h' => h' h), hl]
theorem ruleA_low {b : Bd} {share : Int} {l : List Int} (h : bShareE b share = 0) (hl : flrL b share b.months.length = some l) (hlt : leastR b < l.getD 0 default) : ruleA b share = .tup [.sl true [], .int .i64 0, .int .i64 6] := by
  unfold ruleA; rw [if_neg (fun h' => h' h), hl]; dsimp only; rw [if_pos hlt]
theorem ruleA_some {b : Bd} {share : Int} {l : List Int} (h : bShareE b share = 0) (hl : flrL b share b.months.length = some l) (hlt : ¬ leastR b < l.getD 0 default) : ruleA b share = .tup [.sl false (ruleAs b l), .int .i64 (mnP (smF b l b.months.length) (leastR b).toNat (ruleN b)), .int .i64 0] := by
  unfold ruleA; rw [if_neg (fun h' => h' h), hl]; dsimp only; rw [if_neg hlt]
end GA
end

section
namespace GA
open Go Go.RowKit Go.Proofs
set_option maxRecDepth 8000
set_option linter.unusedVariables false
set_option linter.unusedSimpArgs false

theorem okP_refl {b : Bd} {share : Int} : ∀ {k a : Nat} {xs : List Int}, okP b share k a xs → leL xs xs
  | 0, a, xs, h => by obtain ⟨rfl, -⟩ := h; trivial
  | k + 1, a, [], h => h.elim
  | k + 1, a, x :: xs, h => ⟨h.1, Int.le_refl _, okP_refl h.2.2⟩
theorem okP_next {b : Bd} (ok : BedOk b) {share : Int} {i n : Nat} {plan : List Int} (hi : i < b.months.length) (hl : plan.length = b.months.length) (h : okP b share (b.months.length - i) n (plan.drop i)) {gz : Int} (hg : lieR b i n ≤ gz) :
    0 ≤ plan.getD i default ∧ 0 ≤ gz - plan.getD i default ∧ okP b share (b.months.length - (i + 1)) (gz - plan.getD i default).toNat (plan.drop (i + 1)) := by
  obtain ⟨k, hk⟩ : ∃ k, b.months.length - i = k + 1 := ⟨b.months.length - i - 1, by omega⟩
  rw [hk, drop_next (by omega)] at h
  obtain ⟨h1, h2, h3⟩ := h
  rw [show b.months.length - (k + 1) = i by omega] at h2 h3
  refine ⟨h1, by omega, ?_⟩
  rw [show b.months.length - (i + 1) = k by omega]
  exact okP_mono ok (by omega) h3 (by omega) (okP_refl h3)
theorem most_iff {b : Bd} (ok : BedOk b) {share : Int} (hsh : 0 ≤ share ∧ share ≤ b.room) : valM b share b.months.length (leastR b).toNat ≠ -1 ↔ ∃ l, flrL b share b.months.length = some l ∧ ¬ leastR b < l.getD 0 default := by
  have f1 := ok.f1
  have f2 := ok.f2
  have u1 := ok.u1
  have hlr : leastR b = max 0 (b.first - b.unsure) := rfl
  have hmax := planM_max ok share b.months.length (Nat.le_refl _) (leastR b).toNat
  have hpb := planM_bd ok share b.months.length (Nat.le_refl _) (leastR b).toNat
  have hz := okP_zero ok (share := share) b.months.length (Nat.le_refl _) (leastR b).toNat (by omega)
  have hh : ∀ l : List Int, flrL b share b.months.length = some l → (l.headD 0 ≤ ((leastR b).toNat : Nat) ↔ ¬ leastR b < l.getD 0 default) := fun l hl => by
    have := flrL_len hl
    cases l with
    | nil => simp at this
    | cons x l => show x ≤ _ ↔ ¬ leastR b < x; omega
  constructor
  · intro h
    have hk := (hmax.1 h).1
    obtain ⟨l, h1, h2⟩ := hz.1 (okP_mono ok (Nat.le_refl _) hk (Nat.le_refl _) (leL_of (by rw [List.length_replicate, okP_len hk]) (fun y hy => by rw [List.eq_of_mem_replicate hy]; omega) fun i hi => by
      rw [List.length_replicate] at hi
      have e : (List.replicate b.months.length (0 : Int)).getD i default = 0 := List.eq_of_mem_replicate (getD_mem (by rw [List.length_replicate]; exact hi))
      rw [e]
      exact (hpb.1 _ (getD_mem (by rw [okP_len hk]; exact hi))).1))
    exact ⟨l, h1, (hh l h1).1 h2⟩
  · rintro ⟨l, h1, h2⟩
    exact (hmax.2 _ (hz.2 ⟨l, h1, (hh l h1).2 h2⟩)).1
theorem canL_sorted (b : Bd) (m : Nat) : ∀ j, j + 1 < (canL b m).length → (canL b m).getD j default ≤ (canL b m).getD (j + 1) default := fun j hj => by
  have h : (canL b m).Pairwise (· < ·) := by
    unfold canL lstF
    rw [List.pairwise_map]
    exact (List.pairwise_lt_range.sublist List.filter_sublist).imp fun h => by omega
  have := List.pairwise_iff_getElem.1 h j (j + 1) (by omega) hj (by omega)
  rw [List.getD_eq_getElem?_getD, List.getD_eq_getElem?_getD, List.getElem?_eq_getElem (by omega), List.getElem?_eq_getElem hj]
  exact Int.le_of_lt this
theorem canL_real {b : Bd} (ok : BedOk b) {re : List Int} (hc : Crs b alwP fun m => (re.getD m default).toNat) (hb : ∀ x ∈ re, 0 ≤ x ∧ x ≤ b.room) (hl : re.length = b.months.length + 1) {m : Nat} (hm : m ≤ b.months.length) : re.getD m default ∈ canL b m := by
  have h1 := hb _ (getD_mem (xs := re) (i := m) (d := default) (by omega))
  have r2 := ok.r2
  exact lstF_mem.2 ⟨(re.getD m default).toNat, by omega, (cn_iff ok hm).2 ⟨_, hc, rfl⟩, by omega⟩
theorem course_in {b : Bd} (ok : BedOk b) {m n : Nat} (hm : m ≤ b.months.length) (hn : (n : Int) ≤ b.room) : (canL b m).contains (n : Int) = !noneB (addS b m n) alwP := by
  have r2 := ok.r2
  have h := addS_none ok (n := n) hm
  cases hx : noneB (addS b m n) alwP with
  | false =>
    have := h.1 hx
    rw [Bool.not_false, List.contains_iff_mem]
    exact lstF_mem.2 ⟨n, by omega, this, rfl⟩
  | true =>
    rw [Bool.not_true, ← Bool.not_eq_true, List.contains_iff_mem]
    intro hc
    obtain ⟨i, hi, h2, h3⟩ := lstF_mem.1 hc
    rw [h.2 (by rw [show n = i by omega]; exact h2)] at hx; cases hx
theorem course_ok {b : Bd} (ok : BedOk b) {m n : Nat} (hm : m ≤ b.months.length) (h : noneB (addS b m n) alwP = false) : courE b (crL (addS b m n) (b.months.length + 1)) = 0 → agrB b (crL (addS b m n) (b.months.length + 1)) = true ∧ (crL (addS b m n) (b.months.length + 1)).getD m default = n := fun _ => by
  have hc := cr_crs (addS_ok ok m n) h
  refine ⟨?_, ?_⟩
  · exact crs_agrees ok (hc.other (addS_back b m n) fun i _ h1 => (addS_ag.1 h1).1)
  · have h2 := (addS_ag.1 (hc.ag m hm)).2 rfl
    have h3 : (crL (addS b m n) (b.months.length + 1)).getD m default = (cr (addS b m n) m : Int) := vecF_get _ (by omega)
    rw [h3, h2]
theorem course_cour {b : Bd} (ok : BdOk b) {m n : Nat} (h : noneB (addS b m n) alwP = false) : courE b (crL (addS b m n) (b.months.length + 1)) = 0 := by
  have hc := cr_crs (addS_ok ok.toBedOk m n) h
  refine courE_iff.2 ⟨ok, vecF_len _ _, fun x hx => ?_⟩
  obtain ⟨i, hi, rfl⟩ := vecF_mem.1 hx
  have := hc.rm i (by show i ≤ b.months.length; omega)
  exact ⟨by omega, this⟩
end GA
end

section
namespace GA
open Go Go.RowKit Go.Proofs
set_option pp.deepTerms true
set_option maxRecDepth 8000
set_option linter.unusedVariables false
set_option linter.unusedSimpArgs false

theorem crL_one (b : Bd) {F : Nat → Bool} (hF : F = cnB b alwP 0) (hne : 0 < (lstF F 121).length) : (ints (lstF F 121)).take 1 = ints (crL b 1) := by
  have h1 : (lstF F 121).take 1 = crL b 1 := by
    subst hF
    unfold crL
    rw [vecF_eq]
    show _ = [((cr b 0 : Nat) : Int)]
    unfold cr
    rw [← List.head?_filter]
    unfold lstF at hne ⊢
    cases h : (List.range 121).filter (cnB b alwP 0) with
    | nil => rw [h] at hne; simp at hne
    | cons x l => rfl
  unfold ints
  rw [← h1, List.map_take]
theorem crL_next (b : Bd) (k : Nat) : crL b (k + 1) = crL b k ++ [(cr b k : Int)] := by unfold crL; rw [vecF_succ]
theorem crL_len (b : Bd) (k : Nat) : (crL b k).length = k := vecF_len _ _
theorem crL_get (b : Bd) {k i : Nat} (h : i < k) : (crL b k).getD i default = (cr b i : Int) := vecF_get _ h
theorem XGet.susJ {l : List Su} {n e : Nat} {k : List AV → Prop} (j : Nat) (he : e = j) (h1 : n = l.length) (h2 : j < l.length) (h : k (suA (l.getD j default)).cells) : XGet (sus l) n e k := by
  subst he
  exact XGet.mapF (f := suA) default h1 (by omega) h
theorem XGet.intJ {xs : List Int} {n e : Nat} {k : List AV → Prop} (j : Nat) (he : e = j) (h1 : n = xs.length) (h2 : j < xs.length) (h : k [.int .i64 (xs.getD j default)]) : XGet (ints xs) n e k := by
  subst he
  exact XGet.mapF (f := AV.int .i64) default h1 (by omega) h
theorem keyS_B (b : Bd) : keyS b = (esT 4 b b.surveys.length).map (·.1) := (esT_keys 4 b _).symm
set_option maxHeartbeats 4000000 in
theorem course_c (b : Bd) (hm : b.months.length ≤ 100000) (hs : b.surveys.length ≤ 100000) (hw : b.nls = true → b.surveys = []) (month amount : Int) : Comp Try.prog 68 [bedA b, .int .i64 month, .int .i64 amount] (courseA b month amount) := by
  have hck := bedCheck_c b hm hs
  have ham := bedAmount_c b amount
  have e1 : ((b.months.map moA).length : Int) = b.months.length := by rw [List.length_map]
  have e2 : ((b.surveys.map suA).length : Int) = b.surveys.length := by rw [List.length_map]
  have hinm := bedIn_c month 0 ((b.months.map moA).length : Int)
  have hie : inZ month 0 ((b.months.map moA).length : Int) = inZ month 0 (b.months.length : Int) := by rw [e1]
  rw [hie] at hinm
  unfold courseA
  by_cases hE : bedE b = 0
  · have ok := (bedE_iff b).1 hE
    rw [hE] at hck
    rw [if_neg (fun h => h hE)]
    cases hi1 : inZ month 0 (b.months.length : Int) with
    | false =>
      rw [hi1] at hinm
      rw [if_pos rfl]
      have hnl : True := trivial
      refine Comp.body (T := tab) (res := [.tmp 6, .tmp 7]) tab_ok [3, 50] Try.func68 rfl (by kernel_rfl) Try.ntmps68 rfl (by simp only [List.length_cons, List.length_nil]; decide) (by simp only [lowL, bedL, AV.low]; rfl) ?_; conv => whnf
      repeat' first | ((with_reducible apply XBr.ff); conv => whnf) | (with_reducible apply XBr.not) | ((with_reducible apply XBr.bne) <;> (intro h; first | (exfalso; omega) | (conv => whnf))) | ((first | (refine XCall.ret hck ?_) | (refine XCall.ret hinm ?_)); conv => whnf) | fail
      exact ⟨.low rfl⟩
    | true =>
      cases hi2 : inZ amount 0 b.room with
      | false =>
        rw [hi1] at hinm
        rw [hi2] at ham
        rw [if_neg (by simp), if_pos rfl]
        have hnl : True := trivial
        refine Comp.body (T := tab) (res := [.tmp 6, .tmp 7]) tab_ok [3, 50] Try.func68 rfl (by kernel_rfl) Try.ntmps68 rfl (by simp only [List.length_cons, List.length_nil]; decide) (by simp only [lowL, bedL, AV.low]; rfl) ?_; conv => whnf
        repeat' first | ((first | (with_reducible apply XBr.tt) | (with_reducible apply XBr.ff)); conv => whnf) | (with_reducible apply XBr.not) | ((with_reducible apply XBr.bne) <;> (intro h; first | (exfalso; omega) | (conv => whnf))) | ((first | (refine XCall.ret hck ?_) | (refine XCall.ret hinm ?_) | (refine XCall.ret ham ?_)); conv => whnf) | fail
        exact ⟨.low rfl⟩
      | true =>
        obtain ⟨q1, q2⟩ := inZ_iff.1 hi1
        obtain ⟨q3, q4⟩ := inZ_iff.1 hi2
        obtain ⟨m, rfl⟩ : ∃ m : Nat, month = m := ⟨month.toNat, by omega⟩
        obtain ⟨n, rfl⟩ : ∃ n : Nat, amount = n := ⟨amount.toNat, by omega⟩
        rw [hi1] at hinm
        rw [hi2] at ham
        rw [if_neg (by simp), if_neg (by simp), Int.toNat_natCast, Int.toNat_natCast]
        have okK := addS_k ok (m := m) (n := n) (by omega) q4
        have okB := okK.toBedOk
        have hcan := can_c (addS b m n) okK 180 [] alwP (allF_c _)
        have hsm : ∀ s ∈ (addS b m n).surveys, 0 ≤ s.m ∧ s.m ≤ 10 := fun s hs => by
          have := okK.su s hs
          have h2 : (addS b m n).months.length ≤ 10 := okK.m2
          omega
        have hlB : (addS b m n).surveys.length = b.surveys.length + 1 := by show (b.surveys ++ [_]).length = _; rw [List.length_append]; rfl
        have hsu : sus (addS b m n).surveys = b.surveys.map suA ++ [suA ⟨m, n, n⟩] := by show (b.surveys ++ [_]).map suA = _; rw [List.map_append]; rfl
        have hsl : (b.surveys.map suA).length = b.surveys.length := List.length_map _
        have s1 := ok.s1
        cases hnl : b.nls with
        | false =>
          have hS : True := trivial
          refine Comp.body (T := tab) (res := [.tmp 6, .tmp 7]) tab_ok [3, 50] Try.func68 rfl (by kernel_rfl) Try.ntmps68 rfl (by simp only [List.length_cons, List.length_nil]; decide) (by simp only [lowL, bedL, AV.low]; rfl) ?_; conv => whnf
          repeat' first | ((with_reducible apply XBr.tt); conv => whnf) | (with_reducible apply XBr.not) | ((with_reducible apply XBr.bne) <;> (intro h; first | (exfalso; omega) | (conv => whnf))) | ((with_reducible refine XHold.mk ?_ ?_); (first | omega | rfl | decide | exact ⟨rfl, by decide, rfl⟩ | exact wideI _ | exact widePr _ | exact wideSk _ | (unfold Room; constructor <;> ((try simp) <;> omega)) | exact ⟨rfl, by simp only [List.length_map], by unfold Room; constructor <;> ((try simp) <;> omega)⟩ | exact ⟨by omega, by omega, by unfold Room; constructor <;> ((try simp) <;> omega)⟩); conv => whnf) | ((first | (refine XCall.ret hck ?_) | (refine XCall.ret hinm ?_) | (refine XCall.ret ham ?_)); conv => whnf) | (refine XCall.inl (T := tab) (res := [.tmp 2]) tab_ok [] Try.func146 rfl (by kernel_rfl) Try.ntmps146 rfl (by simp only [List.length_append, List.length_cons, List.length_nil]; decide) ?_; conv => whnf) | ((first | (with_reducible refine XBr.no hnl ?_) | (refine XHold.mk (wideSu _) ?_)); conv => whnf) | ((refine XHold.mk (by rw [List.length_append] <;> rfl) ?_); conv => whnf) | fail
          iterate 11 refine Walk.nilrow 3 ?_
          refine Walk.thenKeep ?_
          refine Walk.loopGK tab_ok [] [(3, .ptr 0 0), (6, _), (7, _), (10, .ptr 3 0), (52, .gr 1 (b.surveys.length + 1)), (53, .int .i64 (b.surveys.length + 1 : Nat))] ⟨rfl, rfl, rfl, rfl, by first | rfl | (rw [hS] <;> rfl) | (show some (AV.gr 1 _) = _; rw [List.length_map] <;> rfl), by first | rfl | (rw [hS] <;> rfl) | (show some (AV.int _ _) = _; rw [List.length_map] <;> rfl), trivial⟩ (fun j : Nat => j ≤ b.surveys.length + 1) (fun j => [(54, natA j)]) (fun j => [.cells (bedG b 1 (b.surveys.length + 1)), .grow 122 false (sus (addS b m n).surveys), .map (esT 4 (addS b m n) j), .cells (bedG b 1 (b.surveys.length + 1) ++ [.mp 2]), rowB (addS b m n) j 0, rowB (addS b m n) j 1, rowB (addS b m n) j 2, rowB (addS b m n) j 3, rowB (addS b m n) j 4, rowB (addS b m n) j 5, rowB (addS b m n) j 6, rowB (addS b m n) j 7, rowB (addS b m n) j 8, rowB (addS b m n) j 9, rowB (addS b m n) j 10]) (fun j => b.surveys.length + 1 - j) 0 (Nat.zero_le _) (by first | (rw [hsu] <;> rfl) | (rw [hsu, hS] <;> rfl) | (rw [hsu]; show [Blk.cells (bedG b 1 (b.surveys.length + 1)), _, _, Blk.cells (bedG b 1 (b.surveys.length + 1) ++ _), _, _, _, _, _, _, _, _, _, _, _] = _; rw [← hsl] <;> rfl)) ⟨rfl, trivial⟩ ?_ (fun _ _ => (show (15 : Nat) ≤ 15 from Nat.le_refl 15)) ?_
          · intro q hq
            refine ⟨fun z hz => ?_, fun z hz => ?_⟩
            · simp only [List.mem_cons, List.not_mem_nil, or_false] at hz
              rcases hz with rfl | rfl | rfl | rfl | rfl | rfl | rfl | rfl | rfl | rfl | rfl | rfl | rfl | rfl | rfl <;> first | exact sus_low _ | exact esT_low 4 _ hsm q (by omega) | exact lowI _ | (simp only [Blk.low, bedG, List.cons_append, List.nil_append, lowL, AV.low, lowMo]; rfl)
            · simp only [List.cons_append, List.nil_append, List.mem_cons, List.not_mem_nil, or_false] at hz
              rcases hz with rfl | rfl | rfl | rfl | rfl | rfl | rfl <;> rfl
          intro j hj
          conv => whnf
          by_cases hlt : j < b.surveys.length + 1
          · have hsv := hsm _ (getD_mem (xs := (addS b m n).surveys) (i := j) (d := default) (by omega))
            have hg := esT_get 4 (addS b m n) (fun s h => (hsm s h).1) j (by omega)
            have hes : esT 4 (addS b m n) (j + 1) = mput ((addS b m n).surveys.getD j default).m (.gr (4 + ((addS b m n).surveys.getD j default).m.toNat) (rowS (addS b m n) (j + 1) ((addS b m n).surveys.getD j default).m.toNat).length) (esT 4 (addS b m n) j) := rfl
            have hrl : ∀ k, (rowS (addS b m n) j k).length ≤ j := fun k => by unfold rowS; rw [List.length_map]; exact Nat.le_trans (List.length_filter_le _ _) (by simp)
            have hsul : (sus (addS b m n).surveys).length = b.surveys.length + 1 := by unfold sus; rw [List.length_map]; exact hlB
            repeat' first | ((with_reducible apply XBr.dec) <;> (intro h; first | (exfalso; omega) | ((try simp only [List.length_map] at h); first | (exfalso; omega) | (conv => whnf)))) | ((first | (refine XHold.mk ⟨hsul, rfl, by omega, by omega⟩ ?_) | (refine XGet.susJ j (by omega) hlB.symm (by omega) ?_)); conv => whnf) | fail
            obtain ⟨k, hk10, hkm⟩ : ∃ k : Nat, k ≤ 10 ∧ ((addS b m n).surveys.getD j default).m = k := ⟨((addS b m n).surveys.getD j default).m.toNat, by omega, by omega⟩
            rw [hkm] at hes ⊢
            rw [Int.toNat_natCast, rowS_hit hkm] at hes
            have hkk : k = 0 ∨ k = 1 ∨ k = 2 ∨ k = 3 ∨ k = 4 ∨ k = 5 ∨ k = 6 ∨ k = 7 ∨ k = 8 ∨ k = 9 ∨ k = 10 := by omega
            rcases hkk with rfl | rfl | rfl | rfl | rfl | rfl | rfl | rfl | rfl | rfl | rfl
            · have hl := hrl 0
              have hgk := hg 0
              apply Walk.drawX tab_ok mixed_ok [] [15, 16] (hsV _ [id, fun H => H.set 4 (.grow 3 ((rowS (addS b m n) j 0).isEmpty && false) (ints (rowS (addS b m n) j 0) ++ [natA j])), fun H => (H.set 4 (.grow 3 ((rowS (addS b m n) j 0).isEmpty && false) (ints (rowS (addS b m n) j 0) ++ [natA j]))).set 2 (.map (mput 0 (.gr 4 ((rowS (addS b m n) j 0).length + 1)) (esT 4 (addS b m n) j)))]) [_, _, _, _, _, _, _, _, _, _, _, _, .gr 4 (rowS (addS b m n) j 0).length, _, _, .gr 4 ((rowS (addS b m n) j 0).length + 1), _] (by kernel_rfl) rfl
              · skip
                repeat' first | ((with_reducible refine XHold.mk ?_ ?_); (first | omega | rfl | decide | exact ⟨rfl, by decide, rfl⟩ | exact wideI _ | exact widePr _ | exact wideSk _ | (unfold Room; constructor <;> ((try simp) <;> omega)) | exact ⟨rfl, by simp only [List.length_map], by unfold Room; constructor <;> ((try simp) <;> omega)⟩ | exact ⟨by omega, by omega, by unfold Room; constructor <;> ((try simp) <;> omega)⟩); conv => whnf) | (with_reducible apply XAnd.mk) | ((first | (with_reducible apply Chk.go) | (with_reducible apply ChkA.go)); conv => whnf) | (exact XSame.mk rfl rfl) | (with_reducible exact trivial) | ((refine XGetM.rowI (te := 3) (xs := rowS (addS b m n) j 0) 4 rfl hgk ?_); conv => whnf) | fail
              · skip
                repeat' first | (with_reducible apply XAnd.mk) | ((first | (with_reducible apply Chk.go) | (with_reducible apply ChkF.go) | (with_reducible apply ChkB.go)); conv => whnf) | (exact XSame.mk rfl rfl) | (with_reducible exact trivial) | fail
              conv => whnf
              repeat' first | ((with_reducible refine XInt.i64 (by omega) (by omega) ?_); conv => whnf) | fail
              refine XAgainG.go (j + 1) [.cells [.int .i64 0, .int .i64 ((addS b m n).surveys.getD j default).lo, .int .i64 ((addS b m n).surveys.getD j default).hi]] (by omega) (by omega) ?_ ⟨rfl, rfl, rfl, rfl, rfl, rfl, rfl, trivial⟩
              rw [hes, rowB_hit hkm, rowB_same (q := 1) (by rw [hkm]; decide), rowB_same (q := 2) (by rw [hkm]; decide), rowB_same (q := 3) (by rw [hkm]; decide), rowB_same (q := 4) (by rw [hkm]; decide), rowB_same (q := 5) (by rw [hkm]; decide), rowB_same (q := 6) (by rw [hkm]; decide), rowB_same (q := 7) (by rw [hkm]; decide), rowB_same (q := 8) (by rw [hkm]; decide), rowB_same (q := 9) (by rw [hkm]; decide), rowB_same (q := 10) (by rw [hkm]; decide)]
              rfl
            · have hl := hrl 1
              have hgk := hg 1
              apply Walk.drawX tab_ok mixed_ok [] [15, 16] (hsV _ [id, fun H => H.set 5 (.grow 3 ((rowS (addS b m n) j 1).isEmpty && false) (ints (rowS (addS b m n) j 1) ++ [natA j])), fun H => (H.set 5 (.grow 3 ((rowS (addS b m n) j 1).isEmpty && false) (ints (rowS (addS b m n) j 1) ++ [natA j]))).set 2 (.map (mput 1 (.gr 5 ((rowS (addS b m n) j 1).length + 1)) (esT 4 (addS b m n) j)))]) [_, _, _, _, _, _, _, _, _, _, _, _, .gr 5 (rowS (addS b m n) j 1).length, _, _, .gr 5 ((rowS (addS b m n) j 1).length + 1), _] (by kernel_rfl) rfl
              · skip
                repeat' first | ((with_reducible refine XHold.mk ?_ ?_); (first | omega | rfl | decide | exact ⟨rfl, by decide, rfl⟩ | exact wideI _ | exact widePr _ | exact wideSk _ | (unfold Room; constructor <;> ((try simp) <;> omega)) | exact ⟨rfl, by simp only [List.length_map], by unfold Room; constructor <;> ((try simp) <;> omega)⟩ | exact ⟨by omega, by omega, by unfold Room; constructor <;> ((try simp) <;> omega)⟩); conv => whnf) | (with_reducible apply XAnd.mk) | ((first | (with_reducible apply Chk.go) | (with_reducible apply ChkA.go)); conv => whnf) | (exact XSame.mk rfl rfl) | (with_reducible exact trivial) | ((refine XGetM.rowI (te := 3) (xs := rowS (addS b m n) j 1) 5 rfl hgk ?_); conv => whnf) | fail
              · skip
                repeat' first | (with_reducible apply XAnd.mk) | ((first | (with_reducible apply Chk.go) | (with_reducible apply ChkF.go) | (with_reducible apply ChkB.go)); conv => whnf) | (exact XSame.mk rfl rfl) | (with_reducible exact trivial) | fail
              conv => whnf
              repeat' first | ((with_reducible refine XInt.i64 (by omega) (by omega) ?_); conv => whnf) | fail
              refine XAgainG.go (j + 1) [.cells [.int .i64 1, .int .i64 ((addS b m n).surveys.getD j default).lo, .int .i64 ((addS b m n).surveys.getD j default).hi]] (by omega) (by omega) ?_ ⟨rfl, rfl, rfl, rfl, rfl, rfl, rfl, trivial⟩
              rw [hes, rowB_same (q := 0) (by rw [hkm]; decide), rowB_hit hkm, rowB_same (q := 2) (by rw [hkm]; decide), rowB_same (q := 3) (by rw [hkm]; decide), rowB_same (q := 4) (by rw [hkm]; decide), rowB_same (q := 5) (by rw [hkm]; decide), rowB_same (q := 6) (by rw [hkm]; decide), rowB_same (q := 7) (by rw [hkm]; decide), rowB_same (q := 8) (by rw [hkm]; decide), rowB_same (q := 9) (by rw [hkm]; decide), rowB_same (q := 10) (by rw [hkm]; decide)]
              rfl
            · have hl := hrl 2
              have hgk := hg 2
              apply Walk.drawX tab_ok mixed_ok [] [15, 16] (hsV _ [id, fun H => H.set 6 (.grow 3 ((rowS (addS b m n) j 2).isEmpty && false) (ints (rowS (addS b m n) j 2) ++ [natA j])), fun H => (H.set 6 (.grow 3 ((rowS (addS b m n) j 2).isEmpty && false) (ints (rowS (addS b m n) j 2) ++ [natA j]))).set 2 (.map (mput 2 (.gr 6 ((rowS (addS b m n) j 2).length + 1)) (esT 4 (addS b m n) j)))]) [_, _, _, _, _, _, _, _, _, _, _, _, .gr 6 (rowS (addS b m n) j 2).length, _, _, .gr 6 ((rowS (addS b m n) j 2).length + 1), _] (by kernel_rfl) rfl
              · skip
                repeat' first | ((with_reducible refine XHold.mk ?_ ?_); (first | omega | rfl | decide | exact ⟨rfl, by decide, rfl⟩ | exact wideI _ | exact widePr _ | exact wideSk _ | (unfold Room; constructor <;> ((try simp) <;> omega)) | exact ⟨rfl, by simp only [List.length_map], by unfold Room; constructor <;> ((try simp) <;> omega)⟩ | exact ⟨by omega, by omega, by unfold Room; constructor <;> ((try simp) <;> omega)⟩); conv => whnf) | (with_reducible apply XAnd.mk) | ((first | (with_reducible apply Chk.go) | (with_reducible apply ChkA.go)); conv => whnf) | (exact XSame.mk rfl rfl) | (with_reducible exact trivial) | ((refine XGetM.rowI (te := 3) (xs := rowS (addS b m n) j 2) 6 rfl hgk ?_); conv => whnf) | fail
              · skip
                repeat' first | (with_reducible apply XAnd.mk) | ((first | (with_reducible apply Chk.go) | (with_reducible apply ChkF.go) | (with_reducible apply ChkB.go)); conv => whnf) | (exact XSame.mk rfl rfl) | (with_reducible exact trivial) | fail
              conv => whnf
              repeat' first | ((with_reducible refine XInt.i64 (by omega) (by omega) ?_); conv => whnf) | fail
              refine XAgainG.go (j + 1) [.cells [.int .i64 2, .int .i64 ((addS b m n).surveys.getD j default).lo, .int .i64 ((addS b m n).surveys.getD j default).hi]] (by omega) (by omega) ?_ ⟨rfl, rfl, rfl, rfl, rfl, rfl, rfl, trivial⟩
              rw [hes, rowB_same (q := 0) (by rw [hkm]; decide), rowB_same (q := 1) (by rw [hkm]; decide), rowB_hit hkm, rowB_same (q := 3) (by rw [hkm]; decide), rowB_same (q := 4) (by rw [hkm]; decide), rowB_same (q := 5) (by rw [hkm]; decide), rowB_same (q := 6) (by rw [hkm]; decide), rowB_same (q := 7) (by rw [hkm]; decide), rowB_same (q := 8) (by rw [hkm]; decide), rowB_same (q := 9) (by rw [hkm]; decide), rowB_same (q := 10) (by rw [hkm]; decide)]
              rfl
            · have hl := hrl 3
              have hgk := hg 3
              apply Walk.drawX tab_ok mixed_ok [] [15, 16] (hsV _ [id, fun H => H.set 7 (.grow 3 ((rowS (addS b m n) j 3).isEmpty && false) (ints (rowS (addS b m n) j 3) ++ [natA j])), fun H => (H.set 7 (.grow 3 ((rowS (addS b m n) j 3).isEmpty && false) (ints (rowS (addS b m n) j 3) ++ [natA j]))).set 2 (.map (mput 3 (.gr 7 ((rowS (addS b m n) j 3).length + 1)) (esT 4 (addS b m n) j)))]) [_, _, _, _, _, _, _, _, _, _, _, _, .gr 7 (rowS (addS b m n) j 3).length, _, _, .gr 7 ((rowS (addS b m n) j 3).length + 1), _] (by kernel_rfl) rfl
              · skip
                repeat' first | ((with_reducible refine XHold.mk ?_ ?_); (first | omega | rfl | decide | exact ⟨rfl, by decide, rfl⟩ | exact wideI _ | exact widePr _ | exact wideSk _ | (unfold Room; constructor <;> ((try simp) <;> omega)) | exact ⟨rfl, by simp only [List.length_map], by unfold Room; constructor <;> ((try simp) <;> omega)⟩ | exact ⟨by omega, by omega, by unfold Room; constructor <;> ((try simp) <;> omega)⟩); conv => whnf) | (with_reducible apply XAnd.mk) | ((first | (with_reducible apply Chk.go) | (with_reducible apply ChkA.go)); conv => whnf) | (exact XSame.mk rfl rfl) | (with_reducible exact trivial) | ((refine XGetM.rowI (te := 3) (xs := rowS (addS b m n) j 3) 7 rfl hgk ?_); conv => whnf) | fail
              · skip
                repeat' first | (with_reducible apply XAnd.mk) | ((first | (with_reducible apply Chk.go) | (with_reducible apply ChkF.go) | (with_reducible apply ChkB.go)); conv => whnf) | (exact XSame.mk rfl rfl) | (with_reducible exact trivial) | fail
              conv => whnf
              repeat' first | ((with_reducible refine XInt.i64 (by omega) (by omega) ?_); conv => whnf) | fail
              refine XAgainG.go (j + 1) [.cells [.int .i64 3, .int .i64 ((addS b m n).surveys.getD j default).lo, .int .i64 ((addS b m n).surveys.getD j default).hi]] (by omega) (by omega) ?_ ⟨rfl, rfl, rfl, rfl, rfl, rfl, rfl, trivial⟩
              rw [hes, rowB_same (q := 0) (by rw [hkm]; decide), rowB_same (q := 1) (by rw [hkm]; decide), rowB_same (q := 2) (by rw [hkm]; decide), rowB_hit hkm, rowB_same (q := 4) (by rw [hkm]; decide), rowB_same (q := 5) (by rw [hkm]; decide), rowB_same (q := 6) (by rw [hkm]; decide), rowB_same (q := 7) (by rw [hkm]; decide), rowB_same (q := 8) (by rw [hkm]; decide), rowB_same (q := 9) (by rw [hkm]; decide), rowB_same (q := 10) (by rw [hkm]; decide)]
              rfl
            · have hl := hrl 4
              have hgk := hg 4
              apply Walk.drawX tab_ok mixed_ok [] [15, 16] (hsV _ [id, fun H => H.set 8 (.grow 3 ((rowS (addS b m n) j 4).isEmpty && false) (ints (rowS (addS b m n) j 4) ++ [natA j])), fun H => (H.set 8 (.grow 3 ((rowS (addS b m n) j 4).isEmpty && false) (ints (rowS (addS b m n) j 4) ++ [natA j]))).set 2 (.map (mput 4 (.gr 8 ((rowS (addS b m n) j 4).length + 1)) (esT 4 (addS b m n) j)))]) [_, _, _, _, _, _, _, _, _, _, _, _, .gr 8 (rowS (addS b m n) j 4).length, _, _, .gr 8 ((rowS (addS b m n) j 4).length + 1), _] (by kernel_rfl) rfl
              · skip
                repeat' first | ((with_reducible refine XHold.mk ?_ ?_); (first | omega | rfl | decide | exact ⟨rfl, by decide, rfl⟩ | exact wideI _ | exact widePr _ | exact wideSk _ | (unfold Room; constructor <;> ((try simp) <;> omega)) | exact ⟨rfl, by simp only [List.length_map], by unfold Room; constructor <;> ((try simp) <;> omega)⟩ | exact ⟨by omega, by omega, by unfold Room; constructor <;> ((try simp) <;> omega)⟩); conv => whnf) | (with_reducible apply XAnd.mk) | ((first | (with_reducible apply Chk.go) | (with_reducible apply ChkA.go)); conv => whnf) | (exact XSame.mk rfl rfl) | (with_reducible exact trivial) | ((refine XGetM.rowI (te := 3) (xs := rowS (addS b m n) j 4) 8 rfl hgk ?_); conv => whnf) | fail
              · skip
                repeat' first | (with_reducible apply XAnd.mk) | ((first | (with_reducible apply Chk.go) | (with_reducible apply ChkF.go) | (with_reducible apply ChkB.go)); conv => whnf) | (exact XSame.mk rfl rfl) | (with_reducible exact trivial) | fail
              conv => whnf
              repeat' first | ((with_reducible refine XInt.i64 (by omega) (by omega) ?_); conv => whnf) | fail
              refine XAgainG.go (j + 1) [.cells [.int .i64 4, .int .i64 ((addS b m n).surveys.getD j default).lo, .int .i64 ((addS b m n).surveys.getD j default).hi]] (by omega) (by omega) ?_ ⟨rfl, rfl, rfl, rfl, rfl, rfl, rfl, trivial⟩
              rw [hes, rowB_same (q := 0) (by rw [hkm]; decide), rowB_same (q := 1) (by rw [hkm]; decide), rowB_same (q := 2) (by rw [hkm]; decide), rowB_same (q := 3) (by rw [hkm]; decide), rowB_hit hkm, rowB_same (q := 5) (by rw [hkm]; decide), rowB_same (q := 6) (by rw [hkm]; decide), rowB_same (q := 7) (by rw [hkm]; decide), rowB_same (q := 8) (by rw [hkm]; decide), rowB_same (q := 9) (by rw [hkm]; decide), rowB_same (q := 10) (by rw [hkm]; decide)]
              rfl
            · have hl := hrl 5
              have hgk := hg 5
              apply Walk.drawX tab_ok mixed_ok [] [15, 16] (hsV _ [id, fun H => H.set 9 (.grow 3 ((rowS (addS b m n) j 5).isEmpty && false) (ints (rowS (addS b m n) j 5) ++ [natA j])), fun H => (H.set 9 (.grow 3 ((rowS (addS b m n) j 5).isEmpty && false) (ints (rowS (addS b m n) j 5) ++ [natA j]))).set 2 (.map (mput 5 (.gr 9 ((rowS (addS b m n) j 5).length + 1)) (esT 4 (addS b m n) j)))]) [_, _, _, _, _, _, _, _, _, _, _, _, .gr 9 (rowS (addS b m n) j 5).length, _, _, .gr 9 ((rowS (addS b m n) j 5).length + 1), _] (by kernel_rfl) rfl
              · skip
                repeat' first | ((with_reducible refine XHold.mk ?_ ?_); (first | omega | rfl | decide | exact ⟨rfl, by decide, rfl⟩ | exact wideI _ | exact widePr _ | exact wideSk _ | (unfold Room; constructor <;> ((try simp) <;> omega)) | exact ⟨rfl, by simp only [List.length_map], by unfold Room; constructor <;> ((try simp) <;> omega)⟩ | exact ⟨by omega, by omega, by unfold Room; constructor <;> ((try simp) <;> omega)⟩); conv => whnf) | (with_reducible apply XAnd.mk) | ((first | (with_reducible apply Chk.go) | (with_reducible apply ChkA.go)); conv => whnf) | (exact XSame.mk rfl rfl) | (with_reducible exact trivial) | ((refine XGetM.rowI (te := 3) (xs := rowS (addS b m n) j 5) 9 rfl hgk ?_); conv => whnf) | fail
              · skip
                repeat' first | (with_reducible apply XAnd.mk) | ((first | (with_reducible apply Chk.go) | (with_reducible apply ChkF.go) | (with_reducible apply ChkB.go)); conv => whnf) | (exact XSame.mk rfl rfl) | (with_reducible exact trivial) | fail
              conv => whnf
              repeat' first | ((with_reducible refine XInt.i64 (by omega) (by omega) ?_); conv => whnf) | fail
              refine XAgainG.go (j + 1) [.cells [.int .i64 5, .int .i64 ((addS b m n).surveys.getD j default).lo, .int .i64 ((addS b m n).surveys.getD j default).hi]] (by omega) (by omega) ?_ ⟨rfl, rfl, rfl, rfl, rfl, rfl, rfl, trivial⟩
              rw [hes, rowB_same (q := 0) (by rw [hkm]; decide), rowB_same (q := 1) (by rw [hkm]; decide), rowB_same (q := 2) (by rw [hkm]; decide), rowB_same (q := 3) (by rw [hkm]; decide), rowB_same (q := 4) (by rw [hkm]; decide), rowB_hit hkm, rowB_same (q := 6) (by rw [hkm]; decide), rowB_same (q := 7) (by rw [hkm]; decide), rowB_same (q := 8) (by rw [hkm]; decide), rowB_same (q := 9) (by rw [hkm]; decide), rowB_same (q := 10) (by rw [hkm]; decide)]
              rfl
            · have hl := hrl 6
              have hgk := hg 6
              apply Walk.drawX tab_ok mixed_ok [] [15, 16] (hsV _ [id, fun H => H.set 10 (.grow 3 ((rowS (addS b m n) j 6).isEmpty && false) (ints (rowS (addS b m n) j 6) ++ [natA j])), fun H => (H.set 10 (.grow 3 ((rowS (addS b m n) j 6).isEmpty && false) (ints (rowS (addS b m n) j 6) ++ [natA j]))).set 2 (.map (mput 6 (.gr 10 ((rowS (addS b m n) j 6).length + 1)) (esT 4 (addS b m n) j)))]) [_, _, _, _, _, _, _, _, _, _, _, _, .gr 10 (rowS (addS b m n) j 6).length, _, _, .gr 10 ((rowS (addS b m n) j 6).length + 1), _] (by kernel_rfl) rfl
              · skip
                repeat' first | ((with_reducible refine XHold.mk ?_ ?_); (first | omega | rfl | decide | exact ⟨rfl, by decide, rfl⟩ | exact wideI _ | exact widePr _ | exact wideSk _ | (unfold Room; constructor <;> ((try simp) <;> omega)) | exact ⟨rfl, by simp only [List.length_map], by unfold Room; constructor <;> ((try simp) <;> omega)⟩ | exact ⟨by omega, by omega, by unfold Room; constructor <;> ((try simp) <;> omega)⟩); conv => whnf) | (with_reducible apply XAnd.mk) | ((first | (with_reducible apply Chk.go) | (with_reducible apply ChkA.go)); conv => whnf) | (exact XSame.mk rfl rfl) | (with_reducible exact trivial) | ((refine XGetM.rowI (te := 3) (xs := rowS (addS b m n) j 6) 10 rfl hgk ?_); conv => whnf) | fail
              · skip
                repeat' first | (with_reducible apply XAnd.mk) | ((first | (with_reducible apply Chk.go) | (with_reducible apply ChkF.go) | (with_reducible apply ChkB.go)); conv => whnf) | (exact XSame.mk rfl rfl) | (with_reducible exact trivial) | fail
              conv => whnf
              repeat' first | ((with_reducible refine XInt.i64 (by omega) (by omega) ?_); conv => whnf) | fail
              refine XAgainG.go (j + 1) [.cells [.int .i64 6, .int .i64 ((addS b m n).surveys.getD j default).lo, .int .i64 ((addS b m n).surveys.getD j default).hi]] (by omega) (by omega) ?_ ⟨rfl, rfl, rfl, rfl, rfl, rfl, rfl, trivial⟩
              rw [hes, rowB_same (q := 0) (by rw [hkm]; decide), rowB_same (q := 1) (by rw [hkm]; decide), rowB_same (q := 2) (by rw [hkm]; decide), rowB_same (q := 3) (by rw [hkm]; decide), rowB_same (q := 4) (by rw [hkm]; decide), rowB_same (q := 5) (by rw [hkm]; decide), rowB_hit hkm, rowB_same (q := 7) (by rw [hkm]; decide), rowB_same (q := 8) (by rw [hkm]; decide), rowB_same (q := 9) (by rw [hkm]; decide), rowB_same (q := 10) (by rw [hkm]; decide)]
              rfl
            · have hl := hrl 7
              have hgk := hg 7
              apply Walk.drawX tab_ok mixed_ok [] [15, 16] (hsV _ [id, fun H => H.set 11 (.grow 3 ((rowS (addS b m n) j 7).isEmpty && false) (ints (rowS (addS b m n) j 7) ++ [natA j])), fun H => (H.set 11 (.grow 3 ((rowS (addS b m n) j 7).isEmpty && false) (ints (rowS (addS b m n) j 7) ++ [natA j]))).set 2 (.map (mput 7 (.gr 11 ((rowS (addS b m n) j 7).length + 1)) (esT 4 (addS b m n) j)))]) [_, _, _, _, _, _, _, _, _, _, _, _, .gr 11 (rowS (addS b m n) j 7).length, _, _, .gr 11 ((rowS (addS b m n) j 7).length + 1), _] (by kernel_rfl) rfl
              · skip
                repeat' first | ((with_reducible refine XHold.mk ?_ ?_); (first | omega | rfl | decide | exact ⟨rfl, by decide, rfl⟩ | exact wideI _ | exact widePr _ | exact wideSk _ | (unfold Room; constructor <;> ((try simp) <;> omega)) | exact ⟨rfl, by simp only [List.length_map], by unfold Room; constructor <;> ((try simp) <;> omega)⟩ | exact ⟨by omega, by omega, by unfold Room; constructor <;> ((try simp) <;> omega)⟩); conv => whnf) | (with_reducible apply XAnd.mk) | ((first | (with_reducible apply Chk.go) | (with_reducible apply ChkA.go)); conv => whnf) | (exact XSame.mk rfl rfl) | (with_reducible exact trivial) | ((refine XGetM.rowI (te := 3) (xs := rowS (addS b m n) j 7) 11 rfl hgk ?_); conv => whnf) | fail
              · skip
                repeat' first | (with_reducible apply XAnd.mk) | ((first | (with_reducible apply Chk.go) | (with_reducible apply ChkF.go) | (with_reducible apply ChkB.go)); conv => whnf) | (exact XSame.mk rfl rfl) | (with_reducible exact trivial) | fail
              conv => whnf
              repeat' first | ((with_reducible refine XInt.i64 (by omega) (by omega) ?_); conv => whnf) | fail
              refine XAgainG.go (j + 1) [.cells [.int .i64 7, .int .i64 ((addS b m n).surveys.getD j default).lo, .int .i64 ((addS b m n).surveys.getD j default).hi]] (by omega) (by omega) ?_ ⟨rfl, rfl, rfl, rfl, rfl, rfl, rfl, trivial⟩
              rw [hes, rowB_same (q := 0) (by rw [hkm]; decide), rowB_same (q := 1) (by rw [hkm]; decide), rowB_same (q := 2) (by rw [hkm]; decide), rowB_same (q := 3) (by rw [hkm]; decide), rowB_same (q := 4) (by rw [hkm]; decide), rowB_same (q := 5) (by rw [hkm]; decide), rowB_same (q := 6) (by rw [hkm]; decide), rowB_hit hkm, rowB_same (q := 8) (by rw [hkm]; decide), rowB_same (q := 9) (by rw [hkm]; decide), rowB_same (q := 10) (by rw [hkm]; decide)]
              rfl
            · have hl := hrl 8
              have hgk := hg 8
              apply Walk.drawX tab_ok mixed_ok [] [15, 16] (hsV _ [id, fun H => H.set 12 (.grow 3 ((rowS (addS b m n) j 8).isEmpty && false) (ints (rowS (addS b m n) j 8) ++ [natA j])), fun H => (H.set 12 (.grow 3 ((rowS (addS b m n) j 8).isEmpty && false) (ints (rowS (addS b m n) j 8) ++ [natA j]))).set 2 (.map (mput 8 (.gr 12 ((rowS (addS b m n) j 8).length + 1)) (esT 4 (addS b m n) j)))]) [_, _, _, _, _, _, _, _, _, _, _, _, .gr 12 (rowS (addS b m n) j 8).length, _, _, .gr 12 ((rowS (addS b m n) j 8).length + 1), _] (by kernel_rfl) rfl
              · skip
                repeat' first | ((with_reducible refine XHold.mk ?_ ?_); (first | omega | rfl | decide | exact ⟨rfl, by decide, rfl⟩ | exact wideI _ | exact widePr _ | exact wideSk _ | (unfold Room; constructor <;> ((try simp) <;> omega)) | exact ⟨rfl, by simp only [List.length_map], by unfold Room; constructor <;> ((try simp) <;> omega)⟩ | exact ⟨by omega, by omega, by unfold Room; constructor <;> ((try simp) <;> omega)⟩); conv => whnf) | (with_reducible apply XAnd.mk) | ((first | (with_reducible apply Chk.go) | (with_reducible apply ChkA.go)); conv => whnf) | (exact XSame.mk rfl rfl) | (with_reducible exact trivial) | ((refine XGetM.rowI (te := 3) (xs := rowS (addS b m n) j 8) 12 rfl hgk ?_); conv => whnf) | fail
              · skip
                repeat' first | (with_reducible apply XAnd.mk) | ((first | (with_reducible apply Chk.go) | (with_reducible apply ChkF.go) | (with_reducible apply ChkB.go)); conv => whnf) | (exact XSame.mk rfl rfl) | (with_reducible exact trivial) | fail
              conv => whnf
              repeat' first | ((with_reducible refine XInt.i64 (by omega) (by omega) ?_); conv => whnf) | fail
              refine XAgainG.go (j + 1) [.cells [.int .i64 8, .int .i64 ((addS b m n).surveys.getD j default).lo, .int .i64 ((addS b m n).surveys.getD j default).hi]] (by omega) (by omega) ?_ ⟨rfl, rfl, rfl, rfl, rfl, rfl, rfl, trivial⟩
              rw [hes, rowB_same (q := 0) (by rw [hkm]; decide), rowB_same (q := 1) (by rw [hkm]; decide), rowB_same (q := 2) (by rw [hkm]; decide), rowB_same (q := 3) (by rw [hkm]; decide), rowB_same (q := 4) (by rw [hkm]; decide), rowB_same (q := 5) (by rw [hkm]; decide), rowB_same (q := 6) (by rw [hkm]; decide), rowB_same (q := 7) (by rw [hkm]; decide), rowB_hit hkm, rowB_same (q := 9) (by rw [hkm]; decide), rowB_same (q := 10) (by rw [hkm]; decide)]
              rfl
            · have hl := hrl 9
              have hgk := hg 9
              apply Walk.drawX tab_ok mixed_ok [] [15, 16] (hsV _ [id, fun H => H.set 13 (.grow 3 ((rowS (addS b m n) j 9).isEmpty && false) (ints (rowS (addS b m n) j 9) ++ [natA j])), fun H => (H.set 13 (.grow 3 ((rowS (addS b m n) j 9).isEmpty && false) (ints (rowS (addS b m n) j 9) ++ [natA j]))).set 2 (.map (mput 9 (.gr 13 ((rowS (addS b m n) j 9).length + 1)) (esT 4 (addS b m n) j)))]) [_, _, _, _, _, _, _, _, _, _, _, _, .gr 13 (rowS (addS b m n) j 9).length, _, _, .gr 13 ((rowS (addS b m n) j 9).length + 1), _] (by kernel_rfl) rfl
              · skip
                repeat' first | ((with_reducible refine XHold.mk ?_ ?_); (first | omega | rfl | decide | exact ⟨rfl, by decide, rfl⟩ | exact wideI _ | exact widePr _ | exact wideSk _ | (unfold Room; constructor <;> ((try simp) <;> omega)) | exact ⟨rfl, by simp only [List.length_map], by unfold Room; constructor <;> ((try simp) <;> omega)⟩ | exact ⟨by omega, by omega, by unfold Room; constructor <;> ((try simp) <;> omega)⟩); conv => whnf) | (with_reducible apply XAnd.mk) | ((first | (with_reducible apply Chk.go) | (with_reducible apply ChkA.go)); conv => whnf) | (exact XSame.mk rfl rfl) | (with_reducible exact trivial) | ((refine XGetM.rowI (te := 3) (xs := rowS (addS b m n) j 9) 13 rfl hgk ?_); conv => whnf) | fail
              · skip
                repeat' first | (with_reducible apply XAnd.mk) | ((first | (with_reducible apply Chk.go) | (with_reducible apply ChkF.go) | (with_reducible apply ChkB.go)); conv => whnf) | (exact XSame.mk rfl rfl) | (with_reducible exact trivial) | fail
              conv => whnf
              repeat' first | ((with_reducible refine XInt.i64 (by omega) (by omega) ?_); conv => whnf) | fail
              refine XAgainG.go (j + 1) [.cells [.int .i64 9, .int .i64 ((addS b m n).surveys.getD j default).lo, .int .i64 ((addS b m n).surveys.getD j default).hi]] (by omega) (by omega) ?_ ⟨rfl, rfl, rfl, rfl, rfl, rfl, rfl, trivial⟩
              rw [hes, rowB_same (q := 0) (by rw [hkm]; decide), rowB_same (q := 1) (by rw [hkm]; decide), rowB_same (q := 2) (by rw [hkm]; decide), rowB_same (q := 3) (by rw [hkm]; decide), rowB_same (q := 4) (by rw [hkm]; decide), rowB_same (q := 5) (by rw [hkm]; decide), rowB_same (q := 6) (by rw [hkm]; decide), rowB_same (q := 7) (by rw [hkm]; decide), rowB_same (q := 8) (by rw [hkm]; decide), rowB_hit hkm, rowB_same (q := 10) (by rw [hkm]; decide)]
              rfl
            · have hl := hrl 10
              have hgk := hg 10
              apply Walk.drawX tab_ok mixed_ok [] [15, 16] (hsV _ [id, fun H => H.set 14 (.grow 3 ((rowS (addS b m n) j 10).isEmpty && false) (ints (rowS (addS b m n) j 10) ++ [natA j])), fun H => (H.set 14 (.grow 3 ((rowS (addS b m n) j 10).isEmpty && false) (ints (rowS (addS b m n) j 10) ++ [natA j]))).set 2 (.map (mput 10 (.gr 14 ((rowS (addS b m n) j 10).length + 1)) (esT 4 (addS b m n) j)))]) [_, _, _, _, _, _, _, _, _, _, _, _, .gr 14 (rowS (addS b m n) j 10).length, _, _, .gr 14 ((rowS (addS b m n) j 10).length + 1), _] (by kernel_rfl) rfl
              · skip
                repeat' first | ((with_reducible refine XHold.mk ?_ ?_); (first | omega | rfl | decide | exact ⟨rfl, by decide, rfl⟩ | exact wideI _ | exact widePr _ | exact wideSk _ | (unfold Room; constructor <;> ((try simp) <;> omega)) | exact ⟨rfl, by simp only [List.length_map], by unfold Room; constructor <;> ((try simp) <;> omega)⟩ | exact ⟨by omega, by omega, by unfold Room; constructor <;> ((try simp) <;> omega)⟩); conv => whnf) | (with_reducible apply XAnd.mk) | ((first | (with_reducible apply Chk.go) | (with_reducible apply ChkA.go)); conv => whnf) | (exact XSame.mk rfl rfl) | (with_reducible exact trivial) | ((refine XGetM.rowI (te := 3) (xs := rowS (addS b m n) j 10) 14 rfl hgk ?_); conv => whnf) | fail
              · skip
                repeat' first | (with_reducible apply XAnd.mk) | ((first | (with_reducible apply Chk.go) | (with_reducible apply ChkF.go) | (with_reducible apply ChkB.go)); conv => whnf) | (exact XSame.mk rfl rfl) | (with_reducible exact trivial) | fail
              conv => whnf
              repeat' first | ((with_reducible refine XInt.i64 (by omega) (by omega) ?_); conv => whnf) | fail
              refine XAgainG.go (j + 1) [.cells [.int .i64 10, .int .i64 ((addS b m n).surveys.getD j default).lo, .int .i64 ((addS b m n).surveys.getD j default).hi]] (by omega) (by omega) ?_ ⟨rfl, rfl, rfl, rfl, rfl, rfl, rfl, trivial⟩
              rw [hes, rowB_same (q := 0) (by rw [hkm]; decide), rowB_same (q := 1) (by rw [hkm]; decide), rowB_same (q := 2) (by rw [hkm]; decide), rowB_same (q := 3) (by rw [hkm]; decide), rowB_same (q := 4) (by rw [hkm]; decide), rowB_same (q := 5) (by rw [hkm]; decide), rowB_same (q := 6) (by rw [hkm]; decide), rowB_same (q := 7) (by rw [hkm]; decide), rowB_same (q := 8) (by rw [hkm]; decide), rowB_same (q := 9) (by rw [hkm]; decide), rowB_hit hkm]
              rfl
          · obtain rfl : j = b.surveys.length + 1 := by omega
            repeat' first | ((with_reducible apply XBr.dec) <;> (intro h; first | (exfalso; omega) | ((try simp only [List.length_map] at h); first | (exfalso; omega) | (conv => whnf)))) | fail
            refine XKeepE.go [] _ [(3, .pim (bedC (addS b m n))), (6, .sl true []), (7, .int .i64 0), (10, dskA (addS b m n))] rfl (fun x hx => by cases hx) ⟨⟨_, rfl, .all (Froz.ptr rfl (bedOne _) ?_)⟩, ⟨_, rfl, .same rfl⟩, ⟨_, rfl, .same rfl⟩, ⟨_, rfl, .all (Froz.ptr rfl (dskOne _) ?_)⟩, trivial⟩ ?_
            · exact .cons (.low rfl) (.cons (.low rfl) (.cons (.low rfl) (.cons (.low (lowMo _)) (.cons (Froz.grow rfl (by rw [List.length_map]; exact hlB) (sus_low _)) .nil))))
            · refine .cons (.low rfl) (.cons (.low rfl) (.cons (.low rfl) (.cons (.low (lowMo _)) (.cons (Froz.grow rfl (by rw [List.length_map]; exact hlB) (sus_low _)) (.cons ?_ .nil)))))
              have hkB : keyS (addS b m n) = (esT 4 (addS b m n) (b.surveys.length + 1)).map (·.1) := by rw [keyS_B, hlB]
              unfold rowsS
              rw [hkB]
              refine Froz.mp rfl (frozMap _ (fun k => slA (rowT (addS b m n) k.toNat)) _ fun p hp => ?_)
              obtain ⟨h1, h2, h3⟩ := esT_vals 4 (addS b m n) hsm _ (by omega) p hp
              rw [h3]
              obtain ⟨k, hk, hk2⟩ : ∃ k : Nat, k ≤ 10 ∧ p.1.toNat = k := ⟨p.1.toNat, by omega, rfl⟩
              rw [hk2]
              unfold rowT
              rw [hlB]
              have hkk : k = 0 ∨ k = 1 ∨ k = 2 ∨ k = 3 ∨ k = 4 ∨ k = 5 ∨ k = 6 ∨ k = 7 ∨ k = 8 ∨ k = 9 ∨ k = 10 := by omega
              rcases hkk with rfl | rfl | rfl | rfl | rfl | rfl | rfl | rfl | rfl | rfl | rfl <;> exact Froz.grow rfl (List.length_map _) (lowI _)
            conv => whnf
            cases hn : noneB (addS b m n) alwP with
            | true =>
              have hn' : (vecF 121 (cnB (addS b m n) alwP 0) == List.replicate 121 false) = true := hn
              repeat' first | ((first | (refine XCall.ret bAll_c ?_) | (refine XCall.ret hcan ?_) | (refine XIx.mat 0 rfl (by omega) rfl ?_) | (refine xtk_vec rfl ?_) | (refine xeqb0 ?_) | (with_reducible refine XBr.yes hn' ?_)); conv => whnf) | fail
              exact ⟨.low rfl⟩
            | false =>
              have hn' : (vecF 121 (cnB (addS b m n) alwP 0) == List.replicate 121 false) = false := hn
              have hcc := cr_cn okB hn
              have hLn : 0 < (lstF (cnB (addS b m n) alwP 0) 121).length := List.length_pos_of_mem (lstF_mem.2 ⟨cr (addS b m n) 0, by have := cnB_room (hcc 0 (Nat.zero_le _)); have : (addS b m n).room ≤ 120 := okB.r2; omega, hcc 0 (Nat.zero_le _), rfl⟩)
              have hLl : (ints (lstF (cnB (addS b m n) alwP 0) 121)).length = (lstF (cnB (addS b m n) alwP 0) 121).length := ints_len _
              repeat' first | ((first | (refine XCall.ret bAll_c ?_) | (refine XCall.ret hcan ?_) | (refine XIx.mat 0 rfl (by omega) rfl ?_) | (refine xtk_vec rfl ?_) | (refine xeqb0 ?_) | (with_reducible refine XBr.no hn' ?_) | (refine XCall.amList ?_) | (refine XHold.mk ⟨⟨by omega, by omega, by omega, by omega⟩, hLl, rfl⟩ ?_)); conv => whnf) | fail
              refine Walk.truncCell 17 0 16 (lstF (cnB (addS b m n) alwP 0) 121).length 1 rfl rfl rfl hLl hLn ?_
              refine Walk.loopM tab_ok [] (fun k : Nat => k ≤ b.months.length) (fun k => [(6, .sl true []), (7, .int .i64 0), (10, dskA (addS b m n)), (13, .ptr 15 0), (14, .ptr 17 0), (91, .int .i64 ((b.months.map moA).length : Nat)), (92, natA k)]) (fun k => [.dead, .dead, .dead, .dead, .dead, .dead, .dead, .dead, .dead, .dead, .dead, .dead, .dead, .dead, .dead, .cells [.sl false ((matF (b.months.length + 1) 121 (cnB (addS b m n) alwP)).map (arrF .bool))], .dead, .cells [.gr 18 (crL (addS b m n) (k + 1)).length], .grow 3 false (ints (crL (addS b m n) (k + 1)))]) (fun k => b.months.length - k) 0 19 (Nat.zero_le _) (by rw [← crL_one (addS b m n) rfl hLn, crL_len] <;> rfl) rfl ⟨rfl, rfl, rfl, rfl, rfl, rfl, rfl, trivial⟩ ?_
              intro k hk
              have hcl : (ints (crL (addS b m n) (k + 1))).length = (crL (addS b m n) (k + 1)).length := ints_len _
              have hcl2 : (crL (addS b m n) (k + 1)).length = k + 1 := crL_len _ _
              conv => whnf
              by_cases hltk : k < b.months.length
              · have hgk : (crL (addS b m n) (k + 1)).getD k default = (cr (addS b m n) k : Int) := crL_get _ (by omega)
                have hck := cnB_room (hcc k (by show k ≤ b.months.length; omega))
                have hlv := bLeaves_c (addS b m n) okB k (cr (addS b m n) k) hltk
                have hck1 : (cr (addS b m n) k : Int) ≤ b.room := hck
                repeat' first | ((with_reducible apply XBr.dec) <;> (intro h; first | (exfalso; omega) | ((try simp only [List.length_map] at h); first | (exfalso; omega) | (conv => whnf)))) | (with_reducible apply XAnd.mk) | ((first | (with_reducible apply Chk.go) | (with_reducible apply ChkA.go) | (with_reducible apply ChkF.go) | (with_reducible apply ChkB.go)); conv => whnf) | (exact XSame.mk rfl rfl) | (with_reducible exact trivial) | (apply Walk.drawN (id := 23) tab_ok mixed_ok [3, 50] [] (hsU _) [_, _, _, _, _, _, _] (by kernel_rfl) rfl) | ((first | (with_reducible apply XNext.mk) | (refine XHold.mk ⟨hcl, rfl, by omega, by omega⟩ ?_) | ((refine XGet.intJ k (by omega) rfl (by omega) ?_); rw [hgk]) | (refine XCall.ret hlv ?_)); conv => whnf) | fail
                refine Walk.range (own := []) tab_ok [(13, .ptr 15 0), (14, .ptr 17 0), (15, .ptr 19 0)] rfl ⟨rfl, rfl, rfl, trivial⟩ ?_
                intro fn
                refine bLeaves1_c (addS b m n) okB k (cr (addS b m n) k) _ hltk hck _ _ ?_
                have hfind : (lvL (addS b m n) k (cr (addS b m n) k)).find? (cnB (addS b m n) alwP (k + 1)) = some (cr (addS b m n) (k + 1)) := by
                  obtain ⟨x, h1, h2⟩ := cn_next okB hltk (hcc k (by show k ≤ b.months.length; omega))
                  cases hf : (lvL (addS b m n) k (cr (addS b m n) k)).find? (cnB (addS b m n) alwP (k + 1)) with
                  | none => exact absurd h2 (List.find?_eq_none.1 hf x h1)
                  | some y => rw [show cr (addS b m n) (k + 1) = ((lvL (addS b m n) k (cr (addS b m n) k)).find? (cnB (addS b m n) alwP (k + 1))).getD 0 from rfl, hf]; rfl
                have hlr : ∀ c ∈ lvL (addS b m n) k (cr (addS b m n) k), c < 121 := fun c hc => by
                  have := ah_room okB hltk hc
                  have h2 : (addS b m n).room ≤ 120 := okB.r2
                  omega
                generalize lvL (addS b m n) k (cr (addS b m n) k) = cs at hfind hlr
                revert hfind hlr
                induction cs with
                | nil => intro h; cases h
                | cons c cs ih =>
                  intro hfind hlr
                  have hc121 := hlr c List.mem_cons_self
                  rw [List.find?_cons] at hfind
                  refine XYield.go (own := []) tab_ok rfl rfl (by decide) ?_
                  intro ρ
                  conv => whnf
                  cases hv : cnB (addS b m n) alwP (k + 1) c with
                  | false =>
                    rw [hv] at hfind
                    repeat' first | ((first | (with_reducible apply XBr.ff) | (with_reducible refine XInt.i64 (by omega) (by omega) ?_) | (refine XIx.mat (k + 1) (by omega) (by omega) rfl ?_) | ((refine XArr.vec c rfl (by omega) (by omega) ?_); rw [hv])); conv => whnf) | fail
                    exact .inl ⟨rfl, ih hfind fun x hx => hlr x (List.mem_cons_of_mem _ hx)⟩
                  | true =>
                    rw [hv] at hfind
                    obtain rfl : c = cr (addS b m n) (k + 1) := Option.some.inj hfind
                    repeat' first | ((first | (with_reducible apply XBr.tt) | (with_reducible refine XInt.i64 (by omega) (by omega) ?_)); conv => whnf) | ((with_reducible refine XHold.mk ?_ ?_); (first | omega | rfl | decide | exact ⟨rfl, by decide, rfl⟩ | exact wideI _ | exact widePr _ | exact wideSk _ | (unfold Room; constructor <;> ((try simp) <;> omega)) | exact ⟨rfl, by simp only [List.length_map], by unfold Room; constructor <;> ((try simp) <;> omega)⟩ | exact ⟨by omega, by omega, by unfold Room; constructor <;> ((try simp) <;> omega)⟩); conv => whnf) | ((first | (refine XIx.mat (k + 1) (by omega) (by omega) rfl ?_) | ((refine XArr.vec _ rfl (by omega) (by omega) ?_); rw [hv])); conv => whnf) | fail
                    refine .inr ⟨rfl, ?_⟩
                    conv => whnf
                    repeat' first | ((with_reducible refine XInt.i64 (by omega) (by omega) ?_); conv => whnf) | fail
                    refine XAgainM.go (k + 1) [.cells [natA k], .raw (.deferred (some [])), .dead] (by omega) (by omega) ?_ ⟨rfl, rfl, rfl, rfl, rfl, rfl, rfl, trivial⟩ (Nat.le_refl _) ?_ ?_ (by simp) (fun i hi => by rw [List.mem_singleton] at hi; subst hi; exact ⟨show 19 ≤ 19 + 1 by omega, rfl⟩)
                    · rw [crL_next (addS b m n) (k + 1), List.length_append]
                      unfold ints
                      rw [List.map_append]; rfl
                    · intro z hz
                      simp only [List.mem_cons, List.not_mem_nil, or_false] at hz
                      rcases hz with rfl | rfl | rfl | rfl | rfl | rfl | rfl | rfl | rfl | rfl | rfl | rfl | rfl | rfl | rfl | rfl | rfl | rfl | rfl <;> first | rfl | exact lowI _ | exact amtC_low _ _ _
                    · intro z hz
                      simp only [List.mem_cons, List.not_mem_nil, or_false] at hz
                      rcases hz with rfl | rfl | rfl | rfl | rfl | rfl | rfl <;> first | rfl | exact dskL _
              · obtain rfl : k = b.months.length := by omega
                repeat' first | ((with_reducible apply XBr.dec) <;> (intro h; first | (exfalso; omega) | ((try simp only [List.length_map] at h); first | (exfalso; omega) | (conv => whnf)))) | fail
                exact ⟨Froz.tup (.cons (Froz.grow rfl hcl (lowI _)) (.cons (.low rfl) .nil))⟩
        | true =>
          have hb := hw hnl
          have hS : b.surveys.length = 0 := by rw [hb]; rfl
          have hsu : sus (addS b m n).surveys = [suA ⟨m, n, n⟩] := by show (b.surveys ++ [_]).map suA = _; rw [hb]; rfl
          refine Comp.body (T := tab) (res := [.tmp 6, .tmp 7]) tab_ok [3, 50] Try.func68 rfl (by kernel_rfl) Try.ntmps68 rfl (by simp only [List.length_cons, List.length_nil]; decide) (by simp only [lowL, bedL, AV.low]; rfl) ?_; conv => whnf
          repeat' first | ((with_reducible apply XBr.tt); conv => whnf) | (with_reducible apply XBr.not) | ((with_reducible apply XBr.bne) <;> (intro h; first | (exfalso; omega) | (conv => whnf))) | ((with_reducible refine XHold.mk ?_ ?_); (first | omega | rfl | decide | exact ⟨rfl, by decide, rfl⟩ | exact wideI _ | exact widePr _ | exact wideSk _ | (unfold Room; constructor <;> ((try simp) <;> omega)) | exact ⟨rfl, by simp only [List.length_map], by unfold Room; constructor <;> ((try simp) <;> omega)⟩ | exact ⟨by omega, by omega, by unfold Room; constructor <;> ((try simp) <;> omega)⟩); conv => whnf) | ((first | (refine XCall.ret hck ?_) | (refine XCall.ret hinm ?_) | (refine XCall.ret ham ?_)); conv => whnf) | (refine XCall.inl (T := tab) (res := [.tmp 2]) tab_ok [] Try.func146 rfl (by kernel_rfl) Try.ntmps146 rfl (by simp only [List.length_append, List.length_cons, List.length_nil]; decide) ?_; conv => whnf) | ((with_reducible refine XBr.yes hnl ?_); conv => whnf) | fail
          iterate 11 refine Walk.nilrow 3 ?_
          refine Walk.thenKeep ?_
          refine Walk.loopGK tab_ok [] [(3, .ptr 0 0), (6, _), (7, _), (10, .ptr 3 0), (52, .gr 1 (b.surveys.length + 1)), (53, .int .i64 (b.surveys.length + 1 : Nat))] ⟨rfl, rfl, rfl, rfl, by first | rfl | (rw [hS] <;> rfl) | (show some (AV.gr 1 _) = _; rw [List.length_map] <;> rfl), by first | rfl | (rw [hS] <;> rfl) | (show some (AV.int _ _) = _; rw [List.length_map] <;> rfl), trivial⟩ (fun j : Nat => j ≤ b.surveys.length + 1) (fun j => [(54, natA j)]) (fun j => [.cells (bedG b 1 (b.surveys.length + 1)), .grow 122 false (sus (addS b m n).surveys), .map (esT 4 (addS b m n) j), .cells (bedG b 1 (b.surveys.length + 1) ++ [.mp 2]), rowB (addS b m n) j 0, rowB (addS b m n) j 1, rowB (addS b m n) j 2, rowB (addS b m n) j 3, rowB (addS b m n) j 4, rowB (addS b m n) j 5, rowB (addS b m n) j 6, rowB (addS b m n) j 7, rowB (addS b m n) j 8, rowB (addS b m n) j 9, rowB (addS b m n) j 10]) (fun j => b.surveys.length + 1 - j) 0 (Nat.zero_le _) (by first | (rw [hsu] <;> rfl) | (rw [hsu, hS] <;> rfl) | (rw [hsu]; show [Blk.cells (bedG b 1 (b.surveys.length + 1)), _, _, Blk.cells (bedG b 1 (b.surveys.length + 1) ++ _), _, _, _, _, _, _, _, _, _, _, _] = _; rw [← hsl] <;> rfl)) ⟨rfl, trivial⟩ ?_ (fun _ _ => (show (15 : Nat) ≤ 15 from Nat.le_refl 15)) ?_
          · intro q hq
            refine ⟨fun z hz => ?_, fun z hz => ?_⟩
            · simp only [List.mem_cons, List.not_mem_nil, or_false] at hz
              rcases hz with rfl | rfl | rfl | rfl | rfl | rfl | rfl | rfl | rfl | rfl | rfl | rfl | rfl | rfl | rfl <;> first | exact sus_low _ | exact esT_low 4 _ hsm q (by omega) | exact lowI _ | (simp only [Blk.low, bedG, List.cons_append, List.nil_append, lowL, AV.low, lowMo]; rfl)
            · simp only [List.cons_append, List.nil_append, List.mem_cons, List.not_mem_nil, or_false] at hz
              rcases hz with rfl | rfl | rfl | rfl | rfl | rfl | rfl <;> rfl
          intro j hj
          conv => whnf
          by_cases hlt : j < b.surveys.length + 1
          · have hsv := hsm _ (getD_mem (xs := (addS b m n).surveys) (i := j) (d := default) (by omega))
            have hg := esT_get 4 (addS b m n) (fun s h => (hsm s h).1) j (by omega)
            have hes : esT 4 (addS b m n) (j + 1) = mput ((addS b m n).surveys.getD j default).m (.gr (4 + ((addS b m n).surveys.getD j default).m.toNat) (rowS (addS b m n) (j + 1) ((addS b m n).surveys.getD j default).m.toNat).length) (esT 4 (addS b m n) j) := rfl
            have hrl : ∀ k, (rowS (addS b m n) j k).length ≤ j := fun k => by unfold rowS; rw [List.length_map]; exact Nat.le_trans (List.length_filter_le _ _) (by simp)
            have hsul : (sus (addS b m n).surveys).length = b.surveys.length + 1 := by unfold sus; rw [List.length_map]; exact hlB
            repeat' first | ((with_reducible apply XBr.dec) <;> (intro h; first | (exfalso; omega) | ((try simp only [List.length_map] at h); first | (exfalso; omega) | (conv => whnf)))) | ((first | (refine XHold.mk ⟨hsul, rfl, by omega, by omega⟩ ?_) | (refine XGet.susJ j (by omega) hlB.symm (by omega) ?_)); conv => whnf) | fail
            obtain ⟨k, hk10, hkm⟩ : ∃ k : Nat, k ≤ 10 ∧ ((addS b m n).surveys.getD j default).m = k := ⟨((addS b m n).surveys.getD j default).m.toNat, by omega, by omega⟩
            rw [hkm] at hes ⊢
            rw [Int.toNat_natCast, rowS_hit hkm] at hes
            have hkk : k = 0 ∨ k = 1 ∨ k = 2 ∨ k = 3 ∨ k = 4 ∨ k = 5 ∨ k = 6 ∨ k = 7 ∨ k = 8 ∨ k = 9 ∨ k = 10 := by omega
            rcases hkk with rfl | rfl | rfl | rfl | rfl | rfl | rfl | rfl | rfl | rfl | rfl
            · have hl := hrl 0
              have hgk := hg 0
              apply Walk.drawX tab_ok mixed_ok [] [15, 16] (hsV _ [id, fun H => H.set 4 (.grow 3 ((rowS (addS b m n) j 0).isEmpty && false) (ints (rowS (addS b m n) j 0) ++ [natA j])), fun H => (H.set 4 (.grow 3 ((rowS (addS b m n) j 0).isEmpty && false) (ints (rowS (addS b m n) j 0) ++ [natA j]))).set 2 (.map (mput 0 (.gr 4 ((rowS (addS b m n) j 0).length + 1)) (esT 4 (addS b m n) j)))]) [_, _, _, _, _, _, _, _, _, _, _, _, .gr 4 (rowS (addS b m n) j 0).length, _, _, .gr 4 ((rowS (addS b m n) j 0).length + 1), _] (by kernel_rfl) rfl
              · skip
                repeat' first | ((with_reducible refine XHold.mk ?_ ?_); (first | omega | rfl | decide | exact ⟨rfl, by decide, rfl⟩ | exact wideI _ | exact widePr _ | exact wideSk _ | (unfold Room; constructor <;> ((try simp) <;> omega)) | exact ⟨rfl, by simp only [List.length_map], by unfold Room; constructor <;> ((try simp) <;> omega)⟩ | exact ⟨by omega, by omega, by unfold Room; constructor <;> ((try simp) <;> omega)⟩); conv => whnf) | (with_reducible apply XAnd.mk) | ((first | (with_reducible apply Chk.go) | (with_reducible apply ChkA.go)); conv => whnf) | (exact XSame.mk rfl rfl) | (with_reducible exact trivial) | ((refine XGetM.rowI (te := 3) (xs := rowS (addS b m n) j 0) 4 rfl hgk ?_); conv => whnf) | fail
              · skip
                repeat' first | (with_reducible apply XAnd.mk) | ((first | (with_reducible apply Chk.go) | (with_reducible apply ChkF.go) | (with_reducible apply ChkB.go)); conv => whnf) | (exact XSame.mk rfl rfl) | (with_reducible exact trivial) | fail
              conv => whnf
              repeat' first | ((with_reducible refine XInt.i64 (by omega) (by omega) ?_); conv => whnf) | fail
              refine XAgainG.go (j + 1) [.cells [.int .i64 0, .int .i64 ((addS b m n).surveys.getD j default).lo, .int .i64 ((addS b m n).surveys.getD j default).hi]] (by omega) (by omega) ?_ ⟨rfl, rfl, rfl, rfl, rfl, rfl, rfl, trivial⟩
              rw [hes, rowB_hit hkm, rowB_same (q := 1) (by rw [hkm]; decide), rowB_same (q := 2) (by rw [hkm]; decide), rowB_same (q := 3) (by rw [hkm]; decide), rowB_same (q := 4) (by rw [hkm]; decide), rowB_same (q := 5) (by rw [hkm]; decide), rowB_same (q := 6) (by rw [hkm]; decide), rowB_same (q := 7) (by rw [hkm]; decide), rowB_same (q := 8) (by rw [hkm]; decide), rowB_same (q := 9) (by rw [hkm]; decide), rowB_same (q := 10) (by rw [hkm]; decide)]
              rfl
            · have hl := hrl 1
              have hgk := hg 1
              apply Walk.drawX tab_ok mixed_ok [] [15, 16] (hsV _ [id, fun H => H.set 5 (.grow 3 ((rowS (addS b m n) j 1).isEmpty && false) (ints (rowS (addS b m n) j 1) ++ [natA j])), fun H => (H.set 5 (.grow 3 ((rowS (addS b m n) j 1).isEmpty && false) (ints (rowS (addS b m n) j 1) ++ [natA j]))).set 2 (.map (mput 1 (.gr 5 ((rowS (addS b m n) j 1).length + 1)) (esT 4 (addS b m n) j)))]) [_, _, _, _, _, _, _, _, _, _, _, _, .gr 5 (rowS (addS b m n) j 1).length, _, _, .gr 5 ((rowS (addS b m n) j 1).length + 1), _] (by kernel_rfl) rfl
              · skip
                repeat' first | ((with_reducible refine XHold.mk ?_ ?_); (first | omega | rfl | decide | exact ⟨rfl, by decide, rfl⟩ | exact wideI _ | exact widePr _ | exact wideSk _ | (unfold Room; constructor <;> ((try simp) <;> omega)) | exact ⟨rfl, by simp only [List.length_map], by unfold Room; constructor <;> ((try simp) <;> omega)⟩ | exact ⟨by omega, by omega, by unfold Room; constructor <;> ((try simp) <;> omega)⟩); conv => whnf) | (with_reducible apply XAnd.mk) | ((first | (with_reducible apply Chk.go) | (with_reducible apply ChkA.go)); conv => whnf) | (exact XSame.mk rfl rfl) | (with_reducible exact trivial) | ((refine XGetM.rowI (te := 3) (xs := rowS (addS b m n) j 1) 5 rfl hgk ?_); conv => whnf) | fail
              · skip
                repeat' first | (with_reducible apply XAnd.mk) | ((first | (with_reducible apply Chk.go) | (with_reducible apply ChkF.go) | (with_reducible apply ChkB.go)); conv => whnf) | (exact XSame.mk rfl rfl) | (with_reducible exact trivial) | fail
              conv => whnf
              repeat' first | ((with_reducible refine XInt.i64 (by omega) (by omega) ?_); conv => whnf) | fail
              refine XAgainG.go (j + 1) [.cells [.int .i64 1, .int .i64 ((addS b m n).surveys.getD j default).lo, .int .i64 ((addS b m n).surveys.getD j default).hi]] (by omega) (by omega) ?_ ⟨rfl, rfl, rfl, rfl, rfl, rfl, rfl, trivial⟩
              rw [hes, rowB_same (q := 0) (by rw [hkm]; decide), rowB_hit hkm, rowB_same (q := 2) (by rw [hkm]; decide), rowB_same (q := 3) (by rw [hkm]; decide), rowB_same (q := 4) (by rw [hkm]; decide), rowB_same (q := 5) (by rw [hkm]; decide), rowB_same (q := 6) (by rw [hkm]; decide), rowB_same (q := 7) (by rw [hkm]; decide), rowB_same (q := 8) (by rw [hkm]; decide), rowB_same (q := 9) (by rw [hkm]; decide), rowB_same (q := 10) (by rw [hkm]; decide)]
              rfl
            · have hl := hrl 2
              have hgk := hg 2
              apply Walk.drawX tab_ok mixed_ok [] [15, 16] (hsV _ [id, fun H => H.set 6 (.grow 3 ((rowS (addS b m n) j 2).isEmpty && false) (ints (rowS (addS b m n) j 2) ++ [natA j])), fun H => (H.set 6 (.grow 3 ((rowS (addS b m n) j 2).isEmpty && false) (ints (rowS (addS b m n) j 2) ++ [natA j]))).set 2 (.map (mput 2 (.gr 6 ((rowS (addS b m n) j 2).length + 1)) (esT 4 (addS b m n) j)))]) [_, _, _, _, _, _, _, _, _, _, _, _, .gr 6 (rowS (addS b m n) j 2).length, _, _, .gr 6 ((rowS (addS b m n) j 2).length + 1), _] (by kernel_rfl) rfl
              · skip
                repeat' first | ((with_reducible refine XHold.mk ?_ ?_); (first | omega | rfl | decide | exact ⟨rfl, by decide, rfl⟩ | exact wideI _ | exact widePr _ | exact wideSk _ | (unfold Room; constructor <;> ((try simp) <;> omega)) | exact ⟨rfl, by simp only [List.length_map], by unfold Room; constructor <;> ((try simp) <;> omega)⟩ | exact ⟨by omega, by omega, by unfold Room; constructor <;> ((try simp) <;> omega)⟩); conv => whnf) | (with_reducible apply XAnd.mk) | ((first | (with_reducible apply Chk.go) | (with_reducible apply ChkA.go)); conv => whnf) | (exact XSame.mk rfl rfl) | (with_reducible exact trivial) | ((refine XGetM.rowI (te := 3) (xs := rowS (addS b m n) j 2) 6 rfl hgk ?_); conv => whnf) | fail
              · skip
                repeat' first | (with_reducible apply XAnd.mk) | ((first | (with_reducible apply Chk.go) | (with_reducible apply ChkF.go) | (with_reducible apply ChkB.go)); conv => whnf) | (exact XSame.mk rfl rfl) | (with_reducible exact trivial) | fail
              conv => whnf
              repeat' first | ((with_reducible refine XInt.i64 (by omega) (by omega) ?_); conv => whnf) | fail
              refine XAgainG.go (j + 1) [.cells [.int .i64 2, .int .i64 ((addS b m n).surveys.getD j default).lo, .int .i64 ((addS b m n).surveys.getD j default).hi]] (by omega) (by omega) ?_ ⟨rfl, rfl, rfl, rfl, rfl, rfl, rfl, trivial⟩
              rw [hes, rowB_same (q := 0) (by rw [hkm]; decide), rowB_same (q := 1) (by rw [hkm]; decide), rowB_hit hkm, rowB_same (q := 3) (by rw [hkm]; decide), rowB_same (q := 4) (by rw [hkm]; decide), rowB_same (q := 5) (by rw [hkm]; decide), rowB_same (q := 6) (by rw [hkm]; decide), rowB_same (q := 7) (by rw [hkm]; decide), rowB_same (q := 8) (by rw [hkm]; decide), rowB_same (q := 9) (by rw [hkm]; decide), rowB_same (q := 10) (by rw [hkm]; decide)]
              rfl
            · have hl := hrl 3
              have hgk := hg 3
              apply Walk.drawX tab_ok mixed_ok [] [15, 16] (hsV _ [id, fun H => H.set 7 (.grow 3 ((rowS (addS b m n) j 3).isEmpty && false) (ints (rowS (addS b m n) j 3) ++ [natA j])), fun H => (H.set 7 (.grow 3 ((rowS (addS b m n) j 3).isEmpty && false) (ints (rowS (addS b m n) j 3) ++ [natA j]))).set 2 (.map (mput 3 (.gr 7 ((rowS (addS b m n) j 3).length + 1)) (esT 4 (addS b m n) j)))]) [_, _, _, _, _, _, _, _, _, _, _, _, .gr 7 (rowS (addS b m n) j 3).length, _, _, .gr 7 ((rowS (addS b m n) j 3).length + 1), _] (by kernel_rfl) rfl
              · skip
                repeat' first | ((with_reducible refine XHold.mk ?_ ?_); (first | omega | rfl | decide | exact ⟨rfl, by decide, rfl⟩ | exact wideI _ | exact widePr _ | exact wideSk _ | (unfold Room; constructor <;> ((try simp) <;> omega)) | exact ⟨rfl, by simp only [List.length_map], by unfold Room; constructor <;> ((try simp) <;> omega)⟩ | exact ⟨by omega, by omega, by unfold Room; constructor <;> ((try simp) <;> omega)⟩); conv => whnf) | (with_reducible apply XAnd.mk) | ((first | (with_reducible apply Chk.go) | (with_reducible apply ChkA.go)); conv => whnf) | (exact XSame.mk rfl rfl) | (with_reducible exact trivial) | ((refine XGetM.rowI (te := 3) (xs := rowS (addS b m n) j 3) 7 rfl hgk ?_); conv => whnf) | fail
              · skip
                repeat' first | (with_reducible apply XAnd.mk) | ((first | (with_reducible apply Chk.go) | (with_reducible apply ChkF.go) | (with_reducible apply ChkB.go)); conv => whnf) | (exact XSame.mk rfl rfl) | (with_reducible exact trivial) | fail
              conv => whnf
              repeat' first | ((with_reducible refine XInt.i64 (by omega) (by omega) ?_); conv => whnf) | fail
              refine XAgainG.go (j + 1) [.cells [.int .i64 3, .int .i64 ((addS b m n).surveys.getD j default).lo, .int .i64 ((addS b m n).surveys.getD j default).hi]] (by omega) (by omega) ?_ ⟨rfl, rfl, rfl, rfl, rfl, rfl, rfl, trivial⟩
              rw [hes, rowB_same (q := 0) (by rw [hkm]; decide), rowB_same (q := 1) (by rw [hkm]; decide), rowB_same (q := 2) (by rw [hkm]; decide), rowB_hit hkm, rowB_same (q := 4) (by rw [hkm]; decide), rowB_same (q := 5) (by rw [hkm]; decide), rowB_same (q := 6) (by rw [hkm]; decide), rowB_same (q := 7) (by rw [hkm]; decide), rowB_same (q := 8) (by rw [hkm]; decide), rowB_same (q := 9) (by rw [hkm]; decide), rowB_same (q := 10) (by rw [hkm]; decide)]
              rfl
            · have hl := hrl 4
              have hgk := hg 4
              apply Walk.drawX tab_ok mixed_ok [] [15, 16] (hsV _ [id, fun H => H.set 8 (.grow 3 ((rowS (addS b m n) j 4).isEmpty && false) (ints (rowS (addS b m n) j 4) ++ [natA j])), fun H => (H.set 8 (.grow 3 ((rowS (addS b m n) j 4).isEmpty && false) (ints (rowS (addS b m n) j 4) ++ [natA j]))).set 2 (.map (mput 4 (.gr 8 ((rowS (addS b m n) j 4).length + 1)) (esT 4 (addS b m n) j)))]) [_, _, _, _, _, _, _, _, _, _, _, _, .gr 8 (rowS (addS b m n) j 4).length, _, _, .gr 8 ((rowS (addS b m n) j 4).length + 1), _] (by kernel_rfl) rfl
              · skip
                repeat' first | ((with_reducible refine XHold.mk ?_ ?_); (first | omega | rfl | decide | exact ⟨rfl, by decide, rfl⟩ | exact wideI _ | exact widePr _ | exact wideSk _ | (unfold Room; constructor <;> ((try simp) <;> omega)) | exact ⟨rfl, by simp only [List.length_map], by unfold Room; constructor <;> ((try simp) <;> omega)⟩ | exact ⟨by omega, by omega, by unfold Room; constructor <;> ((try simp) <;> omega)⟩); conv => whnf) | (with_reducible apply XAnd.mk) | ((first | (with_reducible apply Chk.go) | (with_reducible apply ChkA.go)); conv => whnf) | (exact XSame.mk rfl rfl) | (with_reducible exact trivial) | ((refine XGetM.rowI (te := 3) (xs := rowS (addS b m n) j 4) 8 rfl hgk ?_); conv => whnf) | fail
              · skip
                repeat' first | (with_reducible apply XAnd.mk) | ((first | (with_reducible apply Chk.go) | (with_reducible apply ChkF.go) | (with_reducible apply ChkB.go)); conv => whnf) | (exact XSame.mk rfl rfl) | (with_reducible exact trivial) | fail
              conv => whnf
              repeat' first | ((with_reducible refine XInt.i64 (by omega) (by omega) ?_); conv => whnf) | fail
              refine XAgainG.go (j + 1) [.cells [.int .i64 4, .int .i64 ((addS b m n).surveys.getD j default).lo, .int .i64 ((addS b m n).surveys.getD j default).hi]] (by omega) (by omega) ?_ ⟨rfl, rfl, rfl, rfl, rfl, rfl, rfl, trivial⟩
              rw [hes, rowB_same (q := 0) (by rw [hkm]; decide), rowB_same (q := 1) (by rw [hkm]; decide), rowB_same (q := 2) (by rw [hkm]; decide), rowB_same (q := 3) (by rw [hkm]; decide), rowB_hit hkm, rowB_same (q := 5) (by rw [hkm]; decide), rowB_same (q := 6) (by rw [hkm]; decide), rowB_same (q := 7) (by rw [hkm]; decide), rowB_same (q := 8) (by rw [hkm]; decide), rowB_same (q := 9) (by rw [hkm]; decide), rowB_same (q := 10) (by rw [hkm]; decide)]
              rfl
            · have hl := hrl 5
              have hgk := hg 5
              apply Walk.drawX tab_ok mixed_ok [] [15, 16] (hsV _ [id, fun H => H.set 9 (.grow 3 ((rowS (addS b m n) j 5).isEmpty && false) (ints (rowS (addS b m n) j 5) ++ [natA j])), fun H => (H.set 9 (.grow 3 ((rowS (addS b m n) j 5).isEmpty && false) (ints (rowS (addS b m n) j 5) ++ [natA j]))).set 2 (.map (mput 5 (.gr 9 ((rowS (addS b m n) j 5).length + 1)) (esT 4 (addS b m n) j)))]) [_, _, _, _, _, _, _, _, _, _, _, _, .gr 9 (rowS (addS b m n) j 5).length, _, _, .gr 9 ((rowS (addS b m n) j 5).length + 1), _] (by kernel_rfl) rfl
              · skip
                repeat' first | ((with_reducible refine XHold.mk ?_ ?_); (first | omega | rfl | decide | exact ⟨rfl, by decide, rfl⟩ | exact wideI _ | exact widePr _ | exact wideSk _ | (unfold Room; constructor <;> ((try simp) <;> omega)) | exact ⟨rfl, by simp only [List.length_map], by unfold Room; constructor <;> ((try simp) <;> omega)⟩ | exact ⟨by omega, by omega, by unfold Room; constructor <;> ((try simp) <;> omega)⟩); conv => whnf) | (with_reducible apply XAnd.mk) | ((first | (with_reducible apply Chk.go) | (with_reducible apply ChkA.go)); conv => whnf) | (exact XSame.mk rfl rfl) | (with_reducible exact trivial) | ((refine XGetM.rowI (te := 3) (xs := rowS (addS b m n) j 5) 9 rfl hgk ?_); conv => whnf) | fail
              · skip
                repeat' first | (with_reducible apply XAnd.mk) | ((first | (with_reducible apply Chk.go) | (with_reducible apply ChkF.go) | (with_reducible apply ChkB.go)); conv => whnf) | (exact XSame.mk rfl rfl) | (with_reducible exact trivial) | fail
              conv => whnf
              repeat' first | ((with_reducible refine XInt.i64 (by omega) (by omega) ?_); conv => whnf) | fail
              refine XAgainG.go (j + 1) [.cells [.int .i64 5, .int .i64 ((addS b m n).surveys.getD j default).lo, .int .i64 ((addS b m n).surveys.getD j default).hi]] (by omega) (by omega) ?_ ⟨rfl, rfl, rfl, rfl, rfl, rfl, rfl, trivial⟩
              rw [hes, rowB_same (q := 0) (by rw [hkm]; decide), rowB_same (q := 1) (by rw [hkm]; decide), rowB_same (q := 2) (by rw [hkm]; decide), rowB_same (q := 3) (by rw [hkm]; decide), rowB_same (q := 4) (by rw [hkm]; decide), rowB_hit hkm, rowB_same (q := 6) (by rw [hkm]; decide), rowB_same (q := 7) (by rw [hkm]; decide), rowB_same (q := 8) (by rw [hkm]; decide), rowB_same (q := 9) (by rw [hkm]; decide), rowB_same (q := 10) (by rw [hkm]; decide)]
              rfl
            · have hl := hrl 6
              have hgk := hg 6
              apply Walk.drawX tab_ok mixed_ok [] [15, 16] (hsV _ [id, fun H => H.set 10 (.grow 3 ((rowS (addS b m n) j 6).isEmpty && false) (ints (rowS (addS b m n) j 6) ++ [natA j])), fun H => (H.set 10 (.grow 3 ((rowS (addS b m n) j 6).isEmpty && false) (ints (rowS (addS b m n) j 6) ++ [natA j]))).set 2 (.map (mput 6 (.gr 10 ((rowS (addS b m n) j 6).length + 1)) (esT 4 (addS b m n) j)))]) [_, _, _, _, _, _, _, _, _, _, _, _, .gr 10 (rowS (addS b m n) j 6).length, _, _, .gr 10 ((rowS (addS b m n) j 6).length + 1), _] (by kernel_rfl) rfl
              · skip
                repeat' first | ((with_reducible refine XHold.mk ?_ ?_); (first | omega | rfl | decide | exact ⟨rfl, by decide, rfl⟩ | exact wideI _ | exact widePr _ | exact wideSk _ | (unfold Room; constructor <;> ((try simp) <;> omega)) | exact ⟨rfl, by simp only [List.length_map], by unfold Room; constructor <;> ((try simp) <;> omega)⟩ | exact ⟨by omega, by omega, by unfold Room; constructor <;> ((try simp) <;> omega)⟩); conv => whnf) | (with_reducible apply XAnd.mk) | ((first | (with_reducible apply Chk.go) | (with_reducible apply ChkA.go)); conv => whnf) | (exact XSame.mk rfl rfl) | (with_reducible exact trivial) | ((refine XGetM.rowI (te := 3) (xs := rowS (addS b m n) j 6) 10 rfl hgk ?_); conv => whnf) | fail
              · skip
                repeat' first | (with_reducible apply XAnd.mk) | ((first | (with_reducible apply Chk.go) | (with_reducible apply ChkF.go) | (with_reducible apply ChkB.go)); conv => whnf) | (exact XSame.mk rfl rfl) | (with_reducible exact trivial) | fail
              conv => whnf
              repeat' first | ((with_reducible refine XInt.i64 (by omega) (by omega) ?_); conv => whnf) | fail
              refine XAgainG.go (j + 1) [.cells [.int .i64 6, .int .i64 ((addS b m n).surveys.getD j default).lo, .int .i64 ((addS b m n).surveys.getD j default).hi]] (by omega) (by omega) ?_ ⟨rfl, rfl, rfl, rfl, rfl, rfl, rfl, trivial⟩
              rw [hes, rowB_same (q := 0) (by rw [hkm]; decide), rowB_same (q := 1) (by rw [hkm]; decide), rowB_same (q := 2) (by rw [hkm]; decide), rowB_same (q := 3) (by rw [hkm]; decide), rowB_same (q := 4) (by rw [hkm]; decide), rowB_same (q := 5) (by rw [hkm]; decide), rowB_hit hkm, rowB_same (q := 7) (by rw [hkm]; decide), rowB_same (q := 8) (by rw [hkm]; decide), rowB_same (q := 9) (by rw [hkm]; decide), rowB_same (q := 10) (by rw [hkm]; decide)]
              rfl
            · have hl := hrl 7
              have hgk := hg 7
              apply Walk.drawX tab_ok mixed_ok [] [15, 16] (hsV _ [id, fun H => H.set 11 (.grow 3 ((rowS (addS b m n) j 7).isEmpty && false) (ints (rowS (addS b m n) j 7) ++ [natA j])), fun H => (H.set 11 (.grow 3 ((rowS (addS b m n) j 7).isEmpty && false) (ints (rowS (addS b m n) j 7) ++ [natA j]))).set 2 (.map (mput 7 (.gr 11 ((rowS (addS b m n) j 7).length + 1)) (esT 4 (addS b m n) j)))]) [_, _, _, _, _, _, _, _, _, _, _, _, .gr 11 (rowS (addS b m n) j 7).length, _, _, .gr 11 ((rowS (addS b m n) j 7).length + 1), _] (by kernel_rfl) rfl
              · skip
                repeat' first | ((with_reducible refine XHold.mk ?_ ?_); (first | omega | rfl | decide | exact ⟨rfl, by decide, rfl⟩ | exact wideI _ | exact widePr _ | exact wideSk _ | (unfold Room; constructor <;> ((try simp) <;> omega)) | exact ⟨rfl, by simp only [List.length_map], by unfold Room; constructor <;> ((try simp) <;> omega)⟩ | exact ⟨by omega, by omega, by unfold Room; constructor <;> ((try simp) <;> omega)⟩); conv => whnf) | (with_reducible apply XAnd.mk) | ((first | (with_reducible apply Chk.go) | (with_reducible apply ChkA.go)); conv => whnf) | (exact XSame.mk rfl rfl) | (with_reducible exact trivial) | ((refine XGetM.rowI (te := 3) (xs := rowS (addS b m n) j 7) 11 rfl hgk ?_); conv => whnf) | fail
              · skip
                repeat' first | (with_reducible apply XAnd.mk) | ((first | (with_reducible apply Chk.go) | (with_reducible apply ChkF.go) | (with_reducible apply ChkB.go)); conv => whnf) | (exact XSame.mk rfl rfl) | (with_reducible exact trivial) | fail
              conv => whnf
              repeat' first | ((with_reducible refine XInt.i64 (by omega) (by omega) ?_); conv => whnf) | fail
              refine XAgainG.go (j + 1) [.cells [.int .i64 7, .int .i64 ((addS b m n).surveys.getD j default).lo, .int .i64 ((addS b m n).surveys.getD j default).hi]] (by omega) (by omega) ?_ ⟨rfl, rfl, rfl, rfl, rfl, rfl, rfl, trivial⟩
              rw [hes, rowB_same (q := 0) (by rw [hkm]; decide), rowB_same (q := 1) (by rw [hkm]; decide), rowB_same (q := 2) (by rw [hkm]; decide), rowB_same (q := 3) (by rw [hkm]; decide), rowB_same (q := 4) (by rw [hkm]; decide), rowB_same (q := 5) (by rw [hkm]; decide), rowB_same (q := 6) (by rw [hkm]; decide), rowB_hit hkm, rowB_same (q := 8) (by rw [hkm]; decide), rowB_same (q := 9) (by rw [hkm]; decide), rowB_same (q := 10) (by rw [hkm]; decide)]
              rfl
            · have hl := hrl 8
              have hgk := hg 8
              apply Walk.drawX tab_ok mixed_ok [] [15, 16] (hsV _ [id, fun H => H.set 12 (.grow 3 ((rowS (addS b m n) j 8).isEmpty && false) (ints (rowS (addS b m n) j 8) ++ [natA j])), fun H => (H.set 12 (.grow 3 ((rowS (addS b m n) j 8).isEmpty && false) (ints (rowS (addS b m n) j 8) ++ [natA j]))).set 2 (.map (mput 8 (.gr 12 ((rowS (addS b m n) j 8).length + 1)) (esT 4 (addS b m n) j)))]) [_, _, _, _, _, _, _, _, _, _, _, _, .gr 12 (rowS (addS b m n) j 8).length, _, _, .gr 12 ((rowS (addS b m n) j 8).length + 1), _] (by kernel_rfl) rfl
              · skip
                repeat' first | ((with_reducible refine XHold.mk ?_ ?_); (first | omega | rfl | decide | exact ⟨rfl, by decide, rfl⟩ | exact wideI _ | exact widePr _ | exact wideSk _ | (unfold Room; constructor <;> ((try simp) <;> omega)) | exact ⟨rfl, by simp only [List.length_map], by unfold Room; constructor <;> ((try simp) <;> omega)⟩ | exact ⟨by omega, by omega, by unfold Room; constructor <;> ((try simp) <;> omega)⟩); conv => whnf) | (with_reducible apply XAnd.mk) | ((first | (with_reducible apply Chk.go) | (with_reducible apply ChkA.go)); conv => whnf) | (exact XSame.mk rfl rfl) | (with_reducible exact trivial) | ((refine XGetM.rowI (te := 3) (xs := rowS (addS b m n) j 8) 12 rfl hgk ?_); conv => whnf) | fail
              · skip
                repeat' first | (with_reducible apply XAnd.mk) | ((first | (with_reducible apply Chk.go) | (with_reducible apply ChkF.go) | (with_reducible apply ChkB.go)); conv => whnf) | (exact XSame.mk rfl rfl) | (with_reducible exact trivial) | fail
              conv => whnf
              repeat' first | ((with_reducible refine XInt.i64 (by omega) (by omega) ?_); conv => whnf) | fail
              refine XAgainG.go (j + 1) [.cells [.int .i64 8, .int .i64 ((addS b m n).surveys.getD j default).lo, .int .i64 ((addS b m n).surveys.getD j default).hi]] (by omega) (by omega) ?_ ⟨rfl, rfl, rfl, rfl, rfl, rfl, rfl, trivial⟩
              rw [hes, rowB_same (q := 0) (by rw [hkm]; decide), rowB_same (q := 1) (by rw [hkm]; decide), rowB_same (q := 2) (by rw [hkm]; decide), rowB_same (q := 3) (by rw [hkm]; decide), rowB_same (q := 4) (by rw [hkm]; decide), rowB_same (q := 5) (by rw [hkm]; decide), rowB_same (q := 6) (by rw [hkm]; decide), rowB_same (q := 7) (by rw [hkm]; decide), rowB_hit hkm, rowB_same (q := 9) (by rw [hkm]; decide), rowB_same (q := 10) (by rw [hkm]; decide)]
              rfl
            · have hl := hrl 9
              have hgk := hg 9
              apply Walk.drawX tab_ok mixed_ok [] [15, 16] (hsV _ [id, fun H => H.set 13 (.grow 3 ((rowS (addS b m n) j 9).isEmpty && false) (ints (rowS (addS b m n) j 9) ++ [natA j])), fun H => (H.set 13 (.grow 3 ((rowS (addS b m n) j 9).isEmpty && false) (ints (rowS (addS b m n) j 9) ++ [natA j]))).set 2 (.map (mput 9 (.gr 13 ((rowS (addS b m n) j 9).length + 1)) (esT 4 (addS b m n) j)))]) [_, _, _, _, _, _, _, _, _, _, _, _, .gr 13 (rowS (addS b m n) j 9).length, _, _, .gr 13 ((rowS (addS b m n) j 9).length + 1), _] (by kernel_rfl) rfl
              · skip
                repeat' first | ((with_reducible refine XHold.mk ?_ ?_); (first | omega | rfl | decide | exact ⟨rfl, by decide, rfl⟩ | exact wideI _ | exact widePr _ | exact wideSk _ | (unfold Room; constructor <;> ((try simp) <;> omega)) | exact ⟨rfl, by simp only [List.length_map], by unfold Room; constructor <;> ((try simp) <;> omega)⟩ | exact ⟨by omega, by omega, by unfold Room; constructor <;> ((try simp) <;> omega)⟩); conv => whnf) | (with_reducible apply XAnd.mk) | ((first | (with_reducible apply Chk.go) | (with_reducible apply ChkA.go)); conv => whnf) | (exact XSame.mk rfl rfl) | (with_reducible exact trivial) | ((refine XGetM.rowI (te := 3) (xs := rowS (addS b m n) j 9) 13 rfl hgk ?_); conv => whnf) | fail
              · skip
                repeat' first | (with_reducible apply XAnd.mk) | ((first | (with_reducible apply Chk.go) | (with_reducible apply ChkF.go) | (with_reducible apply ChkB.go)); conv => whnf) | (exact XSame.mk rfl rfl) | (with_reducible exact trivial) | fail
              conv => whnf
              repeat' first | ((with_reducible refine XInt.i64 (by omega) (by omega) ?_); conv => whnf) | fail
              refine XAgainG.go (j + 1) [.cells [.int .i64 9, .int .i64 ((addS b m n).surveys.getD j default).lo, .int .i64 ((addS b m n).surveys.getD j default).hi]] (by omega) (by omega) ?_ ⟨rfl, rfl, rfl, rfl, rfl, rfl, rfl, trivial⟩
              rw [hes, rowB_same (q := 0) (by rw [hkm]; decide), rowB_same (q := 1) (by rw [hkm]; decide), rowB_same (q := 2) (by rw [hkm]; decide), rowB_same (q := 3) (by rw [hkm]; decide), rowB_same (q := 4) (by rw [hkm]; decide), rowB_same (q := 5) (by rw [hkm]; decide), rowB_same (q := 6) (by rw [hkm]; decide), rowB_same (q := 7) (by rw [hkm]; decide), rowB_same (q := 8) (by rw [hkm]; decide), rowB_hit hkm, rowB_same (q := 10) (by rw [hkm]; decide)]
              rfl
            · have hl := hrl 10
              have hgk := hg 10
              apply Walk.drawX tab_ok mixed_ok [] [15, 16] (hsV _ [id, fun H => H.set 14 (.grow 3 ((rowS (addS b m n) j 10).isEmpty && false) (ints (rowS (addS b m n) j 10) ++ [natA j])), fun H => (H.set 14 (.grow 3 ((rowS (addS b m n) j 10).isEmpty && false) (ints (rowS (addS b m n) j 10) ++ [natA j]))).set 2 (.map (mput 10 (.gr 14 ((rowS (addS b m n) j 10).length + 1)) (esT 4 (addS b m n) j)))]) [_, _, _, _, _, _, _, _, _, _, _, _, .gr 14 (rowS (addS b m n) j 10).length, _, _, .gr 14 ((rowS (addS b m n) j 10).length + 1), _] (by kernel_rfl) rfl
              · skip
                repeat' first | ((with_reducible refine XHold.mk ?_ ?_); (first | omega | rfl | decide | exact ⟨rfl, by decide, rfl⟩ | exact wideI _ | exact widePr _ | exact wideSk _ | (unfold Room; constructor <;> ((try simp) <;> omega)) | exact ⟨rfl, by simp only [List.length_map], by unfold Room; constructor <;> ((try simp) <;> omega)⟩ | exact ⟨by omega, by omega, by unfold Room; constructor <;> ((try simp) <;> omega)⟩); conv => whnf) | (with_reducible apply XAnd.mk) | ((first | (with_reducible apply Chk.go) | (with_reducible apply ChkA.go)); conv => whnf) | (exact XSame.mk rfl rfl) | (with_reducible exact trivial) | ((refine XGetM.rowI (te := 3) (xs := rowS (addS b m n) j 10) 14 rfl hgk ?_); conv => whnf) | fail
              · skip
                repeat' first | (with_reducible apply XAnd.mk) | ((first | (with_reducible apply Chk.go) | (with_reducible apply ChkF.go) | (with_reducible apply ChkB.go)); conv => whnf) | (exact XSame.mk rfl rfl) | (with_reducible exact trivial) | fail
              conv => whnf
              repeat' first | ((with_reducible refine XInt.i64 (by omega) (by omega) ?_); conv => whnf) | fail
              refine XAgainG.go (j + 1) [.cells [.int .i64 10, .int .i64 ((addS b m n).surveys.getD j default).lo, .int .i64 ((addS b m n).surveys.getD j default).hi]] (by omega) (by omega) ?_ ⟨rfl, rfl, rfl, rfl, rfl, rfl, rfl, trivial⟩
              rw [hes, rowB_same (q := 0) (by rw [hkm]; decide), rowB_same (q := 1) (by rw [hkm]; decide), rowB_same (q := 2) (by rw [hkm]; decide), rowB_same (q := 3) (by rw [hkm]; decide), rowB_same (q := 4) (by rw [hkm]; decide), rowB_same (q := 5) (by rw [hkm]; decide), rowB_same (q := 6) (by rw [hkm]; decide), rowB_same (q := 7) (by rw [hkm]; decide), rowB_same (q := 8) (by rw [hkm]; decide), rowB_same (q := 9) (by rw [hkm]; decide), rowB_hit hkm]
              rfl
          · obtain rfl : j = b.surveys.length + 1 := by omega
            repeat' first | ((with_reducible apply XBr.dec) <;> (intro h; first | (exfalso; omega) | ((try simp only [List.length_map] at h); first | (exfalso; omega) | (conv => whnf)))) | fail
            refine XKeepE.go [] _ [(3, .pim (bedC (addS b m n))), (6, .sl true []), (7, .int .i64 0), (10, dskA (addS b m n))] rfl (fun x hx => by cases hx) ⟨⟨_, rfl, .all (Froz.ptr rfl (bedOne _) ?_)⟩, ⟨_, rfl, .same rfl⟩, ⟨_, rfl, .same rfl⟩, ⟨_, rfl, .all (Froz.ptr rfl (dskOne _) ?_)⟩, trivial⟩ ?_
            · exact .cons (.low rfl) (.cons (.low rfl) (.cons (.low rfl) (.cons (.low (lowMo _)) (.cons (Froz.grow rfl (by rw [List.length_map]; exact hlB) (sus_low _)) .nil))))
            · refine .cons (.low rfl) (.cons (.low rfl) (.cons (.low rfl) (.cons (.low (lowMo _)) (.cons (Froz.grow rfl (by rw [List.length_map]; exact hlB) (sus_low _)) (.cons ?_ .nil)))))
              have hkB : keyS (addS b m n) = (esT 4 (addS b m n) (b.surveys.length + 1)).map (·.1) := by rw [keyS_B, hlB]
              unfold rowsS
              rw [hkB]
              refine Froz.mp rfl (frozMap _ (fun k => slA (rowT (addS b m n) k.toNat)) _ fun p hp => ?_)
              obtain ⟨h1, h2, h3⟩ := esT_vals 4 (addS b m n) hsm _ (by omega) p hp
              rw [h3]
              obtain ⟨k, hk, hk2⟩ : ∃ k : Nat, k ≤ 10 ∧ p.1.toNat = k := ⟨p.1.toNat, by omega, rfl⟩
              rw [hk2]
              unfold rowT
              rw [hlB]
              have hkk : k = 0 ∨ k = 1 ∨ k = 2 ∨ k = 3 ∨ k = 4 ∨ k = 5 ∨ k = 6 ∨ k = 7 ∨ k = 8 ∨ k = 9 ∨ k = 10 := by omega
              rcases hkk with rfl | rfl | rfl | rfl | rfl | rfl | rfl | rfl | rfl | rfl | rfl <;> exact Froz.grow rfl (List.length_map _) (lowI _)
            conv => whnf
            cases hn : noneB (addS b m n) alwP with
            | true =>
              have hn' : (vecF 121 (cnB (addS b m n) alwP 0) == List.replicate 121 false) = true := hn
              repeat' first | ((first | (refine XCall.ret bAll_c ?_) | (refine XCall.ret hcan ?_) | (refine XIx.mat 0 rfl (by omega) rfl ?_) | (refine xtk_vec rfl ?_) | (refine xeqb0 ?_) | (with_reducible refine XBr.yes hn' ?_)); conv => whnf) | fail
              exact ⟨.low rfl⟩
            | false =>
              have hn' : (vecF 121 (cnB (addS b m n) alwP 0) == List.replicate 121 false) = false := hn
              have hcc := cr_cn okB hn
              have hLn : 0 < (lstF (cnB (addS b m n) alwP 0) 121).length := List.length_pos_of_mem (lstF_mem.2 ⟨cr (addS b m n) 0, by have := cnB_room (hcc 0 (Nat.zero_le _)); have : (addS b m n).room ≤ 120 := okB.r2; omega, hcc 0 (Nat.zero_le _), rfl⟩)
              have hLl : (ints (lstF (cnB (addS b m n) alwP 0) 121)).length = (lstF (cnB (addS b m n) alwP 0) 121).length := ints_len _
              repeat' first | ((first | (refine XCall.ret bAll_c ?_) | (refine XCall.ret hcan ?_) | (refine XIx.mat 0 rfl (by omega) rfl ?_) | (refine xtk_vec rfl ?_) | (refine xeqb0 ?_) | (with_reducible refine XBr.no hn' ?_) | (refine XCall.amList ?_) | (refine XHold.mk ⟨⟨by omega, by omega, by omega, by omega⟩, hLl, rfl⟩ ?_)); conv => whnf) | fail
              refine Walk.truncCell 17 0 16 (lstF (cnB (addS b m n) alwP 0) 121).length 1 rfl rfl rfl hLl hLn ?_
              refine Walk.loopM tab_ok [] (fun k : Nat => k ≤ b.months.length) (fun k => [(6, .sl true []), (7, .int .i64 0), (10, dskA (addS b m n)), (13, .ptr 15 0), (14, .ptr 17 0), (91, .int .i64 ((b.months.map moA).length : Nat)), (92, natA k)]) (fun k => [.dead, .dead, .dead, .dead, .dead, .dead, .dead, .dead, .dead, .dead, .dead, .dead, .dead, .dead, .dead, .cells [.sl false ((matF (b.months.length + 1) 121 (cnB (addS b m n) alwP)).map (arrF .bool))], .dead, .cells [.gr 18 (crL (addS b m n) (k + 1)).length], .grow 3 false (ints (crL (addS b m n) (k + 1)))]) (fun k => b.months.length - k) 0 19 (Nat.zero_le _) (by rw [← crL_one (addS b m n) rfl hLn, crL_len] <;> rfl) rfl ⟨rfl, rfl, rfl, rfl, rfl, rfl, rfl, trivial⟩ ?_
              intro k hk
              have hcl : (ints (crL (addS b m n) (k + 1))).length = (crL (addS b m n) (k + 1)).length := ints_len _
              have hcl2 : (crL (addS b m n) (k + 1)).length = k + 1 := crL_len _ _
              conv => whnf
              by_cases hltk : k < b.months.length
              · have hgk : (crL (addS b m n) (k + 1)).getD k default = (cr (addS b m n) k : Int) := crL_get _ (by omega)
                have hck := cnB_room (hcc k (by show k ≤ b.months.length; omega))
                have hlv := bLeaves_c (addS b m n) okB k (cr (addS b m n) k) hltk
                have hck1 : (cr (addS b m n) k : Int) ≤ b.room := hck
                repeat' first | ((with_reducible apply XBr.dec) <;> (intro h; first | (exfalso; omega) | ((try simp only [List.length_map] at h); first | (exfalso; omega) | (conv => whnf)))) | (with_reducible apply XAnd.mk) | ((first | (with_reducible apply Chk.go) | (with_reducible apply ChkA.go) | (with_reducible apply ChkF.go) | (with_reducible apply ChkB.go)); conv => whnf) | (exact XSame.mk rfl rfl) | (with_reducible exact trivial) | (apply Walk.drawN (id := 23) tab_ok mixed_ok [3, 50] [] (hsU _) [_, _, _, _, _, _, _] (by kernel_rfl) rfl) | ((first | (with_reducible apply XNext.mk) | (refine XHold.mk ⟨hcl, rfl, by omega, by omega⟩ ?_) | ((refine XGet.intJ k (by omega) rfl (by omega) ?_); rw [hgk]) | (refine XCall.ret hlv ?_)); conv => whnf) | fail
                refine Walk.range (own := []) tab_ok [(13, .ptr 15 0), (14, .ptr 17 0), (15, .ptr 19 0)] rfl ⟨rfl, rfl, rfl, trivial⟩ ?_
                intro fn
                refine bLeaves1_c (addS b m n) okB k (cr (addS b m n) k) _ hltk hck _ _ ?_
                have hfind : (lvL (addS b m n) k (cr (addS b m n) k)).find? (cnB (addS b m n) alwP (k + 1)) = some (cr (addS b m n) (k + 1)) := by
                  obtain ⟨x, h1, h2⟩ := cn_next okB hltk (hcc k (by show k ≤ b.months.length; omega))
                  cases hf : (lvL (addS b m n) k (cr (addS b m n) k)).find? (cnB (addS b m n) alwP (k + 1)) with
                  | none => exact absurd h2 (List.find?_eq_none.1 hf x h1)
                  | some y => rw [show cr (addS b m n) (k + 1) = ((lvL (addS b m n) k (cr (addS b m n) k)).find? (cnB (addS b m n) alwP (k + 1))).getD 0 from rfl, hf]; rfl
                have hlr : ∀ c ∈ lvL (addS b m n) k (cr (addS b m n) k), c < 121 := fun c hc => by
                  have := ah_room okB hltk hc
                  have h2 : (addS b m n).room ≤ 120 := okB.r2
                  omega
                generalize lvL (addS b m n) k (cr (addS b m n) k) = cs at hfind hlr
                revert hfind hlr
                induction cs with
                | nil => intro h; cases h
                | cons c cs ih =>
                  intro hfind hlr
                  have hc121 := hlr c List.mem_cons_self
                  rw [List.find?_cons] at hfind
                  refine XYield.go (own := []) tab_ok rfl rfl (by decide) ?_
                  intro ρ
                  conv => whnf
                  cases hv : cnB (addS b m n) alwP (k + 1) c with
                  | false =>
                    rw [hv] at hfind
                    repeat' first | ((first | (with_reducible apply XBr.ff) | (with_reducible refine XInt.i64 (by omega) (by omega) ?_) | (refine XIx.mat (k + 1) (by omega) (by omega) rfl ?_) | ((refine XArr.vec c rfl (by omega) (by omega) ?_); rw [hv])); conv => whnf) | fail
                    exact .inl ⟨rfl, ih hfind fun x hx => hlr x (List.mem_cons_of_mem _ hx)⟩
                  | true =>
                    rw [hv] at hfind
                    obtain rfl : c = cr (addS b m n) (k + 1) := Option.some.inj hfind
                    repeat' first | ((first | (with_reducible apply XBr.tt) | (with_reducible refine XInt.i64 (by omega) (by omega) ?_)); conv => whnf) | ((with_reducible refine XHold.mk ?_ ?_); (first | omega | rfl | decide | exact ⟨rfl, by decide, rfl⟩ | exact wideI _ | exact widePr _ | exact wideSk _ | (unfold Room; constructor <;> ((try simp) <;> omega)) | exact ⟨rfl, by simp only [List.length_map], by unfold Room; constructor <;> ((try simp) <;> omega)⟩ | exact ⟨by omega, by omega, by unfold Room; constructor <;> ((try simp) <;> omega)⟩); conv => whnf) | ((first | (refine XIx.mat (k + 1) (by omega) (by omega) rfl ?_) | ((refine XArr.vec _ rfl (by omega) (by omega) ?_); rw [hv])); conv => whnf) | fail
                    refine .inr ⟨rfl, ?_⟩
                    conv => whnf
                    repeat' first | ((with_reducible refine XInt.i64 (by omega) (by omega) ?_); conv => whnf) | fail
                    refine XAgainM.go (k + 1) [.cells [natA k], .raw (.deferred (some [])), .dead] (by omega) (by omega) ?_ ⟨rfl, rfl, rfl, rfl, rfl, rfl, rfl, trivial⟩ (Nat.le_refl _) ?_ ?_ (by simp) (fun i hi => by rw [List.mem_singleton] at hi; subst hi; exact ⟨show 19 ≤ 19 + 1 by omega, rfl⟩)
                    · rw [crL_next (addS b m n) (k + 1), List.length_append]
                      unfold ints
                      rw [List.map_append]; rfl
                    · intro z hz
                      simp only [List.mem_cons, List.not_mem_nil, or_false] at hz
                      rcases hz with rfl | rfl | rfl | rfl | rfl | rfl | rfl | rfl | rfl | rfl | rfl | rfl | rfl | rfl | rfl | rfl | rfl | rfl | rfl <;> first | rfl | exact lowI _ | exact amtC_low _ _ _
                    · intro z hz
                      simp only [List.mem_cons, List.not_mem_nil, or_false] at hz
                      rcases hz with rfl | rfl | rfl | rfl | rfl | rfl | rfl <;> first | rfl | exact dskL _
              · obtain rfl : k = b.months.length := by omega
                repeat' first | ((with_reducible apply XBr.dec) <;> (intro h; first | (exfalso; omega) | ((try simp only [List.length_map] at h); first | (exfalso; omega) | (conv => whnf)))) | fail
                exact ⟨Froz.tup (.cons (Froz.grow rfl hcl (lowI _)) (.cons (.low rfl) .nil))⟩
  · rw [if_pos hE]
    generalize bedE b = e at hck hE
    have hnl : True := trivial
    refine Comp.body (T := tab) (res := [.tmp 6, .tmp 7]) tab_ok [3, 50] Try.func68 rfl (by kernel_rfl) Try.ntmps68 rfl (by simp only [List.length_cons, List.length_nil]; decide) (by simp only [lowL, bedL, AV.low]; rfl) ?_; conv => whnf
    repeat' first | ((with_reducible apply XBr.bne) <;> (intro h; first | (exfalso; omega) | (conv => whnf))) | ((refine XCall.ret hck ?_); conv => whnf) | fail
    exact ⟨.low rfl⟩
end GA
end

section
namespace GA
open Go Go.RowKit Go.Proofs
set_option pp.deepTerms true
set_option maxRecDepth 8000
set_option linter.unusedVariables false
set_option linter.unusedSimpArgs false

set_option maxHeartbeats 1000000 in
theorem mostS_c (b : Bd) (share : Int) (hE : bedE b = 0) (hsh : 0 ≤ share ∧ share ≤ b.room) : Comp Try.prog 50 [bedA b, .int .i64 share] (mostA b share) := by
  have okk := (bedE_iff b).1 hE
  have ok := okk.toBedOk
  have hsd := bShared_c b share (by have := ok.m2; omega) (by have := okk.s1; omega)
  unfold bSharedA at hsd
  rw [if_pos hE, bShareE_iff.2 ⟨okk, hsh⟩] at hsd
  have m1 := ok.m1
  have m2 := ok.m2
  have r1 := ok.r1
  have r2 := ok.r2
  have hi : inZ share 0 b.room = true := inZ_iff.2 hsh
  have e1 : ((b.months.map moA).length : Int) = b.months.length := by rw [List.length_map]
  refine Comp.body (T := tab) (res := [.tmp 4, .tmp 5]) tab_ok [] Try.func50 rfl (by kernel_rfl) Try.ntmps50 rfl (by simp only [List.length_cons, List.length_nil]; decide) (by simp only [lowL, bedL, AV.low]; rfl) ?_; conv => whnf
  refine XCall.ret hsd ?_
  conv => whnf
  repeat' first | ((with_reducible apply XBr.bne) <;> (intro h; first | (exfalso; omega) | (conv => whnf))) | ((with_reducible refine XInt.i64 (by omega) (by omega) ?_); conv => whnf) | ((with_reducible refine XHold.mk ?_ ?_); (first | omega | rfl | decide | exact ⟨rfl, by decide, rfl⟩ | exact wideI _ | exact widePr _ | exact wideSk _ | (unfold Room; constructor <;> ((try simp) <;> omega)) | exact ⟨rfl, by simp only [List.length_map], by unfold Room; constructor <;> ((try simp) <;> omega)⟩ | exact ⟨by omega, by omega, by unfold Room; constructor <;> ((try simp) <;> omega)⟩); conv => whnf) | fail
  refine Walk.loop tab_ok [] (fun g : Nat × List (List Int) => g.1 ≤ 121 ∧ RowsOk g.2 (b.months.length + 1) 121 ∧ ∀ q, q < g.1 → cellAt g.2 b.months.length q = valM b share 0 q)
    (fun g => [(1, .int .i64 share), (2, .pim (bedC b)), (4, .sl true []), (5, .int .i64 0), (6, dskA b), (8, .gr 0 (b.months.length + 1)), (35, natA g.1)]) (fun g => [.grow 186 false (g.2.map arrA)]) (fun g => 121 - g.1) (0, List.replicate (b.months.length + 1) (List.replicate 121 0)) ⟨Nat.zero_le _, ⟨by simp, fun r hr => by rw [List.eq_of_mem_replicate hr]; simp⟩, fun q hq => by omega⟩ ?_ ⟨rfl, rfl, rfl, rfl, rfl, ?_, rfl, trivial⟩ ?_
  · show _ = [Blk.grow 186 false (List.replicate (((b.months.map moA).length : Int) + 1).toNat (AV.agg (List.replicate 121 (AV.int .i64 0))))]
    rw [show (((b.months.map moA).length : Int) + 1).toNat = b.months.length + 1 by omega, List.map_replicate]
    rfl
  · exact congrArg (fun n => some (AV.gr 0 n)) (by omega)
  rintro ⟨n, rows⟩ ⟨hn, ro, hv⟩
  dsimp only at hn ro hv ⊢
  have ro1 := ro.put b.months.length n (-1) (by omega)
  have c1 := fun (h : n < 121) => cellAt_put ro (-1) (show b.months.length < b.months.length + 1 by omega) h
  have c2 := fun (h : n < 121) => cellAt_put ro1 0 (show b.months.length < b.months.length + 1 by omega) h
  conv => whnf
  repeat' first | ((with_reducible apply XBr.dec) <;> (intro h; first | (exfalso; omega) | ((try simp only [List.length_map] at h); first | (exfalso; omega) | (conv => whnf)))) | ((first | (with_reducible refine XInt.i64 (by omega) (by omega) ?_) | (refine XHold.mk ⟨by rw [List.length_map]; first | exact ro.n | exact ro1.n, rfl, by omega, by omega⟩ ?_) | (refine XArr.mk (by omega) (by omega) ?_) | (refine XStorePart ?_) | (refine XPutPart.rows (w := 121) rows b.months.length n (by omega) rfl ro.n.symm (by omega) (ro.at (by omega)) (by omega) (by omega) ?_) | (refine XPutPart.rows (w := 121) _ b.months.length n (by omega) rfl ro1.n.symm (by omega) (ro1.at (by omega)) (by omega) (by omega) ?_)); conv => whnf) | fail
  · refine XAgain.go (n + 1, putC (putC rows b.months.length n (-1)) b.months.length n 0) ⟨by dsimp only; omega, ro1.put _ _ _ (by omega), fun q hq => ?_⟩ (by dsimp only; omega) rfl ⟨rfl, rfl, rfl, rfl, rfl, rfl, rfl, trivial⟩
    dsimp only at hq ⊢
    rw [c2 (by omega)]
    by_cases hqn : q = n
    · rw [if_pos ⟨rfl, hqn⟩, hqn]; unfold valM; rw [if_pos h]
    · rw [if_neg (fun h => hqn h.2), c1 (by omega), if_neg (fun h => hqn h.2), hv q (by omega)]
  · refine XAgain.go (n + 1, putC rows b.months.length n (-1)) ⟨by dsimp only; omega, ro1, fun q hq => ?_⟩ (by dsimp only; omega) rfl ⟨rfl, rfl, rfl, rfl, rfl, rfl, rfl, trivial⟩
    dsimp only at hq ⊢
    rw [c1 (by omega)]
    by_cases hqn : q = n
    · rw [if_pos ⟨rfl, hqn⟩, hqn]; unfold valM; rw [if_neg h]
    · rw [if_neg (fun h => hqn h.2), hv q (by omega)]
  clear ro1 c1 c2
  obtain rfl : n = 121 := by omega
  refine Walk.loop tab_ok [] (fun g : Nat × List (List Int) => g.1 ≤ b.months.length ∧ RowsOk g.2 (b.months.length + 1) 121 ∧ ∀ i, i ≤ g.1 → ∀ q : Nat, (q : Int) ≤ b.room → cellAt g.2 (b.months.length - i) q = valM b share i q)
    (fun g => [(2, .pim (bedC b)), (4, .sl true []), (5, .int .i64 0), (6, dskA b), (8, .gr 0 (b.months.length + 1)), (10, .int .i64 (((b.months.map moA).length : Int) - 1 - g.1))]) (fun g => [.grow 186 false (g.2.map arrA)]) (fun g => b.months.length - g.1) (0, rows)
    ⟨Nat.zero_le _, ro, fun i hi q hq => by obtain rfl : i = 0 := by { dsimp only at hi; omega }; exact hv q (by omega)⟩ rfl ⟨rfl, rfl, rfl, rfl, rfl, congrArg (fun z => some (AV.int .i64 z)) (by dsimp only; omega), trivial⟩ ?_
  clear hv ro
  rintro ⟨k, rows⟩ ⟨hk, ro, hv⟩
  dsimp only at hk ro hv ⊢
  conv => whnf
  repeat' first | ((with_reducible apply XBr.dec) <;> (intro h; first | (exfalso; omega) | ((try simp only [List.length_map] at h); first | (exfalso; omega) | (conv => whnf)))) | ((with_reducible refine XInt.i64 (by omega) (by omega) ?_); conv => whnf) | fail
  · obtain ⟨j, hj⟩ : ∃ j, j = b.months.length - (k + 1) := ⟨_, rfl⟩
    have hj1 : j + 1 = b.months.length - k := by omega
    have hjm := ok.mo _ (getD_mem (d := default) (show j < b.months.length by omega))
    refine Walk.loop tab_ok [] (fun g : Nat × List (List Int) => (g.1 : Int) ≤ b.room + 1 ∧ RowsOk g.2 (b.months.length + 1) 121 ∧ (∀ i, i ≤ k → ∀ q : Nat, (q : Int) ≤ b.room → cellAt g.2 (b.months.length - i) q = valM b share i q) ∧ ∀ q, q < g.1 → cellAt g.2 j q = valM b share (k + 1) q)
      (fun g => [(2, .pim (bedC b)), (4, .sl true []), (5, .int .i64 0), (6, dskA b), (8, .gr 0 (b.months.length + 1)), (10, natA j), (66, .int .i64 (b.room + 1)), (67, natA g.1)]) (fun g => [.grow 186 false (g.2.map arrA)]) (fun g => b.room.toNat + 1 - g.1) (0, rows)
      ⟨by dsimp only; omega, ro, hv, fun q hq => by dsimp only at hq; omega⟩ rfl ⟨rfl, rfl, rfl, rfl, rfl, congrArg (fun z => some (AV.int .i64 z)) (by omega), rfl, rfl, trivial⟩ ?_
    clear hv ro
    rintro ⟨n, rows⟩ ⟨hn, ro, hv, hw⟩
    dsimp only at hn ro hv hw ⊢
    have ro1 := ro.put j n (-1) (by omega)
    have c1 := fun (h : n < 121) => cellAt_put ro (-1) (show j < b.months.length + 1 by omega) h
    have hgr := fun (h : n < 121) => gross_c b j n (b.months.getD j default).pl (b.months.getD j default).th (by omega) (by omega) (by omega) (by omega) (by omega) (by omega) (by omega) (by omega) (by omega) (by omega) (by omega)
    have hlb := lieR_b ok (j := j) (n := n) (by omega)
    conv => whnf
    repeat' first | ((with_reducible apply XBr.dec) <;> (intro h; first | (exfalso; omega) | ((try simp only [List.length_map] at h); first | (exfalso; omega) | (conv => whnf)))) | ((first | (with_reducible refine XInt.i64 (by omega) (by omega) ?_) | (refine XHold.mk ⟨by rw [List.length_map]; first | exact ro.n | exact ro1.n, rfl, by omega, by omega⟩ ?_) | (refine XArr.mk (by omega) (by omega) ?_) | (refine XStorePart ?_) | (refine XPutPart.rows (w := 121) rows j n (by omega) rfl ro.n.symm (by omega) (ro.at (by omega)) (by omega) (by omega) ?_)); conv => whnf) | fail
    · have hgc := hgr (by omega)
      change Comp Try.prog _ _ (.int .i64 (lieR b j n)) at hgc
      apply Walk.drawX tab_ok mixed_ok [] [] (hsK _) [_, _, _, _, _, _, _, _, _, _, _, _, _, _] (by kernel_rfl) rfl
      · skip
        repeat' first | (((with_reducible refine XIx.nat ?_ ?_ ?_); omega; (intro _; rfl)); conv => whnf) | (with_reducible apply XAnd.mk) | ((first | (with_reducible apply Chk.go) | (with_reducible apply ChkA.go)); conv => whnf) | (exact XSame.mk rfl rfl) | (with_reducible exact trivial) | ((first | (refine XCall.ret (worst_c (b.months.getD j default)) ?_) | (refine XCall.ret hgc ?_)); conv => whnf) | fail
      · skip
        repeat' first | (with_reducible apply XAnd.mk) | ((first | (with_reducible apply ChkF.go) | (with_reducible apply ChkB.go)); conv => whnf) | (with_reducible exact trivial) | fail
      conv => whnf
      repeat' first | ((with_reducible refine XInt.i64 (by omega) (by omega) ?_); conv => whnf) | fail
      obtain ⟨li, hli⟩ : ∃ li : Nat, lieR b j n = li := ⟨(lieR b j n).toNat, by omega⟩
      have hstep : valM b share (k + 1) n = stepM (valM b share k) li (li + 1) := by
        show stepM _ (lieR b (b.months.length - (k + 1)) n).toNat ((lieR b (b.months.length - (k + 1)) n).toNat + 1) = _
        rw [← hj, hli]; rfl
      rw [hli] at hlb ⊢
      have c1' := c1 (by omega)
      refine Walk.loop tab_ok [] (fun g : Nat × List (List Int) => g.1 ≤ li + 1 ∧ RowsOk g.2 (b.months.length + 1) 121 ∧ (∀ i, i ≤ k → ∀ q : Nat, (q : Int) ≤ b.room → cellAt g.2 (b.months.length - i) q = valM b share i q) ∧ (∀ q, q < n → cellAt g.2 j q = valM b share (k + 1) q) ∧ cellAt g.2 j n = stepM (valM b share k) li g.1)
        (fun g => [(2, .pim (bedC b)), (4, .sl true []), (5, .int .i64 0), (6, dskA b), (8, .gr 0 (b.months.length + 1)), (10, natA j), (11, natA n), (12, natA li), (66, .int .i64 (b.room + 1)), (67, natA n), (89, .int .i64 ((li : Int) + 1)), (90, natA g.1)]) (fun g => [.grow 186 false (g.2.map arrA)]) (fun g => li + 1 - g.1) (0, putC rows j n (-1))
        ⟨Nat.zero_le _, ro1, fun i hi q hq => by dsimp only; rw [c1', if_neg (by omega), hv i hi q hq], fun q hq => by dsimp only; rw [c1', if_neg (by omega), hw q hq], by dsimp only; rw [c1', if_pos ⟨rfl, rfl⟩]; rfl⟩ rfl ⟨rfl, rfl, rfl, rfl, rfl, rfl, rfl, rfl, rfl, rfl, rfl, rfl, trivial⟩ ?_
      clear hv ro hw c1 c1' ro1 hgr
      rintro ⟨r, rows⟩ ⟨hr, ro, hv, hw, hc⟩
      dsimp only at hr ro hv hw hc ⊢
      have hnx := fun (h : r ≤ li) => hv k (Nat.le_refl k) (li - r) (by omega)
      have hnb := valM_b ok share k (by omega) (li - r)
      have hsb := stepM_b (nx := valM b share k) (lies := li) (c := 120 * k) (fun q _ => valM_b ok share k (by omega) q) r (by omega)
      have hst : stepM (valM b share k) li (r + 1) = if valM b share k (li - r) = -1 then stepM (valM b share k) li r else max (stepM (valM b share k) li r) (r + valM b share k (li - r)) := rfl
      have hvx := fun (h : r ≤ li) => (show (rows.getD ((j : Int) + 1).toNat default).getD (li - r) default = valM b share k (li - r) by rw [show ((j : Int) + 1).toNat = b.months.length - k by omega]; exact hnx h)
      have cp := fun v => cellAt_put ro v (show j < b.months.length + 1 by omega) (show n < 121 by omega)
      conv => whnf
      repeat' first | ((with_reducible apply XBr.dec) <;> (intro h; first | (exfalso; omega) | ((try simp only [List.length_map] at h); first | (exfalso; omega) | (conv => whnf)))) | ((with_reducible apply XBr.bne) <;> (intro h; first | (exfalso; omega) | (conv => whnf))) | ((first | (with_reducible refine XInt.i64 (by omega) (by omega) ?_) | (refine XHold.mk ⟨by rw [List.length_map]; exact ro.n, rfl, by omega, by omega⟩ ?_) | (refine XArr.mk (by omega) (by omega) ?_) | (refine XGet.map ro.n.symm (by omega) ?_) | (refine xdrop_ints (li - r) (by omega) (by rw [ro.at (by omega)]; omega) ?_)); conv => whnf) | fail
      · have hv1 := hvx (by omega)
        have hv2 : -1 ≤ (rows.getD ((j : Int) + 1).toNat default).getD (li - r) default ∧ (rows.getD ((j : Int) + 1).toNat default).getD (li - r) default ≤ 120 * k := by rw [hv1]; exact hnb
        apply Walk.drawX tab_ok mixed_ok [] [16] (hsV _ [id, fun H => H.set 0 (.grow 186 false ((putC rows j n (max ((rows.getD j default).getD n default) ((r : Int) + (rows.getD ((j : Int) + 1).toNat default).getD (li - r) default))).map arrA))]) [_, _, _, _, _, _, _, _, _, _, _, _, _, _, _, _, _] (by kernel_rfl) rfl
        · skip
          repeat' first | ((with_reducible refine XInt.i64 (by omega) (by omega) ?_); conv => whnf) | ((with_reducible refine XHold.mk ?_ ?_); (first | omega | rfl | decide | exact ⟨rfl, by decide, rfl⟩ | exact wideI _ | exact widePr _ | exact wideSk _ | (unfold Room; constructor <;> ((try simp) <;> omega)) | exact ⟨rfl, by simp only [List.length_map], by unfold Room; constructor <;> ((try simp) <;> omega)⟩ | exact ⟨by omega, by omega, by unfold Room; constructor <;> ((try simp) <;> omega)⟩); conv => whnf) | (with_reducible apply XAnd.mk) | ((first | (with_reducible apply Chk.go) | (with_reducible apply ChkA.go)); conv => whnf) | (exact XSame.mk rfl rfl) | (with_reducible exact trivial) | ((first | (refine XHold.mk ⟨by rw [List.length_map]; first | exact ro.n | exact (ro.put j n _ (by omega)).n, rfl, by omega, by omega⟩ ?_) | (refine XArr.mk (by omega) (by omega) ?_) | (refine XGet.map ro.n.symm (by omega) ?_) | (refine xdrop_ints n (by omega) (by rw [ro.at (by omega)]; omega) ?_) | (refine XCall.ret (bedGreatest_c _ false [_] (by simp)) ?_) | (refine XStorePart ?_) | (refine XPutPart.rows (w := 121) rows j n (by omega) rfl ro.n.symm (by omega) (ro.at (by omega)) (by omega) (by omega) ?_)); conv => whnf) | fail
        · skip
          repeat' first | (with_reducible apply XAnd.mk) | ((first | (with_reducible apply Chk.go) | (with_reducible apply ChkF.go) | (with_reducible apply ChkB.go)); conv => whnf) | (exact XSame.mk rfl rfl) | (with_reducible exact trivial) | ((refine XHold.mk ⟨by rw [List.length_map]; first | exact ro.n | exact (ro.put j n _ (by omega)).n, rfl, by omega, by omega⟩ ?_); conv => whnf) | fail
        conv => whnf
        repeat' first | ((with_reducible refine XInt.i64 (by omega) (by omega) ?_); conv => whnf) | fail
        have hcv : max ((rows.getD j default).getD n default) ((r : Int) + (rows.getD ((j : Int) + 1).toNat default).getD (li - r) default) = stepM (valM b share k) li (r + 1) := by
          rw [hst, if_neg (by rw [← hv1]; exact h), hv1, ← hc]; rfl
        refine XAgain.go (r + 1, putC rows j n (max ((rows.getD j default).getD n default) ((r : Int) + (rows.getD ((j : Int) + 1).toNat default).getD (li - r) default))) ⟨by dsimp only; omega, ro.put _ _ _ (by omega), fun i hi q hq => ?_, fun q hq => ?_, ?_⟩ (by dsimp only; omega) rfl ⟨rfl, rfl, rfl, rfl, rfl, rfl, rfl, rfl, rfl, rfl, rfl, rfl, trivial⟩
        · dsimp only; rw [cp, if_neg (by omega), hv i hi q hq]
        · dsimp only; rw [cp, if_neg (by omega), hw q hq]
        · dsimp only; rw [cp, if_pos ⟨rfl, rfl⟩, hcv]
      · refine XAgain.go (r + 1, rows) ⟨by dsimp only; omega, ro, hv, hw, ?_⟩ (by dsimp only; omega) rfl ⟨rfl, rfl, rfl, rfl, rfl, rfl, rfl, rfl, rfl, rfl, rfl, rfl, trivial⟩
        dsimp only
        rw [hc, hst, if_pos (by rw [← hvx (by omega)]; exact h)]
      · obtain rfl : r = li + 1 := by omega
        refine XAgain.go (n + 1, rows) ⟨by dsimp only; omega, ro, hv, fun q hq => ?_⟩ (by dsimp only; omega) rfl ⟨rfl, rfl, rfl, rfl, rfl, rfl, rfl, rfl, trivial⟩
        dsimp only at hq ⊢
        by_cases hqn : q = n
        · rw [hqn, hc, hstep]
        · exact hw q (by omega)
    · have hn1 : (n : Int) = b.room + 1 := by omega
      refine XAgain.go (k + 1, rows) ⟨by dsimp only; omega, ro, fun i hi q hq => ?_⟩ (by dsimp only; omega) rfl ⟨rfl, rfl, rfl, rfl, rfl, congrArg (fun z => some (AV.int .i64 z)) (by dsimp only; omega), trivial⟩
      dsimp only at hi ⊢
      by_cases hik : i = k + 1
      · rw [hik, ← hj]; exact hw q (by omega)
      · exact hv i (by omega) q hq
  · obtain rfl : k = b.months.length := by omega
    have hle := least_c b ok.f1 (by have := ok.f2; omega) ok.u1 (by have := ok.u2; omega)
    obtain ⟨a0, ha0⟩ : ∃ a0 : Nat, leastR b = a0 := ⟨(leastR b).toNat, by unfold leastR; omega⟩
    have ha1 : (a0 : Int) ≤ b.room := by rw [← ha0]; unfold leastR; have := ok.f2; have := ok.u1; omega
    have hv0 : (rows.getD 0 default).getD a0 default = valM b share b.months.length a0 := by
      have := hv b.months.length (Nat.le_refl _) a0 ha1
      rw [Nat.sub_self] at this; exact this
    unfold mostA
    rw [ha0, Int.toNat_natCast]
    rw [ha0] at hle
    repeat' first | ((with_reducible apply XBr.beq) <;> (intro h; first | (exfalso; omega) | (conv => whnf))) | ((first | (refine XCall.ret hle ?_) | (refine XHold.mk ⟨by rw [List.length_map]; exact ro.n, rfl, by omega, by omega⟩ ?_) | (refine XArr.mk (by omega) (by omega) ?_) | (refine XGet.map ro.n.symm (by omega) ?_) | (refine xdrop_ints a0 (by omega) (by rw [ro.at (by omega)]; omega) ?_)); conv => whnf) | fail
    · rw [if_pos (by rw [← hv0]; exact h)]; exact ⟨.low rfl⟩
    rw [if_neg (by rw [← hv0]; exact h)]
    refine Walk.nilgr 16 3 rfl ?_
    refine Walk.loop tab_ok [] (fun g : Nat × Nat × List Int => g.1 ≤ b.months.length ∧ (g.2.1 : Int) ≤ b.room ∧ g.2.2 ++ planM b share (b.months.length - g.1) g.2.1 = planM b share b.months.length a0 ∧ g.2.2.length ≤ g.1)
      (fun g => [(2, .pim (bedC b)), (4, .sl true []), (5, .int .i64 0), (6, dskA b), (8, .gr 0 (b.months.length + 1)), (15, natA g.2.1), (16, .gr 1 g.2.2.length), (132, .int .i64 (b.months.map moA).length), (133, natA g.1)])
      (fun g => [.grow 186 false (rows.map arrA), .grow 3 g.2.2.isEmpty (ints g.2.2)]) (fun g => b.months.length - g.1) (0, a0, []) ⟨Nat.zero_le _, ha1, rfl, Nat.le_refl _⟩ rfl ⟨rfl, rfl, rfl, rfl, rfl, rfl, rfl, rfl, rfl, trivial⟩ ?_
    clear hv0 h
    rintro ⟨m, a, out⟩ ⟨hm, ham, hpl, hol⟩
    dsimp only at hm ham hpl hol ⊢
    conv => whnf
    repeat' first | ((with_reducible apply XBr.dec) <;> (intro h; first | (exfalso; omega) | ((try simp only [List.length_map] at h); first | (exfalso; omega) | (conv => whnf)))) | fail
    · have hjm := ok.mo _ (getD_mem (d := default) (show m < b.months.length by omega))
      obtain ⟨k, hkm⟩ : ∃ k, b.months.length - m = k + 1 := ⟨b.months.length - m - 1, by omega⟩
      have hmk : b.months.length - (k + 1) = m := by omega
      have hgc := gross_c b m a (b.months.getD m default).pl (b.months.getD m default).th (by omega) (by omega) (by omega) (by omega) (by omega) (by omega) (by omega) (by omega) (by omega) (by omega) (by omega)
      change Comp Try.prog _ _ (.int .i64 (lieR b m a)) at hgc
      have hlb := lieR_b ok (j := m) (n := a) (by omega)
      apply Walk.drawX tab_ok mixed_ok [] [] (hsK _) [_, _, _, _, _, _, _, _, _, _, _, _, _, _] (by kernel_rfl) rfl
      · skip
        repeat' first | (((with_reducible refine XIx.nat ?_ ?_ ?_); omega; (intro _; rfl)); conv => whnf) | (with_reducible apply XAnd.mk) | ((first | (with_reducible apply Chk.go) | (with_reducible apply ChkA.go)); conv => whnf) | (exact XSame.mk rfl rfl) | (with_reducible exact trivial) | ((first | (refine XCall.ret (worst_c (b.months.getD m default)) ?_) | (refine XCall.ret hgc ?_)); conv => whnf) | fail
      · skip
        repeat' first | (with_reducible apply XAnd.mk) | ((first | (with_reducible apply ChkF.go) | (with_reducible apply ChkB.go)); conv => whnf) | (with_reducible exact trivial) | fail
      conv => whnf
      repeat' first | ((with_reducible refine XInt.i64 (by omega) (by omega) ?_); conv => whnf) | fail
      obtain ⟨li, hli⟩ : ∃ li : Nat, lieR b m a = li := ⟨(lieR b m a).toNat, by omega⟩
      have hps := fun r => planM_some (b := b) (share := share) (k := k) (a := a) (lies := li) (r := r) (by rw [hmk]; exact hli)
      have hpn := planM_none (b := b) (share := share) (k := k) (a := a) (lies := li) (by rw [hmk]; exact hli)
      rw [hkm] at hpl
      rw [hli] at hlb ⊢
      refine Walk.loop tab_ok [] (fun r : Nat => r ≤ li + 1 ∧ ∀ q, q < r → rakeM (valM b share k) li (valM b share (k + 1) a) q = false)
        (fun r => [(2, .pim (bedC b)), (4, .sl true []), (5, .int .i64 0), (6, dskA b), (8, .gr 0 (b.months.length + 1)), (15, natA a), (16, .gr 1 out.length), (17, natA m), (18, natA li), (132, .int .i64 (b.months.map moA).length), (133, natA m), (150, .int .i64 ((li : Int) + 1)), (151, natA r)])
        (fun _ => [.grow 186 false (rows.map arrA), .grow 3 out.isEmpty (ints out)]) (fun r => li + 1 - r) 0 ⟨Nat.zero_le _, fun q hq => by omega⟩ rfl ⟨rfl, rfl, rfl, rfl, rfl, rfl, rfl, rfl, rfl, rfl, rfl, rfl, rfl, trivial⟩ ?_
      rintro r ⟨hr, hno⟩
      have hnx := fun (h : r ≤ li) => (show (rows.getD ((m : Int) + 1).toNat default).getD (li - r) default = valM b share k (li - r) by rw [show ((m : Int) + 1).toNat = b.months.length - k by omega]; exact hv k (by omega) (li - r) (by omega))
      have hnb := valM_b ok share k (by omega) (li - r)
      have hva : (rows.getD m default).getD a default = valM b share (k + 1) a := by
        have := hv (k + 1) (by omega) a ham
        rw [hmk] at this; exact this
      have hrk : rakeM (valM b share k) li (valM b share (k + 1) a) r = (valM b share k (li - r) != -1 && ((r : Int) + valM b share k (li - r) == valM b share (k + 1) a)) := rfl
      have hvb : r ≤ li → -1 ≤ (rows.getD ((m : Int) + 1).toNat default).getD (li - r) default ∧ (rows.getD ((m : Int) + 1).toNat default).getD (li - r) default ≤ 120 * k := fun h => by rw [hnx h]; exact hnb
      conv => whnf
      repeat' first | ((first | (with_reducible apply XBr.tt) | (with_reducible apply XBr.ff)); conv => whnf) | ((with_reducible apply XBr.dec) <;> (intro h; first | (exfalso; omega) | ((try simp only [List.length_map] at h); first | (exfalso; omega) | (conv => whnf)))) | ((with_reducible apply XBr.beq) <;> (intro h; first | (exfalso; omega) | (conv => whnf))) | ((with_reducible apply XBr.bne) <;> (intro h; first | (exfalso; omega) | (conv => whnf))) | ((with_reducible refine XInt.i64 (by omega) (by omega) ?_); conv => whnf) | ((with_reducible refine XHold.mk ?_ ?_); (first | omega | rfl | decide | exact ⟨rfl, by decide, rfl⟩ | exact wideI _ | exact widePr _ | exact wideSk _ | (unfold Room; constructor <;> ((try simp) <;> omega)) | exact ⟨rfl, by simp only [List.length_map], by unfold Room; constructor <;> ((try simp) <;> omega)⟩ | exact ⟨by omega, by omega, by unfold Room; constructor <;> ((try simp) <;> omega)⟩); conv => whnf) | ((first | (refine XHold.mk ⟨by rw [List.length_map]; exact ro.n, rfl, by omega, by omega⟩ ?_) | (refine XArr.mk (by omega) (by omega) ?_) | (refine XGet.map ro.n.symm (by omega) ?_) | (refine xdrop_ints (li - r) (by omega) (by rw [ro.at (by omega)]; omega) ?_) | (refine xdrop_ints a (by omega) (by rw [ro.at (by omega)]; omega) ?_)); conv => whnf) | fail
      · rename_i h1 h2
        have h3 : (r : Int) + (rows.getD ((m : Int) + 1).toNat default).getD (li - r) default = (rows.getD m default).getD a default := h
        rw [hnx (by omega)] at h2 h3
        have hr1 : rakeM (valM b share k) li (valM b share (k + 1) a) r = true := by rw [hrk, ← hva, h3]; simp [h2]
        refine XAgain.go (m + 1, li - r, out ++ [(r : Int)]) ⟨by dsimp only; omega, by dsimp only; omega, ?_, by dsimp only; rw [List.length_append]; simp; omega⟩ (by dsimp only; omega) ?_ ⟨rfl, rfl, rfl, rfl, rfl, congrArg (fun z => some (AV.int .i64 z)) (by dsimp only; omega), ?_, rfl, rfl, trivial⟩
        · dsimp only
          rw [← hpl, hps r (by omega) hr1 hno, show b.months.length - (m + 1) = k by omega, List.append_assoc]; rfl
        · show [Blk.grow 186 false (rows.map arrA), Blk.grow 3 (out ++ [(r : Int)]).isEmpty (List.map (AV.int .i64) (out ++ [(r : Int)]))] = _
          rw [isEmpty_app, List.map_append]
          rfl
        · show some (AV.gr 1 (out.length + 1)) = some (AV.gr 1 (out ++ [(r : Int)]).length)
          rw [List.length_append]; rfl
      · rename_i h1 h2
        have h3 : (r : Int) + (rows.getD ((m : Int) + 1).toNat default).getD (li - r) default ≠ (rows.getD m default).getD a default := h
        rw [hnx (by omega)] at h2 h3
        have hr1 : rakeM (valM b share k) li (valM b share (k + 1) a) r = false := by rw [hrk, ← hva, beq_eq_false_iff_ne.2 h3, Bool.and_false]
        refine XAgain.go (r + 1) ⟨by omega, fun q hq => ?_⟩ (by omega) rfl ⟨rfl, rfl, rfl, rfl, rfl, rfl, rfl, rfl, rfl, rfl, rfl, rfl, rfl, trivial⟩
        by_cases hqr : q = r
        · rw [hqr]; exact hr1
        · exact hno q (by omega)
      · rw [hnx (by omega)] at h
        have hr1 : rakeM (valM b share k) li (valM b share (k + 1) a) r = false := by rw [hrk, h]; rfl
        refine XAgain.go (r + 1) ⟨by omega, fun q hq => ?_⟩ (by omega) rfl ⟨rfl, rfl, rfl, rfl, rfl, rfl, rfl, rfl, rfl, rfl, rfl, rfl, rfl, trivial⟩
        by_cases hqr : q = r
        · rw [hqr]; exact hr1
        · exact hno q (by omega)
      · refine XAgain.go (m + 1, a, out) ⟨by dsimp only; omega, ham, ?_, by dsimp only; omega⟩ (by dsimp only; omega) rfl ⟨rfl, rfl, rfl, rfl, rfl, rfl, rfl, rfl, rfl, trivial⟩
        dsimp only
        rw [← hpl, hpn fun q hq => hno q (by omega), show b.months.length - (m + 1) = k by omega]
    · obtain rfl : m = b.months.length := by omega
      rw [Nat.sub_self] at hpl
      have : planM b share b.months.length a0 = out := by rw [← hpl]; exact List.append_nil out
      rw [this]
      exact ⟨Froz.tup (.cons (Froz.grow (i := 1) rfl (List.length_map _) (lowI _)) (.cons (Froz.low rfl) .nil))⟩
end GA
end

section
namespace GA
open Go Go.RowKit Go.Proofs
set_option pp.deepTerms true
set_option maxRecDepth 8000
set_option linter.unusedVariables false
set_option linter.unusedSimpArgs false

set_option maxHeartbeats 4000000 in
theorem bedKept_c (n1 n2 : Bool) (xs ys : List Int) (p : Int) (hx : xs.length < 9223372036854775808) (hy : ys.length < 9223372036854775808) (hp : 0 ≤ p ∧ p ≤ 255) :
    Comp Try.prog 17 [.sl n1 (bytes xs), .sl n2 (bytes ys), .int .u8 p] (.bool true) := by
  obtain ⟨b0, re, ch, u1, mo, B, uo, R⟩ := made_real (hp0_ok (nl := n1) hx) (room := 60) (months := 6) (by omega) (by omega) (by omega) (by omega)
  have hsv := surveyed_c b0 B.ok.toBedOk B.sv B.nls false re B.rl R.b0 4 (by omega) (by omega) u1 uo
  have hmb := modV_bound u1 4
  obtain ⟨w1, b, hb0, hb1, okb, hcr, hb4, hbs, hnl⟩ : ∃ w1 b, svB b0 re (hpS u1) (modV u1 4).toNat = b ∧ (svK b0 re (hpS u1) (modV u1 4).toNat).2 = w1 ∧ BdOk b ∧ (∀ p, Crs b p fun m => (re.getD m default).toNat) ∧ b.surveys.length ≤ 4 ∧ SameB b0 b ∧ (b.nls = true → b.surveys = []) :=
    ⟨_, _, rfl, rfl, svB_ok B.ok.toBedOk B.rl R.b0 (hpS_ok uo) (by omega), fun p => R.crs B.ok.toBedOk B.rl (svB_same b0 re (hpS u1) _) fun m hm => svB_ag B.ok.toBedOk B.rl R.b0 m (by exact hm), by
      show (svK b0 re (hpS u1) _).1.length ≤ 4
      rw [(svK_ok (hpS_ok uo) _).2]; omega, svB_same b0 re (hpS u1) _, fun h => by
      have h' : (svK b0 re (hpS u1) (modV u1 4).toNat).1.isEmpty = true := h
      exact List.isEmpty_iff.1 h'⟩
  rw [hb0, hb1] at hsv
  clear hb0 hb1
  have hro := B.ro
  have hmo := B.mo
  have hrl := B.rl
  have hrb := R.b0
  rw [hbs.r] at hro hrb
  rw [hbs.m] at hmo hrl
  have ok := okb.toBedOk
  have r1 := ok.r1
  have r2 := ok.r2
  have m1 := ok.m1
  have m2 := ok.m2
  have e1 : ((b.months.map moA).length : Int) = b.months.length := by rw [List.length_map]
  have hnb : ∀ p, noneB b p = false := fun p => (none_iff ok).2 ⟨_, hcr p⟩
  have hpE : possE b = 0 := possE_iff.2 ⟨okb, hnb alwP⟩
  have hca := can_all_c b (by omega) (by omega)
  unfold canV at hca
  rw [if_neg (fun h => h hpE)] at hca
  have hbo := bounds_c b (by omega) (by omega)
  unfold boundsA at hbo
  rw [if_neg (fun h => h hpE)] at hbo
  have hck := bedCheck_c b (by omega) (by omega)
  rw [(bedE_iff b).2 okb] at hck
  have ecl : ((rowsA (canRs b)).length : Int) = b.months.length + 1 := by rw [List.length_map, canRs_len]; omega
  have ebl : ((chsA (bndL b)).length : Int) = b.months.length + 1 := by rw [List.length_map]; unfold bndL; simp
  have ebn : (bndL b).length = b.months.length + 1 := by unfold bndL; simp
  have erl : ((ints re).length : Int) = b.months.length + 1 := by rw [ints_len, hrl]; omega
  have hq1 := hp0_ok (nl := n2) hy
  have f1 := ok.f1
  have f2 := ok.f2
  have u1' := ok.u1
  have u2' := ok.u2
  have hsh := left_b r1 hp
  have hmst := mostS_c b (p.tmod (b.room + 1)) ((bedE_iff b).2 okb) hsh
  have hru := rule_c b (p.tmod (b.room + 1)) (by omega) (by omega)
  have hmi := most_iff ok hsh
  have hmx := planM_max ok (p.tmod (b.room + 1)) b.months.length (Nat.le_refl _) (leastR b).toNat
  have hE : bShareE b (p.tmod (b.room + 1)) = 0 := bShareE_iff.2 ⟨okb, hsh⟩
  have hla : leastR b = max 0 (b.first - b.unsure) := rfl
  have hrn : (leastR b).toNat < ruleN b := by unfold ruleN; omega
  have hrn2 : (leastR b).toNat ≤ b.room.toNat := by omega
  generalize hl : p.tmod (b.room + 1) = left at hsh hmst hru hmi hmx hE
  refine Comp.body' (T := tab) (res := [.tmp 6]) tab_ok [] Try.func17 rfl (by kernel_rfl) Try.ntmps17 rfl (by simp only [List.length_cons, List.length_nil]; decide) (by simp only [lowL, AV.low, lowBy]; rfl) ?_; conv => whnf
  repeat' first | (refine XCall.inl (T := tab) (res := [.tmp 2]) tab_ok [5] Try.func20 rfl (by kernel_rfl) Try.ntmps20 rfl (by simp only [List.length_append, List.length_cons, List.length_nil]; decide) ?_; conv => whnf) | ((first | (refine XCall.hp (j := 0) mo (by simp only [AV.low, lowL, bedL, lowI, lowPr]; rfl) rfl ?_) | (refine XCall.hp (j := 0) hsv (bedL b) rfl ?_) | (refine XCall.ret hca ?_) | (refine XCall.ret hbo ?_)); conv => whnf) | fail
  refine Walk.norm tab_ok [] [(2, _), (6, _), (7, _), (8, _), (9, _), (10, _), (12, _), (13, _), (14, _), (15, _)] ⟨rfl, rfl, rfl, rfl, rfl, rfl, rfl, rfl, rfl, rfl, trivial⟩ ?_
  conv => whnf
  repeat' first | ((with_reducible apply XBr.ff); conv => whnf) | ((with_reducible apply XBr.bne) <;> (intro h; first | (exfalso; omega) | (conv => whnf))) | ((refine XCall.ret hck ?_); conv => whnf) | fail
  refine Walk.loopK tab_ok [] [(2, _), (8, _), (9, _), (10, _), (14, _), (82, _), (83, _)] ⟨rfl, rfl, rfl, rfl, rfl, rfl, rfl, trivial⟩ (fun q : Nat × Hp => q.1 ≤ b.months.length + 1 ∧ q.2.Ok) (fun q => [(6, .bool false), (84, natA q.1)]) (fun q => [hpC w1, hpC q.2, .cells (bedC b)]) (fun q => b.months.length + 1 - q.1) (0, hp0 n2 ys) ⟨Nat.zero_le _, hq1⟩ rfl ⟨rfl, rfl, trivial⟩ ?_
  rintro ⟨m, v⟩ ⟨hm, vo⟩
  dsimp only at hm vo ⊢
  conv => whnf
  by_cases hlt : m < b.months.length + 1
  · have hR := canRs_get (b := b) (m := m) (by omega)
    have hne := canL_ne hpE (m := m) (by omega)
    have hlen : (canL b m).length ≤ 121 := lstF_len _ _
    have hcon := contains_c (canL b m).isEmpty (canL b m) (re.getD m default) (by omega)
    rw [List.contains_iff_mem.2 (canL_real ok (hcr alwP) hrb hrl (by omega))] at hcon
    have hso := sorted_c (canL b m).isEmpty (canL b m) (by omega) (canL_sorted b m)
    have hbd : (bndL b).getD m default = ((canL b m).getD 0 default, (canL b m).getD ((canL b m).length - 1) default) := by
      unfold bndL
      rw [List.getD_eq_getElem?_getD, List.getElem?_map, List.getElem?_range (by omega)]; rfl
    have hil : ((ints (canL b m)).length : Int) = (canL b m).length := by rw [ints_len]
    have hrow : ∀ x ∈ canL b m, 0 ≤ x ∧ x ≤ b.room := fun x hx => by
      obtain ⟨i, _, hc, rfl⟩ := lstF_mem.1 hx
      have := cnB_room hc
      omega
    have v1 := hpS_ok vo
    have c1 := upto_c v ((ints (canL b m)).length - 1) vo (by omega) (by omega)
    have c2 := upto_c (hpS v) b.room v1 (by omega) (by omega)
    have b1 := modV_bound v ((ints (canL b m)).length - 1)
    have b2 := modV_bound (hpS v) b.room
    rw [← hR] at hne hlen hcon hso hbd hil hrow c1 b1
    have hbe : (!([((bndL b).getD m default).1, ((bndL b).getD m default).2] == [((canRs b).getD m default).getD (Int.toNat 0) default, ((canRs b).getD m default).getD (((ints ((canRs b).getD m default)).length : Int) - 1).toNat default])) = false := by
      rw [hbd, show (((ints ((canRs b).getD m default)).length : Int) - 1).toNat = ((canRs b).getD m default).length - 1 by omega]
      simp
    repeat' first | ((first | (with_reducible apply XBr.tt) | (with_reducible apply XBr.ff)); conv => whnf) | (with_reducible apply XBr.not) | ((with_reducible apply XBr.dec) <;> (intro h; first | (exfalso; omega) | ((try simp only [List.length_map] at h); first | (exfalso; omega) | (conv => whnf)))) | ((with_reducible apply XBr.beq) <;> (intro h; first | (exfalso; omega) | (conv => whnf))) | ((first | (with_reducible refine XInt.i64 (by omega) (by omega) ?_) | ((with_reducible refine XIx.nat ?_ ?_ ?_); omega; (intro _; rfl)) | ((with_reducible refine XIx.map ?_ ?_ ?_ ?_); omega; omega; (intro _; rfl))); conv => whnf) | (with_reducible apply XAnd.mk) | ((first | (with_reducible apply Chk.go) | (with_reducible apply ChkA.go) | (with_reducible apply ChkF.go) | (with_reducible apply ChkB.go)); conv => whnf) | (exact XSame.mk rfl rfl) | (with_reducible exact trivial) | (apply Walk.drawN (id := 11) tab_ok mixed_ok [] [] (hsU _) [_, _, _, _, _, _, _, _, _, _, _, _, _, _, _, _, _, _, _, _, _, _, _, _, _, _, _, _, _, _, _, _, _, _] (by kernel_rfl) rfl) | ((with_reducible apply XNext.mk); conv => whnf) | ((refine XEqA.mk ⟨[_, _], [_, _], rfl, rfl, rfl, rfl, ?_⟩); exact XSame.mk (congrArg AV.bool hbe) rfl) | ((first | (refine XCall.ret hcon ?_) | (refine XCall.ret hso ?_)); conv => whnf) | fail
    apply Walk.drawX tab_ok mixed_ok [] [5, 11] (fun fl => match fl with
      | [a, b'] => [hpC w1, hpC (bif b' then hpS (hpS v) else bif a then hpS v else v), .cells (bedC b)]
      | _ => []) [_, _, _, _, _, _, _, _, _, _, _, _, _, _, _] (by kernel_rfl) rfl
    · skip
      repeat' first | ((with_reducible refine XInt.i64 (by omega) (by omega) ?_); conv => whnf) | ((with_reducible refine XHold.mk ?_ ?_); (first | omega | rfl | decide | exact ⟨rfl, by decide, rfl⟩ | exact wideI _ | exact widePr _ | exact wideSk _ | (unfold Room; constructor <;> ((try simp) <;> omega)) | exact ⟨rfl, by simp only [List.length_map], by unfold Room; constructor <;> ((try simp) <;> omega)⟩ | exact ⟨by omega, by omega, by unfold Room; constructor <;> ((try simp) <;> omega)⟩); conv => whnf) | (((with_reducible refine XIx.map ?_ ?_ ?_ ?_); omega; omega; (intro _; rfl)); conv => whnf) | (with_reducible apply XAnd.mk) | ((first | (with_reducible apply Chk.go) | (with_reducible apply ChkA.go)); conv => whnf) | (exact XSame.mk rfl rfl) | (with_reducible exact trivial) | ((first | (refine XCall.hp (j := 1) c1 rfl rfl ?_) | (refine XCall.hp (j := 1) c2 rfl rfl ?_)); conv => whnf) | fail
    · skip
      repeat' first | (((with_reducible refine XIx.map ?_ ?_ ?_ ?_); omega; omega; (intro _; rfl)); conv => whnf) | (with_reducible apply XAnd.mk) | ((first | (with_reducible apply Chk.go) | (with_reducible apply ChkF.go) | (with_reducible apply ChkB.go)); conv => whnf) | (exact XSame.mk rfl rfl) | (with_reducible exact trivial) | fail
    conv => whnf
    skip
    have hx1 : ((canRs b).getD m default).getD (modV v (((ints ((canRs b).getD m default)).length : Int) - 1)).toNat default ∈ (canRs b).getD m default := getD_mem (by omega)
    have hx1b := hrow _ hx1
    generalize ((canRs b).getD m default).getD (modV v (((ints ((canRs b).getD m default)).length : Int) - 1)).toNat default = x1 at hx1 hx1b ⊢
    generalize modV (hpS v) b.room = x2 at b2 ⊢
    have v2 := hpS_ok v1
    generalize hpS (hpS v) = v' at v2 ⊢
    clear c1 c2 b1 v1 hso hcon hbe hbd hx1
    refine Walk.loopK tab_ok [] ([(2, _), (8, _), (9, _), (10, _), (14, _), (16, natA m), (17, _), (82, _), (83, _), (84, natA m), (135, .sl false (ints [x1, x2])), (136, .int .i64 2)]) ⟨rfl, rfl, rfl, rfl, rfl, rfl, rfl, rfl, rfl, rfl, rfl, rfl, trivial⟩ (fun k : Nat => k ≤ 2) (fun k => [(6, .bool false), (137, natA k)]) (fun _ => [hpC w1, hpC v', .cells (bedC b)]) (fun k => 2 - k) 0 (Nat.zero_le _) rfl ⟨rfl, rfl, trivial⟩ ?_
    intro k hk
    conv => whnf
    by_cases hk2 : k < 2
    · obtain ⟨n, hn⟩ : ∃ n : Nat, [x1, x2].getD k default = n := ⟨([x1, x2].getD k default).toNat, by
        have : k = 0 ∨ k = 1 := by omega
        rcases this with rfl | rfl <;> (show _ = _) <;> simp <;> omega⟩
      have hnr : (n : Int) ≤ b.room := by
        have : k = 0 ∨ k = 1 := by omega
        rcases this with rfl | rfl <;> (have hn' : _ = (n : Int) := hn; simp at hn'; omega)
      have hel2 : ((ints [x1, x2]).length : Int) = 2 := rfl
      have hco := course_c b (by omega) (by omega) hnl m n
      have hcn := contains_c ((canRs b).getD m default).isEmpty ((canRs b).getD m default) n (by omega)
      have hci := course_in ok (m := m) (n := n) (by omega) hnr
      rw [← hR] at hci
      rw [hci] at hcn
      unfold courseA at hco
      rw [if_neg (fun h => h ((bedE_iff b).2 okb)), show inZ (m : Int) 0 b.months.length = true by unfold inZ; simp; omega, if_neg (by simp), show inZ (n : Int) 0 b.room = true by unfold inZ; simp; omega, if_neg (by simp)] at hco
      simp only [Int.toNat_natCast] at hco
      cases hx : noneB (addS b m n) alwP with
      | true =>
        rw [hx] at hcn
        rw [if_pos hx] at hco
        repeat' first | ((first | (with_reducible apply XBr.tt) | (with_reducible apply XBr.ff)); conv => whnf) | ((with_reducible apply XBr.dec) <;> (intro h; first | (exfalso; omega) | ((try simp only [List.length_map] at h); first | (exfalso; omega) | (conv => whnf)))) | ((with_reducible apply XBr.bne) <;> (intro h; first | (exfalso; omega) | (conv => whnf))) | ((first | (with_reducible refine XInt.i64 (by omega) (by omega) ?_) | ((with_reducible refine XIx.nat ?_ ?_ ?_); omega; (intro _; rfl)) | (rw [hn]; refine XCall.ret hco ?_) | (refine XCall.ret hcn ?_)); conv => whnf) | ((with_reducible apply XBr.mk') <;> (intro h; conv => whnf)) | fail
        all_goals first | (exfalso; rename_i h; revert h; decide) | (exfalso; omega) | exact XAgain.go (k + 1) (by omega) (by omega) rfl ⟨rfl, rfl, rfl, rfl, rfl, rfl, rfl, rfl, rfl, rfl, rfl, rfl, rfl, rfl, trivial⟩
      | false =>
        rw [hx] at hcn
        rw [if_neg (by rw [hx]; simp)] at hco
        have hcl : (crL (addS b m n) (b.months.length + 1)).length = b.months.length + 1 := vecF_len _ _
        have hag := agrees_all_c b false (crL (addS b m n) (b.months.length + 1)) (by omega) (by omega) (by omega)
        have hce := course_cour okb hx
        obtain ⟨ha1, ha2⟩ := course_ok ok (m := m) (n := n) (by omega) hx hce
        unfold agreesA at hag
        rw [if_neg (fun h => h hce), ha1] at hag
        generalize crL (addS b m n) (b.months.length + 1) = c at hco hag hcl ha2
        have hcl2 : ((ints c).length : Int) = b.months.length + 1 := by rw [ints_len]; omega
        repeat' first | ((first | (with_reducible apply XBr.tt) | (with_reducible apply XBr.ff)); conv => whnf) | ((with_reducible apply XBr.dec) <;> (intro h; first | (exfalso; omega) | ((try simp only [List.length_map] at h); first | (exfalso; omega) | (conv => whnf)))) | ((with_reducible apply XBr.bne) <;> (intro h; first | (exfalso; omega) | (conv => whnf))) | ((first | ((with_reducible refine XIx.nat ?_ ?_ ?_); omega; (intro _; rfl)) | (rw [hn]; refine XCall.ret hco ?_) | (refine XCall.ret hcn ?_) | (refine XCall.ret hag ?_)); conv => whnf) | ((with_reducible apply XBr.mk') <;> (intro h; conv => whnf)) | fail
        all_goals first | (exfalso; rename_i h; revert h; decide) | (exfalso; omega) | skip
        have hca2 : c.getD (m : Int).toNat default = n := ha2
        refine Walk.norm tab_ok [] [(2, _), (6, _), (8, _), (9, _), (10, _), (14, _), (16, _), (17, _), (19, _), (20, _), (22, _), (23, _), (82, _), (83, _), (84, _), (135, _), (136, _), (137, _)] ⟨rfl, rfl, rfl, rfl, rfl, rfl, rfl, rfl, rfl, rfl, rfl, rfl, rfl, rfl, rfl, rfl, rfl, rfl, trivial⟩ ?_
        conv => whnf
        repeat' first | ((first | (with_reducible apply XBr.tt) | (with_reducible apply XBr.ff)); conv => whnf) | (with_reducible apply XBr.not) | ((with_reducible apply XBr.bne) <;> (intro h; first | (exfalso; omega) | (conv => whnf))) | ((first | (with_reducible refine XInt.i64 (by omega) (by omega) ?_) | ((with_reducible refine XIx.nat ?_ ?_ ?_); omega; (intro _; rfl))); conv => whnf) | fail
        exact XAgain.go (k + 1) (by omega) (by omega) rfl ⟨rfl, rfl, rfl, rfl, rfl, rfl, rfl, rfl, rfl, rfl, rfl, rfl, rfl, rfl, trivial⟩
    · obtain rfl : k = 2 := by omega
      repeat' first | ((with_reducible apply XBr.dec) <;> (intro h; first | (exfalso; omega) | ((try simp only [List.length_map] at h); first | (exfalso; omega) | (conv => whnf)))) | ((with_reducible refine XInt.i64 (by omega) (by omega) ?_); conv => whnf) | fail
      exact XAgain.go (m + 1, v') ⟨by dsimp only; omega, v2⟩ (by dsimp only; omega) rfl ⟨rfl, rfl, rfl, rfl, rfl, rfl, rfl, rfl, rfl, trivial⟩
  · obtain rfl : m = b.months.length + 1 := by omega
    clear hlt hm hca hbo hck hmo hsv hcr hnb hpE
    unfold mostA at hmst
    by_cases hv : valM b left b.months.length (leastR b).toNat = -1
    · rw [if_pos hv] at hmst
      have hru' : ruleA b left = .tup [.sl true [], .int .i64 0, .int .i64 6] := by
        cases hfl : flrL b left b.months.length with
        | none => exact ruleA_none hE hfl
        | some l =>
          refine ruleA_low hE hfl (Classical.byContradiction fun h => ?_)
          exact hmi.2 ⟨l, hfl, h⟩ hv
      rw [hru'] at hru
      repeat' first | ((with_reducible apply XBr.dec) <;> (intro h; first | (exfalso; omega) | ((try simp only [List.length_map] at h); first | (exfalso; omega) | (conv => whnf)))) | ((with_reducible refine XInt.i64 (by omega) (by omega) ?_); conv => whnf) | ((with_reducible refine XHold.mk ?_ ?_); (first | omega | rfl | decide | exact ⟨rfl, by decide, rfl⟩ | exact wideI _ | exact widePr _ | exact wideSk _ | (unfold Room; constructor <;> ((try simp) <;> omega)) | exact ⟨rfl, by simp only [List.length_map], by unfold Room; constructor <;> ((try simp) <;> omega)⟩ | exact ⟨by omega, by omega, by unfold Room; constructor <;> ((try simp) <;> omega)⟩); conv => whnf) | ((first | (rw [hl]; refine XCall.ret hmst ?_) | (refine XCall.ret hru ?_)); conv => whnf) | fail
      refine Walk.norm tab_ok [] [(8, _), (9, _), (13, _), (15, _), (24, _), (25, _), (26, _), (27, _)] ⟨rfl, rfl, rfl, rfl, rfl, rfl, rfl, rfl, trivial⟩ ?_
      conv => whnf
      repeat' first | ((first | (with_reducible apply XBr.tt) | (with_reducible apply XBr.ff)); conv => whnf) | ((with_reducible apply XBr.beq) <;> (intro h; first | (exfalso; omega) | (conv => whnf))) | ((with_reducible apply XBr.bne) <;> (intro h; first | (exfalso; omega) | (conv => whnf))) | fail
      refine Walk.loopGK tab_ok [] [(8, _), (9, _), (13, _), (24, _), (25, _), (26, _), (27, _)] ⟨rfl, rfl, rfl, rfl, rfl, rfl, rfl, trivial⟩ (fun q : Nat × Hp => q.1 ≤ 5 ∧ q.2.Ok) (fun q => [(243, natA q.1)]) (fun q => [hpC w1, hpC q.2, .cells (bedC b)]) (fun q => 5 - q.1) (0, v) ⟨by dsimp only; omega, vo⟩ rfl ⟨rfl, trivial⟩ ?_ (fun _ _ => (show (3 : Nat) ≤ 3 from Nat.le_refl 3)) ?_
      · intro q _
        refine ⟨fun z hz => ?_, fun z hz => ?_⟩
        · simp only [List.mem_cons, List.not_mem_nil, or_false] at hz
          rcases hz with rfl | rfl | rfl <;> first | exact hpC_low _ | exact lowBd b
        · simp only [List.cons_append, List.nil_append, List.mem_cons, List.not_mem_nil, or_false] at hz
          rcases hz with rfl | rfl | rfl | rfl | rfl | rfl | rfl | rfl <;> first | rfl | exact lowI _
      rintro ⟨i, v⟩ ⟨hi, vo⟩
      dsimp only at hi vo ⊢
      have hbe := begun_c b ok v vo
      obtain ⟨wo, cl⟩ := bgK_ok (b := b) vo b.months.length
      have wo2 := hpS_ok wo
      have hn0 : 0 ≤ bgN b v ∧ bgN b v ≤ b.room := by unfold bgN; omega
      generalize bgN b v = n0 at hbe hn0
      generalize hpS (bgK b v b.months.length).2 = w at hbe wo2
      generalize (bgK b v b.months.length).1 = cs at hbe
      conv => whnf
      repeat' first | ((with_reducible apply XBr.dec) <;> (intro h; first | (exfalso; omega) | ((try simp only [List.length_map] at h); first | (exfalso; omega) | (conv => whnf)))) | ((first | (refine XCall.hp (j := 1) hbe (by simp only [AV.low, lowL, chs_low]; rfl) rfl ?_) | (refine XCall.ret awake04_c ?_)); conv => whnf) | fail
      · refine Walk.loopK tab_ok [] [(8, _), (9, _), (13, _), (24, _), (25, _), (26, _), (27, _), (29, _), (243, _), (253, _), (254, _)] ⟨rfl, rfl, rfl, rfl, rfl, rfl, rfl, rfl, rfl, rfl, rfl, trivial⟩ (fun _ : Unit => True) (fun _ => [(28, .int .i64 n0), (30, .int .i64 n0), (255, natA 0)]) (fun _ => [hpC w1, hpC w, .cells (bedC b)]) (fun _ => 0) () trivial rfl ⟨rfl, rfl, rfl, trivial⟩ ?_
        intro _ _
        conv => whnf
        repeat' first | ((with_reducible apply XBr.dec) <;> (intro h; first | (exfalso; omega) | ((try simp only [List.length_map] at h); first | (exfalso; omega) | (conv => whnf)))) | ((with_reducible apply XBr.bne) <;> (intro h; first | (exfalso; omega) | (conv => whnf))) | (((with_reducible refine XIx.nat ?_ ?_ ?_); omega; (intro _; rfl)); conv => whnf) | fail
        all_goals
          refine Walk.norm tab_ok [] [(8, _), (9, _), (13, _), (24, _), (25, _), (26, _), (27, _), (28, _), (30, _), (243, _)] ⟨rfl, rfl, rfl, rfl, rfl, rfl, rfl, rfl, rfl, rfl, trivial⟩ ?_
          conv => whnf
          repeat' first | ((with_reducible apply XBr.ff); conv => whnf) | ((with_reducible apply XBr.beq) <;> (intro h; first | (exfalso; omega) | (conv => whnf))) | ((with_reducible refine XInt.i64 (by omega) (by omega) ?_); conv => whnf) | fail
        all_goals first | exact XAgainG.go (i + 1, w) [.cells (moC (moB b 0))] ⟨by dsimp only; omega, wo2⟩ (by dsimp only; omega) rfl ⟨rfl, rfl, rfl, rfl, rfl, rfl, rfl, rfl, trivial⟩ | exact XAgainG.go (i + 1, w) [] ⟨by dsimp only; omega, wo2⟩ (by dsimp only; omega) rfl ⟨rfl, rfl, rfl, rfl, rfl, rfl, rfl, rfl, trivial⟩
      · exact ⟨.low rfl⟩
    · rw [if_neg hv] at hmst
      obtain ⟨l, hfl, hlt⟩ := hmi.1 hv
      rw [ruleA_some hE hfl hlt] at hru
      obtain ⟨hpk, -⟩ := hmx.1 hv
      have hpl := okP_len hpk
      have hpb := (planM_bd ok left b.months.length (Nat.le_refl _) (leastR b).toNat).1
      obtain ⟨g1, g2, g3⟩ := flrL_spec ok hsh _ l (Nat.le_refl _) hfl
      have hlen := flrL_len hfl
      have hlb : ∀ j, j ≤ b.months.length → 0 ≤ l.getD j default ∧ l.getD j default ≤ b.room := fun j hj => g2 _ (getD_mem (by omega))
      have hrl : (ruleAs b l).length = b.months.length := vecF_len _ _
      have hsb := smF_b ok hlb
      have hsum0 : 0 ≤ mnP (smF b l b.months.length) (leastR b).toNat (ruleN b) := (mnP_b (F := smF b l b.months.length) (B := 120 * (b.months.length : Int)) (by omega) (lo := (leastR b).toNat) (ruleN b) (Nat.le_of_lt hrn) fun q _ _ => by have := hsb b.months.length (Nat.le_refl _) q; omega).2.2.1 hrn
      generalize mnP (smF b l b.months.length) (leastR b).toNat (ruleN b) = sum at hru hsum0
      generalize planM b left b.months.length (leastR b).toNat = plan at hmst hpk hpl hpb
      have hplI : ((ints plan).length : Int) = b.months.length := by rw [ints_len]; omega
      clear hmi hmx
      repeat' first | ((with_reducible apply XBr.dec) <;> (intro h; first | (exfalso; omega) | ((try simp only [List.length_map] at h); first | (exfalso; omega) | (conv => whnf)))) | ((with_reducible refine XInt.i64 (by omega) (by omega) ?_); conv => whnf) | ((with_reducible refine XHold.mk ?_ ?_); (first | omega | rfl | decide | exact ⟨rfl, by decide, rfl⟩ | exact wideI _ | exact widePr _ | exact wideSk _ | (unfold Room; constructor <;> ((try simp) <;> omega)) | exact ⟨rfl, by simp only [List.length_map], by unfold Room; constructor <;> ((try simp) <;> omega)⟩ | exact ⟨by omega, by omega, by unfold Room; constructor <;> ((try simp) <;> omega)⟩); conv => whnf) | ((first | (rw [hl]; refine XCall.ret hmst ?_) | (refine XCall.ret hru ?_)); conv => whnf) | fail
      refine Walk.norm tab_ok [] [(8, _), (9, _), (13, _), (15, _), (24, _), (25, _), (26, _), (27, _)] ⟨rfl, rfl, rfl, rfl, rfl, rfl, rfl, rfl, trivial⟩ ?_
      conv => whnf
      repeat' first | ((first | (with_reducible apply XBr.tt) | (with_reducible apply XBr.ff)); conv => whnf) | ((with_reducible apply XBr.beq) <;> (intro h; first | (exfalso; omega) | (conv => whnf))) | ((with_reducible apply XBr.bne) <;> (intro h; first | (exfalso; omega) | (conv => whnf))) | fail
      refine Walk.loopGK tab_ok [] [(8, _), (9, _), (13, _), (24, _), (25, _), (26, _), (27, _)] ⟨rfl, rfl, rfl, rfl, rfl, rfl, rfl, trivial⟩ (fun q : Nat × Hp => q.1 ≤ 5 ∧ q.2.Ok) (fun q => [(243, natA q.1)]) (fun q => [hpC w1, hpC q.2, .cells (bedC b)]) (fun q => 5 - q.1) (0, v) ⟨by dsimp only; omega, vo⟩ rfl ⟨rfl, trivial⟩ ?_ (fun _ _ => (show (3 : Nat) ≤ 3 from Nat.le_refl 3)) ?_
      · intro q _
        refine ⟨fun z hz => ?_, fun z hz => ?_⟩
        · simp only [List.mem_cons, List.not_mem_nil, or_false] at hz
          rcases hz with rfl | rfl | rfl <;> first | exact hpC_low _ | exact lowBd b
        · simp only [List.cons_append, List.nil_append, List.mem_cons, List.not_mem_nil, or_false] at hz
          rcases hz with rfl | rfl | rfl | rfl | rfl | rfl | rfl | rfl <;> first | rfl | exact lowI _ | exact ruleAs_low b l
      rintro ⟨i, v⟩ ⟨hi, vo⟩
      dsimp only at hi vo ⊢
      have hbe := begun_c b ok v vo
      obtain ⟨wo, cl⟩ := bgK_ok (b := b) vo b.months.length
      have wo2 := hpS_ok wo
      have hgt := bgK_get (b := b) vo b.months.length
      have hn0 : leastR b ≤ bgN b v ∧ bgN b v ≤ b.room := by
        have := modV_bound (bgK b v b.months.length).2 (b.unsure - (0 - b.unsure))
        unfold bgN; omega
      obtain ⟨n0, hn0e⟩ : ∃ n0 : Nat, bgN b v = n0 := ⟨(bgN b v).toNat, by omega⟩
      rw [hn0e] at hbe hn0
      have hpk0 : okP b left b.months.length n0 plan := okP_mono ok (Nat.le_refl _) hpk (by omega) (okP_refl hpk)
      have hcl : ((chsA (bgK b v b.months.length).1).length : Int) = b.months.length := by rw [List.length_map, cl]
      have hcl2 : (bgK b v b.months.length).1.length = b.months.length := cl
      have hcb : ∀ m, m < b.months.length → (moB b m).pl ≤ ((bgK b v b.months.length).1.getD m default).1 ∧ ((bgK b v b.months.length).1.getD m default).1 ≤ (moB b m).ph ∧ (moB b m).tl ≤ ((bgK b v b.months.length).1.getD m default).2 ∧ ((bgK b v b.months.length).1.getD m default).2 ≤ (moB b m).th := fun m hm => by
        rw [hgt m hm]
        have := ok.mo' hm
        exact bgC_b _ (by omega) (by omega)
      generalize hpS (bgK b v b.months.length).2 = w at hbe wo2
      generalize (bgK b v b.months.length).1 = cs at hbe hcl hcl2 hcb
      clear hgt wo cl
      conv => whnf
      repeat' first | ((with_reducible apply XBr.dec) <;> (intro h; first | (exfalso; omega) | ((try simp only [List.length_map] at h); first | (exfalso; omega) | (conv => whnf)))) | ((first | (refine XCall.hp (j := 1) hbe (by simp only [AV.low, lowL, chs_low]; rfl) rfl ?_) | (refine XCall.ret awake04_c ?_)); conv => whnf) | fail
      · refine Walk.loopGK tab_ok [] [(8, _), (9, _), (13, _), (24, _), (25, _), (26, _), (27, _), (29, _), (243, _), (253, _), (254, _)] ⟨rfl, rfl, rfl, rfl, rfl, rfl, rfl, rfl, rfl, rfl, rfl, trivial⟩ (fun q : Nat × Nat × Nat => q.1 ≤ b.months.length ∧ okP b left (b.months.length - q.1) q.2.1 (plan.drop q.1) ∧ (q.2.1 : Int) ≤ b.room ∧ l.getD q.1 default ≤ q.2.2 ∧ (q.2.2 : Int) ≤ b.room) (fun q => [(28, natA q.2.1), (30, natA q.2.2), (255, natA q.1)]) (fun _ => [hpC w1, hpC w, .cells (bedC b)]) (fun q => b.months.length - q.1) (0, n0, n0) ⟨Nat.zero_le _, by dsimp only; rw [Nat.sub_zero, List.drop_zero]; exact hpk0, hn0.2, by dsimp only; omega, hn0.2⟩ rfl ⟨rfl, rfl, rfl, trivial⟩ ?_ (fun _ _ => (show (3 : Nat) ≤ 3 from Nat.le_refl 3)) ?_
        · intro q _
          refine ⟨fun z hz => ?_, fun z hz => ?_⟩
          · simp only [List.mem_cons, List.not_mem_nil, or_false] at hz
            rcases hz with rfl | rfl | rfl <;> first | exact hpC_low _ | exact lowBd b
          · simp only [List.cons_append, List.nil_append, List.mem_cons, List.not_mem_nil, or_false] at hz
            rcases hz with rfl | rfl | rfl | rfl | rfl | rfl | rfl | rfl | rfl | rfl | rfl | rfl | rfl | rfl <;> first | rfl | exact lowI _ | exact ruleAs_low b l | exact chs_low _ | exact lowMo _
        rintro ⟨m, n, k⟩ ⟨hm, hpk, hn, hk1, hk2⟩
        dsimp only at hm hpk hn hk1 hk2 ⊢
        conv => whnf
        by_cases hmM : m < b.months.length
        · have hmo := ok.mo' hmM
          have hc := hcb m hmM
          have hrr : (ruleRow b l m).length = b.room.toNat + 1 := vecF_len _ _
          have hrv : (ruleRow b l m).getD k default = rkR b l m k := vecF_get _ (by omega)
          have hrb := rkR_b ok hlb (n := k) hmM
          have hrk := rakes_c false (ruleRow b l m) k (by omega) (by rw [hrv]; omega)
          rw [hrv] at hrk
          have hli := lies_c b (moB b m) n (cs.getD m default).1 (cs.getD m default).2 (by omega) (by omega) hmo.1 hmo.2.1 (by omega) (by omega) (by omega) (by omega) (by omega) (by omega)
          have hli2 := lies_c b (moB b m) k (cs.getD m default).1 (cs.getD m default).2 (by omega) (by omega) hmo.1 hmo.2.1 (by omega) (by omega) (by omega) (by omega) (by omega) (by omega)
          have hg1 : ∀ n : Nat, lieR b m n ≤ grossR b.room (moB b m).g n (cs.getD m default).1 (cs.getD m default).2 := fun n => grossR_mono hmo.1 (Int.le_refl _) (by show (moB b m).pl ≤ _; omega) (by show _ ≤ (moB b m).th; omega)
          have hgr : ∀ n : Nat, grossR b.room (moB b m).g n (cs.getD m default).1 (cs.getD m default).2 ≤ b.room := fun n => (grossR_le (by omega) (by omega)).2
          have hga := hg1 n
          have hgb := hg1 k
          have hra := hgr n
          have hrc := hgr k
          obtain ⟨o1, o2, o3⟩ := okP_next ok hmM hpl hpk hga
          have hpbm := hpb _ (getD_mem (xs := plan) (i := m) (d := default) (by omega))
          have hkf := (floor_kept ok hsh hfl).1 m hmM
          have hmono := lieR_mono ok (n := (l.getD m default).toNat) (n' := k) hmM (by have := hlb m (by omega); omega)
          have hr3 := hrb.2.2 (by omega)
          have hlm1 := hlb (m + 1) (by omega)
          have hlb2 := lieR_b ok (j := m) (n := k) hmM
          clear hg1 hgr
          generalize grossR b.room (moB b m).g n (cs.getD m default).1 (cs.getD m default).2 = ga at hli hga hra o1 o2 o3
          generalize grossR b.room (moB b m).g k (cs.getD m default).1 (cs.getD m default).2 = gb at hli2 hgb hrc
          repeat' first | ((with_reducible apply XBr.ff); conv => whnf) | ((with_reducible apply XBr.dec) <;> (intro h; first | (exfalso; omega) | ((try simp only [List.length_map] at h); first | (exfalso; omega) | (conv => whnf)))) | ((with_reducible apply XBr.bne) <;> (intro h; first | (exfalso; omega) | (conv => whnf))) | ((first | (with_reducible refine XInt.i64 (by omega) (by omega) ?_) | ((with_reducible refine XIx.nat ?_ ?_ ?_); omega; (intro _; rfl))); conv => whnf) | (with_reducible apply XAnd.mk) | ((first | (with_reducible apply Chk.go) | (with_reducible apply ChkA.go) | (with_reducible apply ChkF.go) | (with_reducible apply ChkB.go)); conv => whnf) | (exact XSame.mk rfl rfl) | (with_reducible exact trivial) | (apply Walk.drawN (id := 38) tab_ok mixed_ok [] [] (hsU _) [_, _, _, _, _, _, _, _, _, _, _, _, _, _, _, _, _, _, _, _, _, _, _, _, _, _, _, _, _, _] (by kernel_rfl) rfl) | ((first | (with_reducible apply XNext.mk) | (refine XIx.vecA m rfl hmM ?_) | (refine XCall.ret hrk ?_) | (refine XCall.ret hli ?_) | (refine XCall.ret hli2 ?_)); conv => whnf) | fail
          exact XAgainG.go (m + 1, (ga - plan.getD m default).toNat, (gb - rkR b l m k).toNat) [.cells (moC (moB b m))] ⟨by dsimp only; omega, o3, by dsimp only; omega, by dsimp only; omega, by dsimp only; omega⟩ (by dsimp only; omega) rfl ⟨rfl, rfl, rfl, rfl, rfl, rfl, rfl, rfl, rfl, rfl, rfl, congrArg (fun z => some (AV.int .i64 z)) (show ga - plan.getD m default = (((ga - plan.getD m default).toNat : Nat) : Int) by omega), congrArg (fun z => some (AV.int .i64 z)) (show gb - rkR b l m k = (((gb - rkR b l m k).toNat : Nat) : Int) by omega), rfl, trivial⟩
        · obtain rfl : m = b.months.length := by omega
          have hf1 : left ≤ n := by rw [Nat.sub_self] at hpk; exact hpk.2
          have hf2 : left ≤ k := by rw [g1] at hk1; exact hk1
          repeat' first | ((with_reducible apply XBr.dec) <;> (intro h; first | (exfalso; omega) | ((try simp only [List.length_map] at h); first | (exfalso; omega) | (conv => whnf)))) | fail
          refine Walk.norm tab_ok [] [(8, _), (9, _), (13, _), (24, _), (25, _), (26, _), (27, _), (28, _), (30, _), (243, _)] ⟨rfl, rfl, rfl, rfl, rfl, rfl, rfl, rfl, rfl, rfl, trivial⟩ ?_
          conv => whnf
          repeat' first | ((first | (with_reducible apply XBr.tt) | (with_reducible apply XBr.ff)); conv => whnf) | ((with_reducible apply XBr.dec) <;> (intro h; first | (exfalso; omega) | ((try simp only [List.length_map] at h); first | (exfalso; omega) | (conv => whnf)))) | ((with_reducible apply XBr.beq) <;> (intro h; first | (exfalso; omega) | (conv => whnf))) | ((with_reducible refine XInt.i64 (by omega) (by omega) ?_); conv => whnf) | fail
          exact XAgainG.go (i + 1, w) [] ⟨by dsimp only; omega, wo2⟩ (by dsimp only; omega) rfl ⟨rfl, rfl, rfl, rfl, rfl, rfl, rfl, rfl, trivial⟩
      · exact ⟨.low rfl⟩
end GA
end
