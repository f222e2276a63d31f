/- Part 7 of a proof: Abs42, F60, F61, F62, F58, F59, F63. -/
import Derived.Test.YtmeankpoalkloaaP6
section
namespace GA
open Go Go.RowKit
set_option linter.unusedVariables false
set_option linter.unusedSimpArgs false
section
variable {P : Program} {E : Env} {h h' : Nat → Option Obj} {β β' : Nat → Value} {H : List Blk} {w w' : World}

theorem SR.besideAt (s : SR P E h β H w) {i : Nat} (hi : H[i]? = some .free) {b0 : Blk} {E' : Env} (hb : E'.b = E.b) (h1 : ∀ i b, blkOf β H i = some b → E'.fr b = w.heap[b]?) (h2 : ∀ b, (∀ i, blkOf β H i ≠ some b) → E'.fr b = E.fr b)
    (X : Ext h β [] h' β' [b0]) (s' : SR P E' h' β' [b0] w') :
    ∃ β'', Ren (fun _ => i) β' [b0] β'' (H.set i (b0.ren fun _ => i)) ∧ Ext h β H h' β'' (H.set i (b0.ren fun _ => i)) ∧ SR P E h' β'' (H.set i (b0.ren fun _ => i)) w' := by
  let β'' : Nat → Value := fun j => if j = i then β' 0 else β j
  have hlt := (List.getElem?_eq_some_iff.1 hi).1
  have b1 : ∀ j, j ≠ i → β'' j = β j := fun j hj => if_neg hj
  have b2 : β'' i = β' 0 := if_pos rfl
  have hsi : (H.set i (b0.ren fun _ => i))[i]? = some (b0.ren fun _ => i) := List.getElem?_set_self hlt
  have hne : ∀ j, j ≠ i → (H.set i (b0.ren fun _ => i))[j]? = H[j]? := fun j hj => List.getElem?_set_ne (Ne.symm hj)
  have R : Ren (fun _ => i) β' [b0] β'' (H.set i (b0.ren fun _ => i)) := by
    refine ⟨fun k x e => ?_, fun k hk => ?_⟩
    · cases k with
      | zero => cases e; exact hsi
      | succ k => simp at e
    · have : k = 0 := by rw [List.length_singleton] at hk; omega
      subst this; exact b2
  have X' : Ext h β H h' β'' (H.set i (b0.ren fun _ => i)) := by
    refine ⟨X.imm, by simp, fun j x x' e e' => ?_⟩
    by_cases hj : j = i
    · subst hj; rw [hi] at e; cases e; trivial
    · rw [hne j hj, e] at e'; cases e'
      have := Blk.to_refl β j x
      cases x <;> first | exact rfl | trivial | (simp only [Blk.to, b1 j hj] at this ⊢; exact this)
  have o1 : ∀ j, j ≠ i → blkOf β'' (H.set i (b0.ren fun _ => i)) j = blkOf β H j := fun j hj => by
    unfold blkOf; rw [hne j hj, b1 j hj]
  have o2 : blkOf β'' (H.set i (b0.ren fun _ => i)) i = blkOf β' [b0] 0 := R.blkOf (i := 0) (by simp)
  have hsplit : ∀ j x, blkOf β'' (H.set i (b0.ren fun _ => i)) j = some x → (j ≠ i ∧ blkOf β H j = some x) ∨ (j = i ∧ blkOf β' [b0] 0 = some x) := by
    intro j x e
    by_cases hj : j = i
    · subst hj; exact .inr ⟨rfl, by rw [← o2]; exact e⟩
    · exact .inl ⟨hj, by rw [← o1 j hj]; exact e⟩
  have hclash : ∀ i j b, blkOf β H i = some b → blkOf β' [b0] j = some b → False := by
    intro i j b e1 e2
    have h3 := s'.fro j b e2
    rw [h1 i b e1, Array.getElem?_eq_getElem (s.lt e1)] at h3
    cases h3
  have hkeep : ∀ i b, blkOf β H i = some b → w'.heap[b]? = w.heap[b]? ∧ h' b = none := by
    intro i b e
    have hlt := s.lt e
    have e1 : E'.fr b = some w.heap[b] := by rw [h1 i b e, Array.getElem?_eq_getElem hlt]
    obtain ⟨e2, e3⟩ := s'.frm b _ e1
    exact ⟨by rw [e2, Array.getElem?_eq_getElem hlt], e3⟩
  refine ⟨β'', R, X', s'.env.trans hb, s'.imm, fun j x e => ?_, fun j k x e1 e2 => ?_, fun j x e => ?_, fun b o e => ?_, fun j x e => ?_⟩
  · by_cases hj : j = i
    · subst hj
      rw [hsi] at e; cases e
      exact R.blk (i := 0) (by simp) (s'.blk 0 _ rfl)
    · rw [hne j hj] at e
      exact (s.blk j x e).keep X' (b1 j hj) fun hd hd' b hb => (hkeep j b (by unfold blkOf; rw [e]; cases x <;> first | exact absurd rfl hd | exact absurd rfl hd' | exact hb)).1
  · rcases hsplit j x e1 with ⟨_, a1⟩ | ⟨rfl, a1⟩ <;> rcases hsplit k x e2 with ⟨_, a2⟩ | ⟨rfl, a2⟩
    · exact s.own _ _ _ a1 a2
    · exact (hclash _ _ _ a1 a2).elim
    · exact (hclash _ _ _ a2 a1).elim
    · rfl
  · rcases hsplit j x e with ⟨_, a1⟩ | ⟨rfl, a1⟩
    · exact (hkeep j x a1).2
    · exact s'.fresh _ _ a1
  · by_cases hh : ∃ i, blkOf β H i = some b
    · obtain ⟨i, hi⟩ := hh
      rw [s.fro _ _ hi] at e; cases e
    · exact s'.frm b o (by rw [h2 b (fun i hi => hh ⟨i, hi⟩)]; exact e)
  · rcases hsplit j x e with ⟨_, a1⟩ | ⟨rfl, a1⟩
    · exact s.fro _ _ a1
    · have h3 := s'.fro _ _ a1
      rw [h2 x (fun i hi => hclash _ _ _ hi a1)] at h3
      exact h3

theorem ACall.giveAt {f : FuncId} {rs : List AV} {r : AV} {b0 : Blk} {k : AV → List Blk → Prop} (i : Nat) (hi : H[i]? = some .free) (x : Gives P f rs r [b0]) (hk : k (r.ren fun _ => i) (H.set i (b0.ren fun _ => i))) : ACall P f rs H k := by
  refine ⟨x.o.1, fun E h β w vs s hr => ?_⟩
  classical
  let E' : Env := ⟨E.b, fun b => if ∃ i, blkOf β H i = some b then w.heap[b]? else E.fr b, E.en⟩
  have s0 : SR P E' h β [] w := by
    refine ⟨s.env, s.imm, fun i x e => by simp at e, fun i j x e => by simp [blkOf] at e, fun i x e => by simp [blkOf] at e, fun b o e => ?_, fun i x e => by simp [blkOf] at e⟩
    simp only [E'] at e
    split at e
    · rename_i hh; obtain ⟨i, hi⟩ := hh; exact ⟨e, s.fresh _ _ hi⟩
    · exact s.frm b o e
  have hr0 : RepL P h β [] rs vs := ⟨hr.1, fun j y e => by
    obtain ⟨v, e1, e2⟩ := hr.2 j y e
    exact ⟨v, e1, Rep.cut (H := []) (l := H) e2 ((lowL_iff.1 x.lo) y (List.mem_of_getElem? e))⟩⟩
  refine (x.o.2 E' h β w vs s0 hr0).mono ?_
  rintro e w' ⟨r1, H1, h', β', v, rfl, ⟨rfl, rfl⟩, X, s', hrep⟩
  obtain ⟨β'', R, X', s''⟩ := s.besideAt hi (E' := E') rfl (fun i b e => by simp only [E']; rw [if_pos ⟨i, e⟩]) (fun b hn => by simp only [E']; rw [if_neg (fun ⟨i, hi⟩ => hn i hi)]) X s'
  exact ⟨_, _, h', β'', v, rfl, hk, X', s'', R.rep hrep⟩
theorem XCall.giveAt {f : FuncId} {rs : List AV} {r : AV} {b0 : Blk} {k : AV → List Blk → Prop} (i : Nat) (hi : lget H i = some .free) (x : Gives P f rs r [b0]) (hk : k (r.ren fun _ => i) (H.set i (b0.ren fun _ => i))) : XCall P f rs H k := ⟨.giveAt i (by rw [lget_eq] at hi; exact hi) x hk⟩
end
end GA
end

section
namespace GA
open Go Go.RowKit Go.Proofs
set_option pp.deepTerms true
set_option maxRecDepth 8000
set_option linter.unusedVariables false
set_option linter.unusedSimpArgs false

theorem XCall.dupTrAt {nl : Bool} {xs : List Tru} {H : List Blk} {k : AV → List Blk → Prop} (i : Nat) (hi : lget H i = some .free) (hx : xs.length ≤ 100000) (hk : k (.gr i xs.length) (H.set i (.grow 58 false (xs.map trA)))) : XCall Try.prog 78 [.sl nl (xs.map trA)] H k := by
  refine XCall.giveAt i hi (dup_tr_g nl xs hx) ?_
  rw [renTr]; exact hk
theorem renOw (f : Nat → Nat) (nl : Bool) (xs : List Tru) : Blk.ren f (.grow 58 nl (xs.map owT)) = .grow 58 nl (xs.map owT) := Blk.ren_low (n := 0) (fun i hi => by omega) (lowL_map (fun _ => owTL _) _)
theorem rows1_g (nl : Bool) (r0 : Rw) (h0 : r0.2.length ≤ 1000) : Gives Try.prog 45 [.sl nl [rwA r0]] (.gr 0 1) [.grow 32 false [.gr 1 r0.2.length], .grow 3 false (ints r0.2)] := by
  refine Gives.body (T := tab) (res := [.tmp 2]) tab_ok [] Try.func45 rfl (by kernel_rfl) Try.ntmps45 rfl (by simp only [List.length_cons, List.length_nil]; decide) (by simp only [lowL, AV.low, rwA, lowI]; rfl) rfl (fun x hx => by simp only [List.mem_cons, List.not_mem_nil, or_false] at hx; rcases hx with rfl | rfl; rfl; exact lowI _) ?_; conv => whnf
  have e1 : (([rwA r0].length : Nat) : Int) = 1 := rfl
  repeat' first | ((with_reducible refine XHold.mk ?_ ?_); (first | omega | rfl | decide | exact ⟨rfl, by decide, rfl⟩ | exact wideI _ | exact widePr _ | exact wideSk _ | (unfold Room; constructor <;> ((try simp) <;> omega)) | exact ⟨rfl, by simp only [List.length_map], by unfold Room; constructor <;> ((try simp) <;> omega)⟩ | exact ⟨by omega, by omega, by unfold Room; constructor <;> ((try simp) <;> omega)⟩); conv => whnf) | fail
  refine Walk.loopK tab_ok [] [(2, _), (9, _), (10, _)] ⟨rfl, rfl, rfl, trivial⟩ (fun k : Nat => k ≤ 1) (fun k => [(3, .gr 0 k), (11, natA k)]) (fun k => match k with | 0 => [.grow 32 false []] | _ => [.grow 32 false [.gr 1 r0.2.length], .grow 3 false (ints r0.2)]) (fun k => 1 - k) 0 (Nat.zero_le _) rfl ⟨rfl, rfl, trivial⟩ ?_
  intro k hk
  have hc : k = 0 ∨ k = 1 := by omega
  rcases hc with rfl | rfl
  · conv => whnf
    repeat' first | ((with_reducible apply XBr.dec) <;> (intro h; first | (exfalso; omega) | ((try simp only [List.length_map] at h); first | (exfalso; omega) | (conv => whnf)))) | ((with_reducible refine XInt.i64 (by omega) (by omega) ?_); conv => whnf) | ((with_reducible refine XHold.mk ?_ ?_); (first | omega | rfl | decide | exact ⟨rfl, by decide, rfl⟩ | exact wideI _ | exact widePr _ | exact wideSk _ | (unfold Room; constructor <;> ((try simp) <;> omega)) | exact ⟨rfl, by simp only [List.length_map], by unfold Room; constructor <;> ((try simp) <;> omega)⟩ | exact ⟨by omega, by omega, by unfold Room; constructor <;> ((try simp) <;> omega)⟩); conv => whnf) | ((first | (refine XCall.dup (by omega) ?_) | (refine XIx.mk (by omega) (by omega) rfl ?_)); conv => whnf) | fail
    exact XAgain.go 1 (by omega) (by omega) rfl ⟨rfl, rfl, rfl, rfl, rfl, trivial⟩
  · conv => whnf
    repeat' first | ((with_reducible apply XBr.dec) <;> (intro h; first | (exfalso; omega) | ((try simp only [List.length_map] at h); first | (exfalso; omega) | (conv => whnf)))) | fail
    exact XGive.mk' [0, 1] rfl (by decide) ⟨rfl, congrArg some (ren_grow _ _ _ _).symm, trivial⟩ rfl
theorem XCall.rows1 {nl : Bool} {r0 : Rw} {H : List Blk} {k : AV → List Blk → Prop} (h0 : r0.2.length ≤ 1000) (hk : k (.gr H.length 1) (H ++ [.grow 32 false [.gr (H.length + 1) r0.2.length], .grow 3 false (ints r0.2)])) : XCall Try.prog 45 [.sl nl [rwA r0]] H k := by
  refine XCall.give (rows1_g nl r0 h0) ?_
  simp only [List.map_cons, List.map_nil, ren_grow]; exact hk
theorem rows2_g (nl : Bool) (r0 r1 : Rw) (h0 : r0.2.length ≤ 1000) (h1 : r1.2.length ≤ 1000) : Gives Try.prog 45 [.sl nl [rwA r0, rwA r1]] (.gr 0 2) [.grow 32 false [.gr 1 r0.2.length, .gr 2 r1.2.length], .grow 3 false (ints r0.2), .grow 3 false (ints r1.2)] := by
  refine Gives.body (T := tab) (res := [.tmp 2]) tab_ok [] Try.func45 rfl (by kernel_rfl) Try.ntmps45 rfl (by simp only [List.length_cons, List.length_nil]; decide) (by simp only [lowL, AV.low, rwA, lowI]; rfl) rfl (fun x hx => by simp only [List.mem_cons, List.not_mem_nil, or_false] at hx; rcases hx with rfl | rfl | rfl; rfl; exact lowI _; exact lowI _) ?_; conv => whnf
  have e1 : (([rwA r0, rwA r1].length : Nat) : Int) = 2 := rfl
  repeat' first | ((with_reducible refine XHold.mk ?_ ?_); (first | omega | rfl | decide | exact ⟨rfl, by decide, rfl⟩ | exact wideI _ | exact widePr _ | exact wideSk _ | (unfold Room; constructor <;> ((try simp) <;> omega)) | exact ⟨rfl, by simp only [List.length_map], by unfold Room; constructor <;> ((try simp) <;> omega)⟩ | exact ⟨by omega, by omega, by unfold Room; constructor <;> ((try simp) <;> omega)⟩); conv => whnf) | fail
  refine Walk.loopK tab_ok [] [(2, _), (9, _), (10, _)] ⟨rfl, rfl, rfl, trivial⟩ (fun k : Nat => k ≤ 2) (fun k => [(3, .gr 0 k), (11, natA k)]) (fun k => match k with | 0 => [.grow 32 false []] | 1 => [.grow 32 false [.gr 1 r0.2.length], .grow 3 false (ints r0.2)] | _ => [.grow 32 false [.gr 1 r0.2.length, .gr 2 r1.2.length], .grow 3 false (ints r0.2), .grow 3 false (ints r1.2)]) (fun k => 2 - k) 0 (Nat.zero_le _) rfl ⟨rfl, rfl, trivial⟩ ?_
  intro k hk
  have hc : k = 0 ∨ k = 1 ∨ k = 2 := by omega
  rcases hc with rfl | rfl | rfl
  · conv => whnf
    repeat' first | ((with_reducible apply XBr.dec) <;> (intro h; first | (exfalso; omega) | ((try simp only [List.length_map] at h); first | (exfalso; omega) | (conv => whnf)))) | ((with_reducible refine XInt.i64 (by omega) (by omega) ?_); conv => whnf) | ((with_reducible refine XHold.mk ?_ ?_); (first | omega | rfl | decide | exact ⟨rfl, by decide, rfl⟩ | exact wideI _ | exact widePr _ | exact wideSk _ | (unfold Room; constructor <;> ((try simp) <;> omega)) | exact ⟨rfl, by simp only [List.length_map], by unfold Room; constructor <;> ((try simp) <;> omega)⟩ | exact ⟨by omega, by omega, by unfold Room; constructor <;> ((try simp) <;> omega)⟩); conv => whnf) | ((first | (refine XCall.dup (by omega) ?_) | (refine XIx.mk (by omega) (by omega) rfl ?_)); conv => whnf) | fail
    exact XAgain.go 1 (by omega) (by omega) rfl ⟨rfl, rfl, rfl, rfl, rfl, trivial⟩
  · conv => whnf
    repeat' first | ((with_reducible apply XBr.dec) <;> (intro h; first | (exfalso; omega) | ((try simp only [List.length_map] at h); first | (exfalso; omega) | (conv => whnf)))) | ((with_reducible refine XInt.i64 (by omega) (by omega) ?_); conv => whnf) | ((with_reducible refine XHold.mk ?_ ?_); (first | omega | rfl | decide | exact ⟨rfl, by decide, rfl⟩ | exact wideI _ | exact widePr _ | exact wideSk _ | (unfold Room; constructor <;> ((try simp) <;> omega)) | exact ⟨rfl, by simp only [List.length_map], by unfold Room; constructor <;> ((try simp) <;> omega)⟩ | exact ⟨by omega, by omega, by unfold Room; constructor <;> ((try simp) <;> omega)⟩); conv => whnf) | ((first | (refine XCall.dup (by omega) ?_) | (refine XIx.mk (by omega) (by omega) rfl ?_)); conv => whnf) | fail
    exact XAgain.go 2 (by omega) (by omega) rfl ⟨rfl, rfl, rfl, rfl, rfl, trivial⟩
  · conv => whnf
    repeat' first | ((with_reducible apply XBr.dec) <;> (intro h; first | (exfalso; omega) | ((try simp only [List.length_map] at h); first | (exfalso; omega) | (conv => whnf)))) | fail
    exact XGive.mk' [0, 1, 2] rfl (by decide) ⟨rfl, congrArg some (ren_grow _ _ _ _).symm, congrArg some (ren_grow _ _ _ _).symm, trivial⟩ rfl
theorem XCall.rows2 {nl : Bool} {r0 r1 : Rw} {H : List Blk} {k : AV → List Blk → Prop} (h0 : r0.2.length ≤ 1000) (h1 : r1.2.length ≤ 1000) (hk : k (.gr H.length 2) (H ++ [.grow 32 false [.gr (H.length + 1) r0.2.length, .gr (H.length + 2) r1.2.length], .grow 3 false (ints r0.2), .grow 3 false (ints r1.2)])) : XCall Try.prog 45 [.sl nl [rwA r0, rwA r1]] H k := by
  refine XCall.give (rows2_g nl r0 r1 h0 h1) ?_
  simp only [List.map_cons, List.map_nil, ren_grow]; exact hk
theorem rows3_g (nl : Bool) (r0 r1 r2 : Rw) (h0 : r0.2.length ≤ 1000) (h1 : r1.2.length ≤ 1000) (h2 : r2.2.length ≤ 1000) : Gives Try.prog 45 [.sl nl [rwA r0, rwA r1, rwA r2]] (.gr 0 3) [.grow 32 false [.gr 1 r0.2.length, .gr 2 r1.2.length, .gr 3 r2.2.length], .grow 3 false (ints r0.2), .grow 3 false (ints r1.2), .grow 3 false (ints r2.2)] := by
  refine Gives.body (T := tab) (res := [.tmp 2]) tab_ok [] Try.func45 rfl (by kernel_rfl) Try.ntmps45 rfl (by simp only [List.length_cons, List.length_nil]; decide) (by simp only [lowL, AV.low, rwA, lowI]; rfl) rfl (fun x hx => by simp only [List.mem_cons, List.not_mem_nil, or_false] at hx; rcases hx with rfl | rfl | rfl | rfl; rfl; exact lowI _; exact lowI _; exact lowI _) ?_; conv => whnf
  have e1 : (([rwA r0, rwA r1, rwA r2].length : Nat) : Int) = 3 := rfl
  repeat' first | ((with_reducible refine XHold.mk ?_ ?_); (first | omega | rfl | decide | exact ⟨rfl, by decide, rfl⟩ | exact wideI _ | exact widePr _ | exact wideSk _ | (unfold Room; constructor <;> ((try simp) <;> omega)) | exact ⟨rfl, by simp only [List.length_map], by unfold Room; constructor <;> ((try simp) <;> omega)⟩ | exact ⟨by omega, by omega, by unfold Room; constructor <;> ((try simp) <;> omega)⟩); conv => whnf) | fail
  refine Walk.loopK tab_ok [] [(2, _), (9, _), (10, _)] ⟨rfl, rfl, rfl, trivial⟩ (fun k : Nat => k ≤ 3) (fun k => [(3, .gr 0 k), (11, natA k)]) (fun k => match k with | 0 => [.grow 32 false []] | 1 => [.grow 32 false [.gr 1 r0.2.length], .grow 3 false (ints r0.2)] | 2 => [.grow 32 false [.gr 1 r0.2.length, .gr 2 r1.2.length], .grow 3 false (ints r0.2), .grow 3 false (ints r1.2)] | _ => [.grow 32 false [.gr 1 r0.2.length, .gr 2 r1.2.length, .gr 3 r2.2.length], .grow 3 false (ints r0.2), .grow 3 false (ints r1.2), .grow 3 false (ints r2.2)]) (fun k => 3 - k) 0 (Nat.zero_le _) rfl ⟨rfl, rfl, trivial⟩ ?_
  intro k hk
  have hc : k = 0 ∨ k = 1 ∨ k = 2 ∨ k = 3 := by omega
  rcases hc with rfl | rfl | rfl | rfl
  · conv => whnf
    repeat' first | ((with_reducible apply XBr.dec) <;> (intro h; first | (exfalso; omega) | ((try simp only [List.length_map] at h); first | (exfalso; omega) | (conv => whnf)))) | ((with_reducible refine XInt.i64 (by omega) (by omega) ?_); conv => whnf) | ((with_reducible refine XHold.mk ?_ ?_); (first | omega | rfl | decide | exact ⟨rfl, by decide, rfl⟩ | exact wideI _ | exact widePr _ | exact wideSk _ | (unfold Room; constructor <;> ((try simp) <;> omega)) | exact ⟨rfl, by simp only [List.length_map], by unfold Room; constructor <;> ((try simp) <;> omega)⟩ | exact ⟨by omega, by omega, by unfold Room; constructor <;> ((try simp) <;> omega)⟩); conv => whnf) | ((first | (refine XCall.dup (by omega) ?_) | (refine XIx.mk (by omega) (by omega) rfl ?_)); conv => whnf) | fail
    exact XAgain.go 1 (by omega) (by omega) rfl ⟨rfl, rfl, rfl, rfl, rfl, trivial⟩
  · conv => whnf
    repeat' first | ((with_reducible apply XBr.dec) <;> (intro h; first | (exfalso; omega) | ((try simp only [List.length_map] at h); first | (exfalso; omega) | (conv => whnf)))) | ((with_reducible refine XInt.i64 (by omega) (by omega) ?_); conv => whnf) | ((with_reducible refine XHold.mk ?_ ?_); (first | omega | rfl | decide | exact ⟨rfl, by decide, rfl⟩ | exact wideI _ | exact widePr _ | exact wideSk _ | (unfold Room; constructor <;> ((try simp) <;> omega)) | exact ⟨rfl, by simp only [List.length_map], by unfold Room; constructor <;> ((try simp) <;> omega)⟩ | exact ⟨by omega, by omega, by unfold Room; constructor <;> ((try simp) <;> omega)⟩); conv => whnf) | ((first | (refine XCall.dup (by omega) ?_) | (refine XIx.mk (by omega) (by omega) rfl ?_)); conv => whnf) | fail
    exact XAgain.go 2 (by omega) (by omega) rfl ⟨rfl, rfl, rfl, rfl, rfl, trivial⟩
  · conv => whnf
    repeat' first | ((with_reducible apply XBr.dec) <;> (intro h; first | (exfalso; omega) | ((try simp only [List.length_map] at h); first | (exfalso; omega) | (conv => whnf)))) | ((with_reducible refine XInt.i64 (by omega) (by omega) ?_); conv => whnf) | ((with_reducible refine XHold.mk ?_ ?_); (first | omega | rfl | decide | exact ⟨rfl, by decide, rfl⟩ | exact wideI _ | exact widePr _ | exact wideSk _ | (unfold Room; constructor <;> ((try simp) <;> omega)) | exact ⟨rfl, by simp only [List.length_map], by unfold Room; constructor <;> ((try simp) <;> omega)⟩ | exact ⟨by omega, by omega, by unfold Room; constructor <;> ((try simp) <;> omega)⟩); conv => whnf) | ((first | (refine XCall.dup (by omega) ?_) | (refine XIx.mk (by omega) (by omega) rfl ?_)); conv => whnf) | fail
    exact XAgain.go 3 (by omega) (by omega) rfl ⟨rfl, rfl, rfl, rfl, rfl, trivial⟩
  · conv => whnf
    repeat' first | ((with_reducible apply XBr.dec) <;> (intro h; first | (exfalso; omega) | ((try simp only [List.length_map] at h); first | (exfalso; omega) | (conv => whnf)))) | fail
    exact XGive.mk' [0, 1, 2, 3] rfl (by decide) ⟨rfl, congrArg some (ren_grow _ _ _ _).symm, congrArg some (ren_grow _ _ _ _).symm, congrArg some (ren_grow _ _ _ _).symm, trivial⟩ rfl
theorem XCall.rows3 {nl : Bool} {r0 r1 r2 : Rw} {H : List Blk} {k : AV → List Blk → Prop} (h0 : r0.2.length ≤ 1000) (h1 : r1.2.length ≤ 1000) (h2 : r2.2.length ≤ 1000) (hk : k (.gr H.length 3) (H ++ [.grow 32 false [.gr (H.length + 1) r0.2.length, .gr (H.length + 2) r1.2.length, .gr (H.length + 3) r2.2.length], .grow 3 false (ints r0.2), .grow 3 false (ints r1.2), .grow 3 false (ints r2.2)])) : XCall Try.prog 45 [.sl nl [rwA r0, rwA r1, rwA r2]] H k := by
  refine XCall.give (rows3_g nl r0 r1 r2 h0 h1 h2) ?_
  simp only [List.map_cons, List.map_nil, ren_grow]; exact hk
theorem rows4_g (nl : Bool) (r0 r1 r2 r3 : Rw) (h0 : r0.2.length ≤ 1000) (h1 : r1.2.length ≤ 1000) (h2 : r2.2.length ≤ 1000) (h3 : r3.2.length ≤ 1000) : Gives Try.prog 45 [.sl nl [rwA r0, rwA r1, rwA r2, rwA r3]] (.gr 0 4) [.grow 32 false [.gr 1 r0.2.length, .gr 2 r1.2.length, .gr 3 r2.2.length, .gr 4 r3.2.length], .grow 3 false (ints r0.2), .grow 3 false (ints r1.2), .grow 3 false (ints r2.2), .grow 3 false (ints r3.2)] := by
  refine Gives.body (T := tab) (res := [.tmp 2]) tab_ok [] Try.func45 rfl (by kernel_rfl) Try.ntmps45 rfl (by simp only [List.length_cons, List.length_nil]; decide) (by simp only [lowL, AV.low, rwA, lowI]; rfl) rfl (fun x hx => by simp only [List.mem_cons, List.not_mem_nil, or_false] at hx; rcases hx with rfl | rfl | rfl | rfl | rfl; rfl; exact lowI _; exact lowI _; exact lowI _; exact lowI _) ?_; conv => whnf
  have e1 : (([rwA r0, rwA r1, rwA r2, rwA r3].length : Nat) : Int) = 4 := rfl
  repeat' first | ((with_reducible refine XHold.mk ?_ ?_); (first | omega | rfl | decide | exact ⟨rfl, by decide, rfl⟩ | exact wideI _ | exact widePr _ | exact wideSk _ | (unfold Room; constructor <;> ((try simp) <;> omega)) | exact ⟨rfl, by simp only [List.length_map], by unfold Room; constructor <;> ((try simp) <;> omega)⟩ | exact ⟨by omega, by omega, by unfold Room; constructor <;> ((try simp) <;> omega)⟩); conv => whnf) | fail
  refine Walk.loopK tab_ok [] [(2, _), (9, _), (10, _)] ⟨rfl, rfl, rfl, trivial⟩ (fun k : Nat => k ≤ 4) (fun k => [(3, .gr 0 k), (11, natA k)]) (fun k => match k with | 0 => [.grow 32 false []] | 1 => [.grow 32 false [.gr 1 r0.2.length], .grow 3 false (ints r0.2)] | 2 => [.grow 32 false [.gr 1 r0.2.length, .gr 2 r1.2.length], .grow 3 false (ints r0.2), .grow 3 false (ints r1.2)] | 3 => [.grow 32 false [.gr 1 r0.2.length, .gr 2 r1.2.length, .gr 3 r2.2.length], .grow 3 false (ints r0.2), .grow 3 false (ints r1.2), .grow 3 false (ints r2.2)] | _ => [.grow 32 false [.gr 1 r0.2.length, .gr 2 r1.2.length, .gr 3 r2.2.length, .gr 4 r3.2.length], .grow 3 false (ints r0.2), .grow 3 false (ints r1.2), .grow 3 false (ints r2.2), .grow 3 false (ints r3.2)]) (fun k => 4 - k) 0 (Nat.zero_le _) rfl ⟨rfl, rfl, trivial⟩ ?_
  intro k hk
  have hc : k = 0 ∨ k = 1 ∨ k = 2 ∨ k = 3 ∨ k = 4 := by omega
  rcases hc with rfl | rfl | rfl | rfl | rfl
  · conv => whnf
    repeat' first | ((with_reducible apply XBr.dec) <;> (intro h; first | (exfalso; omega) | ((try simp only [List.length_map] at h); first | (exfalso; omega) | (conv => whnf)))) | ((with_reducible refine XInt.i64 (by omega) (by omega) ?_); conv => whnf) | ((with_reducible refine XHold.mk ?_ ?_); (first | omega | rfl | decide | exact ⟨rfl, by decide, rfl⟩ | exact wideI _ | exact widePr _ | exact wideSk _ | (unfold Room; constructor <;> ((try simp) <;> omega)) | exact ⟨rfl, by simp only [List.length_map], by unfold Room; constructor <;> ((try simp) <;> omega)⟩ | exact ⟨by omega, by omega, by unfold Room; constructor <;> ((try simp) <;> omega)⟩); conv => whnf) | ((first | (refine XCall.dup (by omega) ?_) | (refine XIx.mk (by omega) (by omega) rfl ?_)); conv => whnf) | fail
    exact XAgain.go 1 (by omega) (by omega) rfl ⟨rfl, rfl, rfl, rfl, rfl, trivial⟩
  · conv => whnf
    repeat' first | ((with_reducible apply XBr.dec) <;> (intro h; first | (exfalso; omega) | ((try simp only [List.length_map] at h); first | (exfalso; omega) | (conv => whnf)))) | ((with_reducible refine XInt.i64 (by omega) (by omega) ?_); conv => whnf) | ((with_reducible refine XHold.mk ?_ ?_); (first | omega | rfl | decide | exact ⟨rfl, by decide, rfl⟩ | exact wideI _ | exact widePr _ | exact wideSk _ | (unfold Room; constructor <;> ((try simp) <;> omega)) | exact ⟨rfl, by simp only [List.length_map], by unfold Room; constructor <;> ((try simp) <;> omega)⟩ | exact ⟨by omega, by omega, by unfold Room; constructor <;> ((try simp) <;> omega)⟩); conv => whnf) | ((first | (refine XCall.dup (by omega) ?_) | (refine XIx.mk (by omega) (by omega) rfl ?_)); conv => whnf) | fail
    exact XAgain.go 2 (by omega) (by omega) rfl ⟨rfl, rfl, rfl, rfl, rfl, trivial⟩
  · conv => whnf
    repeat' first | ((with_reducible apply XBr.dec) <;> (intro h; first | (exfalso; omega) | ((try simp only [List.length_map] at h); first | (exfalso; omega) | (conv => whnf)))) | ((with_reducible refine XInt.i64 (by omega) (by omega) ?_); conv => whnf) | ((with_reducible refine XHold.mk ?_ ?_); (first | omega | rfl | decide | exact ⟨rfl, by decide, rfl⟩ | exact wideI _ | exact widePr _ | exact wideSk _ | (unfold Room; constructor <;> ((try simp) <;> omega)) | exact ⟨rfl, by simp only [List.length_map], by unfold Room; constructor <;> ((try simp) <;> omega)⟩ | exact ⟨by omega, by omega, by unfold Room; constructor <;> ((try simp) <;> omega)⟩); conv => whnf) | ((first | (refine XCall.dup (by omega) ?_) | (refine XIx.mk (by omega) (by omega) rfl ?_)); conv => whnf) | fail
    exact XAgain.go 3 (by omega) (by omega) rfl ⟨rfl, rfl, rfl, rfl, rfl, trivial⟩
  · conv => whnf
    repeat' first | ((with_reducible apply XBr.dec) <;> (intro h; first | (exfalso; omega) | ((try simp only [List.length_map] at h); first | (exfalso; omega) | (conv => whnf)))) | ((with_reducible refine XInt.i64 (by omega) (by omega) ?_); conv => whnf) | ((with_reducible refine XHold.mk ?_ ?_); (first | omega | rfl | decide | exact ⟨rfl, by decide, rfl⟩ | exact wideI _ | exact widePr _ | exact wideSk _ | (unfold Room; constructor <;> ((try simp) <;> omega)) | exact ⟨rfl, by simp only [List.length_map], by unfold Room; constructor <;> ((try simp) <;> omega)⟩ | exact ⟨by omega, by omega, by unfold Room; constructor <;> ((try simp) <;> omega)⟩); conv => whnf) | ((first | (refine XCall.dup (by omega) ?_) | (refine XIx.mk (by omega) (by omega) rfl ?_)); conv => whnf) | fail
    exact XAgain.go 4 (by omega) (by omega) rfl ⟨rfl, rfl, rfl, rfl, rfl, trivial⟩
  · conv => whnf
    repeat' first | ((with_reducible apply XBr.dec) <;> (intro h; first | (exfalso; omega) | ((try simp only [List.length_map] at h); first | (exfalso; omega) | (conv => whnf)))) | fail
    exact XGive.mk' [0, 1, 2, 3, 4] rfl (by decide) ⟨rfl, congrArg some (ren_grow _ _ _ _).symm, congrArg some (ren_grow _ _ _ _).symm, congrArg some (ren_grow _ _ _ _).symm, congrArg some (ren_grow _ _ _ _).symm, trivial⟩ rfl
theorem XCall.rows4 {nl : Bool} {r0 r1 r2 r3 : Rw} {H : List Blk} {k : AV → List Blk → Prop} (h0 : r0.2.length ≤ 1000) (h1 : r1.2.length ≤ 1000) (h2 : r2.2.length ≤ 1000) (h3 : r3.2.length ≤ 1000) (hk : k (.gr H.length 4) (H ++ [.grow 32 false [.gr (H.length + 1) r0.2.length, .gr (H.length + 2) r1.2.length, .gr (H.length + 3) r2.2.length, .gr (H.length + 4) r3.2.length], .grow 3 false (ints r0.2), .grow 3 false (ints r1.2), .grow 3 false (ints r2.2), .grow 3 false (ints r3.2)])) : XCall Try.prog 45 [.sl nl [rwA r0, rwA r1, rwA r2, rwA r3]] H k := by
  refine XCall.give (rows4_g nl r0 r1 r2 r3 h0 h1 h2 h3) ?_
  simp only [List.map_cons, List.map_nil, ren_grow]; exact hk
end GA
end

section
namespace GA
open Go Go.RowKit Go.Proofs
set_option pp.deepTerms true
set_option maxRecDepth 8000
set_option linter.unusedVariables false
set_option linter.unusedSimpArgs false

set_option maxHeartbeats 4000000 in
theorem ownL1_g (s : Sn) (r0 : Rw) (hb : SnB { s with looks := [r0] }) : Gives Try.prog 23 [snA { s with looks := [r0] }] (.agg [.int .i64 s.places, .int .i64 s.home, .int .i64 s.bed, .int .i64 s.last, .sl false (s.ways.map wyA), .gr 1 1, .gr 0 s.truths.length]) [.grow 58 false (s.truths.map owT), .grow 32 false [.gr 2 r0.2.length], .grow 3 false (ints r0.2)] := by
  have b1 : s.ways.length ≤ 1000 := hb.w
  have b3 : s.truths.length ≤ 1000 := hb.t
  have q1 := dup_wy s.nw s.ways (by omega)
  have l0 : r0.2.length ≤ 1000 := hb.kl r0 (by simp)
  have e3 : ((s.truths.map trA).length : Int) = s.truths.length := by rw [List.length_map]
  refine Gives.body (T := tab) (res := [.cell 2 27]) tab_ok [1] Try.func23 rfl (by kernel_rfl) Try.ntmps23 rfl (by simp only [List.length_cons, List.length_nil]; decide) (by simp only [lowL, snL]; rfl) (by show (true && (true && (true && (true && (lowL _ (s.ways.map wyA) && (true && (true && true))))))) = true; rw [lowWy]; rfl) (fun x hx => by simp only [List.mem_cons, List.not_mem_nil, or_false] at hx; rcases hx with rfl | rfl | rfl; exact lowL_map (fun _ => owTL _) _; rfl; exact lowI _) ?_; conv => whnf
  skip
  refine Walk.place ?_
  refine Walk.heapE [.cells [.int .i64 s.places, .int .i64 s.home, .int .i64 s.bed, .int .i64 s.last, .sl s.nw (s.ways.map wyA), .sl s.nk [rwA r0], .sl s.nt (s.truths.map trA)], .cells [.int .i64 0, .int .i64 0, .int .i64 0, .int .i64 0, .sl true [], .sl true [], .sl true []], .free] rfl ?_
  apply Walk.drawX tab_ok mixed_ok [1] [5, 8, 10, 12, 14] (fun fl => match fl with
    | [a, b, c, d, e] => .cells [.int .i64 s.places, .int .i64 s.home, .int .i64 s.bed, .int .i64 s.last, (bif c then .sl false (s.ways.map wyA) else .sl s.nw (s.ways.map wyA)), (bif d then .gr 3 1 else .sl s.nk [rwA r0]), (bif e then .gr 2 s.truths.length else .sl s.nt (s.truths.map trA))] :: .cells [.int .i64 0, .int .i64 0, .int .i64 0, .int .i64 0, .sl true [], .sl true [], .sl true []] :: (bif b then .grow 58 false (s.truths.map trA) else .free) :: (bif a then [.grow 32 false [.gr 4 r0.2.length], .grow 3 false (ints r0.2)] else [])
    | _ => []) [_, _, _, _, _, .gr 3 1, _, _, .gr 2 s.truths.length, _, _, _, _, _, _] (by kernel_rfl) rfl
  · skip
    repeat' first | (with_reducible apply XAnd.mk) | ((first | (with_reducible apply Chk.go) | (with_reducible apply ChkA.go)); conv => whnf) | (exact XSame.mk rfl rfl) | (with_reducible exact trivial) | ((first | (refine XCall.ret q1 ?_) | (refine XCall.rows1 l0 ?_) | (refine XCall.dupTrAt 2 rfl (by omega) ?_)); conv => whnf) | fail
  · skip
    repeat' first | (with_reducible apply XAnd.mk) | ((first | (with_reducible apply Chk.go) | (with_reducible apply ChkF.go) | (with_reducible apply ChkB.go)); conv => whnf) | (exact XSame.mk rfl rfl) | (with_reducible exact trivial) | fail
  conv => whnf
  repeat' first | ((with_reducible refine XHold.mk ?_ ?_); (first | omega | rfl | decide | exact ⟨rfl, by decide, rfl⟩ | exact wideI _ | exact widePr _ | exact wideSk _ | (unfold Room; constructor <;> ((try simp) <;> omega)) | exact ⟨rfl, by simp only [List.length_map], by unfold Room; constructor <;> ((try simp) <;> omega)⟩ | exact ⟨by omega, by omega, by unfold Room; constructor <;> ((try simp) <;> omega)⟩); conv => whnf) | fail
  refine Walk.loopGK tab_ok [] [(1, _), (2, _), (18, _), (19, _)] ⟨rfl, rfl, rfl, rfl, trivial⟩ (fun k : Nat => k ≤ s.truths.length) (fun k => [(20, natA k)]) (fun k => [.cells [.int .i64 s.places, .int .i64 s.home, .int .i64 s.bed, .int .i64 s.last, .sl false (s.ways.map wyA), .gr 3 1, .gr 2 s.truths.length], .cells [.int .i64 0, .int .i64 0, .int .i64 0, .int .i64 0, .sl true [], .sl true [], .sl true []], .grow 58 false (owE s k), .grow 32 false [.gr 4 r0.2.length], .grow 3 false (ints r0.2)]) (fun k => s.truths.length - k) 0 (Nat.zero_le _) rfl ⟨rfl, trivial⟩ ?_ (fun _ _ => (show (5 : Nat) ≤ 5 from Nat.le_refl 5)) ?_
  · intro k _
    refine ⟨fun z hz => ?_, fun z hz => ?_⟩
    · simp only [List.mem_cons, List.not_mem_nil, or_false] at hz
      rcases hz with rfl | rfl | rfl | rfl | rfl
      · show (true && (true && (true && (true && (lowL _ (s.ways.map wyA) && (true && (true && true))))))) = true
        rw [lowWy]; rfl
      · rfl
      · exact owE_low s k
      · rfl
      · exact lowI _
    · simp only [List.cons_append, List.nil_append, List.mem_cons, List.not_mem_nil, or_false] at hz
      rcases hz with rfl | rfl | rfl | rfl | rfl <;> first | rfl | exact lowTr _
  intro k hk
  have hel := owE_len s hk
  conv => whnf
  by_cases hlt : k < s.truths.length
  · have hget : (owE s k).getD (k : Int).toNat default = trA (s.truths.getD k default) := by
      rw [Int.toNat_natCast]
      unfold owE
      have hl : ((s.truths.take k).map owT).length = k := by rw [List.length_map, List.length_take]; omega
      rw [List.getD_eq_getElem?_getD, List.getElem?_append_right (by omega), hl, Nat.sub_self, drop_next hlt]; rfl
    have hq := dupRows_sps (s.truths.getD k default).1 (s.truths.getD k default).2 (hb.tl _ (getD_mem (d := default) hlt)) (hb.sl _ (getD_mem (d := default) hlt))
    repeat' first | ((with_reducible apply XBr.dec) <;> (intro h; first | (exfalso; omega) | ((try simp only [List.length_map] at h); first | (exfalso; omega) | (conv => whnf)))) | ((with_reducible refine XInt.i64 (by omega) (by omega) ?_); conv => whnf) | (with_reducible apply XAnd.mk) | ((first | (with_reducible apply Chk.go) | (with_reducible apply ChkA.go) | (with_reducible apply ChkF.go) | (with_reducible apply ChkB.go)); conv => whnf) | (exact XSame.mk rfl rfl) | (with_reducible exact trivial) | (apply Walk.drawN (id := 5) tab_ok mixed_ok [1] [8] (hsC [_, _]) [_, _, _, _, _, _, _, _, _] (by kernel_rfl) rfl) | ((first | (with_reducible apply XNext.mk) | (first | refine XHold.mk ⟨hel, rfl, by omega, by omega⟩ ?_ | refine XHold.mk ⟨owE_len s (show k + 1 ≤ s.truths.length by omega), rfl, by omega, by omega⟩ ?_) | ((refine XGet.mk hel.symm (by omega) ?_); rw [hget]) | (refine XCall.ret hq ?_) | ((refine XPut.mk hel.symm (by omega) ?_); rw [show (owE s k).set (k : Int).toNat (AV.sl false (((s.truths.getD k default).2.map ownP).map spsA)) = owE s (k + 1) from owE_set s hlt])); conv => whnf) | fail
    exact XAgainG.go (k + 1) [_] (by omega) (by omega) rfl ⟨rfl, rfl, rfl, rfl, rfl, trivial⟩
  obtain rfl : k = s.truths.length := by omega
  have hfin : owE s s.truths.length = s.truths.map owT := by unfold owE; rw [List.take_length, List.drop_length]; simp
  rw [hfin]
  repeat' first | ((with_reducible apply XBr.dec) <;> (intro h; first | (exfalso; omega) | ((try simp only [List.length_map] at h); first | (exfalso; omega) | (conv => whnf)))) | fail
  exact XGive.mk' [2, 3, 4] rfl (by decide) ⟨congrArg some (renOw _ _ _).symm, rfl, congrArg some (ren_grow _ _ _ _).symm, trivial⟩ (by simp only [AV.ren, renL, renL_low0 (lowWy _)]; rfl)
set_option maxHeartbeats 4000000 in
theorem ownL2_g (s : Sn) (r0 r1 : Rw) (hb : SnB { s with looks := [r0, r1] }) : Gives Try.prog 23 [snA { s with looks := [r0, r1] }] (.agg [.int .i64 s.places, .int .i64 s.home, .int .i64 s.bed, .int .i64 s.last, .sl false (s.ways.map wyA), .gr 1 2, .gr 0 s.truths.length]) [.grow 58 false (s.truths.map owT), .grow 32 false [.gr 2 r0.2.length, .gr 3 r1.2.length], .grow 3 false (ints r0.2), .grow 3 false (ints r1.2)] := by
  have b1 : s.ways.length ≤ 1000 := hb.w
  have b3 : s.truths.length ≤ 1000 := hb.t
  have q1 := dup_wy s.nw s.ways (by omega)
  have l0 : r0.2.length ≤ 1000 := hb.kl r0 (by simp)
  have l1 : r1.2.length ≤ 1000 := hb.kl r1 (by simp)
  have e3 : ((s.truths.map trA).length : Int) = s.truths.length := by rw [List.length_map]
  refine Gives.body (T := tab) (res := [.cell 2 27]) tab_ok [1] Try.func23 rfl (by kernel_rfl) Try.ntmps23 rfl (by simp only [List.length_cons, List.length_nil]; decide) (by simp only [lowL, snL]; rfl) (by show (true && (true && (true && (true && (lowL _ (s.ways.map wyA) && (true && (true && true))))))) = true; rw [lowWy]; rfl) (fun x hx => by simp only [List.mem_cons, List.not_mem_nil, or_false] at hx; rcases hx with rfl | rfl | rfl | rfl; exact lowL_map (fun _ => owTL _) _; rfl; exact lowI _; exact lowI _) ?_; conv => whnf
  skip
  refine Walk.place ?_
  refine Walk.heapE [.cells [.int .i64 s.places, .int .i64 s.home, .int .i64 s.bed, .int .i64 s.last, .sl s.nw (s.ways.map wyA), .sl s.nk [rwA r0, rwA r1], .sl s.nt (s.truths.map trA)], .cells [.int .i64 0, .int .i64 0, .int .i64 0, .int .i64 0, .sl true [], .sl true [], .sl true []], .free] rfl ?_
  apply Walk.drawX tab_ok mixed_ok [1] [5, 8, 10, 12, 14] (fun fl => match fl with
    | [a, b, c, d, e] => .cells [.int .i64 s.places, .int .i64 s.home, .int .i64 s.bed, .int .i64 s.last, (bif c then .sl false (s.ways.map wyA) else .sl s.nw (s.ways.map wyA)), (bif d then .gr 3 2 else .sl s.nk [rwA r0, rwA r1]), (bif e then .gr 2 s.truths.length else .sl s.nt (s.truths.map trA))] :: .cells [.int .i64 0, .int .i64 0, .int .i64 0, .int .i64 0, .sl true [], .sl true [], .sl true []] :: (bif b then .grow 58 false (s.truths.map trA) else .free) :: (bif a then [.grow 32 false [.gr 4 r0.2.length, .gr 5 r1.2.length], .grow 3 false (ints r0.2), .grow 3 false (ints r1.2)] else [])
    | _ => []) [_, _, _, _, _, .gr 3 2, _, _, .gr 2 s.truths.length, _, _, _, _, _, _] (by kernel_rfl) rfl
  · skip
    repeat' first | (with_reducible apply XAnd.mk) | ((first | (with_reducible apply Chk.go) | (with_reducible apply ChkA.go)); conv => whnf) | (exact XSame.mk rfl rfl) | (with_reducible exact trivial) | ((first | (refine XCall.ret q1 ?_) | (refine XCall.rows2 l0 l1 ?_) | (refine XCall.dupTrAt 2 rfl (by omega) ?_)); conv => whnf) | fail
  · skip
    repeat' first | (with_reducible apply XAnd.mk) | ((first | (with_reducible apply Chk.go) | (with_reducible apply ChkF.go) | (with_reducible apply ChkB.go)); conv => whnf) | (exact XSame.mk rfl rfl) | (with_reducible exact trivial) | fail
  conv => whnf
  repeat' first | ((with_reducible refine XHold.mk ?_ ?_); (first | omega | rfl | decide | exact ⟨rfl, by decide, rfl⟩ | exact wideI _ | exact widePr _ | exact wideSk _ | (unfold Room; constructor <;> ((try simp) <;> omega)) | exact ⟨rfl, by simp only [List.length_map], by unfold Room; constructor <;> ((try simp) <;> omega)⟩ | exact ⟨by omega, by omega, by unfold Room; constructor <;> ((try simp) <;> omega)⟩); conv => whnf) | fail
  refine Walk.loopGK tab_ok [] [(1, _), (2, _), (18, _), (19, _)] ⟨rfl, rfl, rfl, rfl, trivial⟩ (fun k : Nat => k ≤ s.truths.length) (fun k => [(20, natA k)]) (fun k => [.cells [.int .i64 s.places, .int .i64 s.home, .int .i64 s.bed, .int .i64 s.last, .sl false (s.ways.map wyA), .gr 3 2, .gr 2 s.truths.length], .cells [.int .i64 0, .int .i64 0, .int .i64 0, .int .i64 0, .sl true [], .sl true [], .sl true []], .grow 58 false (owE s k), .grow 32 false [.gr 4 r0.2.length, .gr 5 r1.2.length], .grow 3 false (ints r0.2), .grow 3 false (ints r1.2)]) (fun k => s.truths.length - k) 0 (Nat.zero_le _) rfl ⟨rfl, trivial⟩ ?_ (fun _ _ => (show (6 : Nat) ≤ 6 from Nat.le_refl 6)) ?_
  · intro k _
    refine ⟨fun z hz => ?_, fun z hz => ?_⟩
    · simp only [List.mem_cons, List.not_mem_nil, or_false] at hz
      rcases hz with rfl | rfl | rfl | rfl | rfl | rfl
      · show (true && (true && (true && (true && (lowL _ (s.ways.map wyA) && (true && (true && true))))))) = true
        rw [lowWy]; rfl
      · rfl
      · exact owE_low s k
      · rfl
      · exact lowI _
      · exact lowI _
    · simp only [List.cons_append, List.nil_append, List.mem_cons, List.not_mem_nil, or_false] at hz
      rcases hz with rfl | rfl | rfl | rfl | rfl <;> first | rfl | exact lowTr _
  intro k hk
  have hel := owE_len s hk
  conv => whnf
  by_cases hlt : k < s.truths.length
  · have hget : (owE s k).getD (k : Int).toNat default = trA (s.truths.getD k default) := by
      rw [Int.toNat_natCast]
      unfold owE
      have hl : ((s.truths.take k).map owT).length = k := by rw [List.length_map, List.length_take]; omega
      rw [List.getD_eq_getElem?_getD, List.getElem?_append_right (by omega), hl, Nat.sub_self, drop_next hlt]; rfl
    have hq := dupRows_sps (s.truths.getD k default).1 (s.truths.getD k default).2 (hb.tl _ (getD_mem (d := default) hlt)) (hb.sl _ (getD_mem (d := default) hlt))
    repeat' first | ((with_reducible apply XBr.dec) <;> (intro h; first | (exfalso; omega) | ((try simp only [List.length_map] at h); first | (exfalso; omega) | (conv => whnf)))) | ((with_reducible refine XInt.i64 (by omega) (by omega) ?_); conv => whnf) | (with_reducible apply XAnd.mk) | ((first | (with_reducible apply Chk.go) | (with_reducible apply ChkA.go) | (with_reducible apply ChkF.go) | (with_reducible apply ChkB.go)); conv => whnf) | (exact XSame.mk rfl rfl) | (with_reducible exact trivial) | (apply Walk.drawN (id := 5) tab_ok mixed_ok [1] [8] (hsC [_, _]) [_, _, _, _, _, _, _, _, _] (by kernel_rfl) rfl) | ((first | (with_reducible apply XNext.mk) | (first | refine XHold.mk ⟨hel, rfl, by omega, by omega⟩ ?_ | refine XHold.mk ⟨owE_len s (show k + 1 ≤ s.truths.length by omega), rfl, by omega, by omega⟩ ?_) | ((refine XGet.mk hel.symm (by omega) ?_); rw [hget]) | (refine XCall.ret hq ?_) | ((refine XPut.mk hel.symm (by omega) ?_); rw [show (owE s k).set (k : Int).toNat (AV.sl false (((s.truths.getD k default).2.map ownP).map spsA)) = owE s (k + 1) from owE_set s hlt])); conv => whnf) | fail
    exact XAgainG.go (k + 1) [_] (by omega) (by omega) rfl ⟨rfl, rfl, rfl, rfl, rfl, trivial⟩
  obtain rfl : k = s.truths.length := by omega
  have hfin : owE s s.truths.length = s.truths.map owT := by unfold owE; rw [List.take_length, List.drop_length]; simp
  rw [hfin]
  repeat' first | ((with_reducible apply XBr.dec) <;> (intro h; first | (exfalso; omega) | ((try simp only [List.length_map] at h); first | (exfalso; omega) | (conv => whnf)))) | fail
  exact XGive.mk' [2, 3, 4, 5] rfl (by decide) ⟨congrArg some (renOw _ _ _).symm, rfl, congrArg some (ren_grow _ _ _ _).symm, congrArg some (ren_grow _ _ _ _).symm, trivial⟩ (by simp only [AV.ren, renL, renL_low0 (lowWy _)]; rfl)
set_option maxHeartbeats 4000000 in
theorem ownL3_g (s : Sn) (r0 r1 r2 : Rw) (hb : SnB { s with looks := [r0, r1, r2] }) : Gives Try.prog 23 [snA { s with looks := [r0, r1, r2] }] (.agg [.int .i64 s.places, .int .i64 s.home, .int .i64 s.bed, .int .i64 s.last, .sl false (s.ways.map wyA), .gr 1 3, .gr 0 s.truths.length]) [.grow 58 false (s.truths.map owT), .grow 32 false [.gr 2 r0.2.length, .gr 3 r1.2.length, .gr 4 r2.2.length], .grow 3 false (ints r0.2), .grow 3 false (ints r1.2), .grow 3 false (ints r2.2)] := by
  have b1 : s.ways.length ≤ 1000 := hb.w
  have b3 : s.truths.length ≤ 1000 := hb.t
  have q1 := dup_wy s.nw s.ways (by omega)
  have l0 : r0.2.length ≤ 1000 := hb.kl r0 (by simp)
  have l1 : r1.2.length ≤ 1000 := hb.kl r1 (by simp)
  have l2 : r2.2.length ≤ 1000 := hb.kl r2 (by simp)
  have e3 : ((s.truths.map trA).length : Int) = s.truths.length := by rw [List.length_map]
  refine Gives.body (T := tab) (res := [.cell 2 27]) tab_ok [1] Try.func23 rfl (by kernel_rfl) Try.ntmps23 rfl (by simp only [List.length_cons, List.length_nil]; decide) (by simp only [lowL, snL]; rfl) (by show (true && (true && (true && (true && (lowL _ (s.ways.map wyA) && (true && (true && true))))))) = true; rw [lowWy]; rfl) (fun x hx => by simp only [List.mem_cons, List.not_mem_nil, or_false] at hx; rcases hx with rfl | rfl | rfl | rfl | rfl; exact lowL_map (fun _ => owTL _) _; rfl; exact lowI _; exact lowI _; exact lowI _) ?_; conv => whnf
  skip
  refine Walk.place ?_
  refine Walk.heapE [.cells [.int .i64 s.places, .int .i64 s.home, .int .i64 s.bed, .int .i64 s.last, .sl s.nw (s.ways.map wyA), .sl s.nk [rwA r0, rwA r1, rwA r2], .sl s.nt (s.truths.map trA)], .cells [.int .i64 0, .int .i64 0, .int .i64 0, .int .i64 0, .sl true [], .sl true [], .sl true []], .free] rfl ?_
  apply Walk.drawX tab_ok mixed_ok [1] [5, 8, 10, 12, 14] (fun fl => match fl with
    | [a, b, c, d, e] => .cells [.int .i64 s.places, .int .i64 s.home, .int .i64 s.bed, .int .i64 s.last, (bif c then .sl false (s.ways.map wyA) else .sl s.nw (s.ways.map wyA)), (bif d then .gr 3 3 else .sl s.nk [rwA r0, rwA r1, rwA r2]), (bif e then .gr 2 s.truths.length else .sl s.nt (s.truths.map trA))] :: .cells [.int .i64 0, .int .i64 0, .int .i64 0, .int .i64 0, .sl true [], .sl true [], .sl true []] :: (bif b then .grow 58 false (s.truths.map trA) else .free) :: (bif a then [.grow 32 false [.gr 4 r0.2.length, .gr 5 r1.2.length, .gr 6 r2.2.length], .grow 3 false (ints r0.2), .grow 3 false (ints r1.2), .grow 3 false (ints r2.2)] else [])
    | _ => []) [_, _, _, _, _, .gr 3 3, _, _, .gr 2 s.truths.length, _, _, _, _, _, _] (by kernel_rfl) rfl
  · skip
    repeat' first | (with_reducible apply XAnd.mk) | ((first | (with_reducible apply Chk.go) | (with_reducible apply ChkA.go)); conv => whnf) | (exact XSame.mk rfl rfl) | (with_reducible exact trivial) | ((first | (refine XCall.ret q1 ?_) | (refine XCall.rows3 l0 l1 l2 ?_) | (refine XCall.dupTrAt 2 rfl (by omega) ?_)); conv => whnf) | fail
  · skip
    repeat' first | (with_reducible apply XAnd.mk) | ((first | (with_reducible apply Chk.go) | (with_reducible apply ChkF.go) | (with_reducible apply ChkB.go)); conv => whnf) | (exact XSame.mk rfl rfl) | (with_reducible exact trivial) | fail
  conv => whnf
  repeat' first | ((with_reducible refine XHold.mk ?_ ?_); (first | omega | rfl | decide | exact ⟨rfl, by decide, rfl⟩ | exact wideI _ | exact widePr _ | exact wideSk _ | (unfold Room; constructor <;> ((try simp) <;> omega)) | exact ⟨rfl, by simp only [List.length_map], by unfold Room; constructor <;> ((try simp) <;> omega)⟩ | exact ⟨by omega, by omega, by unfold Room; constructor <;> ((try simp) <;> omega)⟩); conv => whnf) | fail
  refine Walk.loopGK tab_ok [] [(1, _), (2, _), (18, _), (19, _)] ⟨rfl, rfl, rfl, rfl, trivial⟩ (fun k : Nat => k ≤ s.truths.length) (fun k => [(20, natA k)]) (fun k => [.cells [.int .i64 s.places, .int .i64 s.home, .int .i64 s.bed, .int .i64 s.last, .sl false (s.ways.map wyA), .gr 3 3, .gr 2 s.truths.length], .cells [.int .i64 0, .int .i64 0, .int .i64 0, .int .i64 0, .sl true [], .sl true [], .sl true []], .grow 58 false (owE s k), .grow 32 false [.gr 4 r0.2.length, .gr 5 r1.2.length, .gr 6 r2.2.length], .grow 3 false (ints r0.2), .grow 3 false (ints r1.2), .grow 3 false (ints r2.2)]) (fun k => s.truths.length - k) 0 (Nat.zero_le _) rfl ⟨rfl, trivial⟩ ?_ (fun _ _ => (show (7 : Nat) ≤ 7 from Nat.le_refl 7)) ?_
  · intro k _
    refine ⟨fun z hz => ?_, fun z hz => ?_⟩
    · simp only [List.mem_cons, List.not_mem_nil, or_false] at hz
      rcases hz with rfl | rfl | rfl | rfl | rfl | rfl | rfl
      · show (true && (true && (true && (true && (lowL _ (s.ways.map wyA) && (true && (true && true))))))) = true
        rw [lowWy]; rfl
      · rfl
      · exact owE_low s k
      · rfl
      · exact lowI _
      · exact lowI _
      · exact lowI _
    · simp only [List.cons_append, List.nil_append, List.mem_cons, List.not_mem_nil, or_false] at hz
      rcases hz with rfl | rfl | rfl | rfl | rfl <;> first | rfl | exact lowTr _
  intro k hk
  have hel := owE_len s hk
  conv => whnf
  by_cases hlt : k < s.truths.length
  · have hget : (owE s k).getD (k : Int).toNat default = trA (s.truths.getD k default) := by
      rw [Int.toNat_natCast]
      unfold owE
      have hl : ((s.truths.take k).map owT).length = k := by rw [List.length_map, List.length_take]; omega
      rw [List.getD_eq_getElem?_getD, List.getElem?_append_right (by omega), hl, Nat.sub_self, drop_next hlt]; rfl
    have hq := dupRows_sps (s.truths.getD k default).1 (s.truths.getD k default).2 (hb.tl _ (getD_mem (d := default) hlt)) (hb.sl _ (getD_mem (d := default) hlt))
    repeat' first | ((with_reducible apply XBr.dec) <;> (intro h; first | (exfalso; omega) | ((try simp only [List.length_map] at h); first | (exfalso; omega) | (conv => whnf)))) | ((with_reducible refine XInt.i64 (by omega) (by omega) ?_); conv => whnf) | (with_reducible apply XAnd.mk) | ((first | (with_reducible apply Chk.go) | (with_reducible apply ChkA.go) | (with_reducible apply ChkF.go) | (with_reducible apply ChkB.go)); conv => whnf) | (exact XSame.mk rfl rfl) | (with_reducible exact trivial) | (apply Walk.drawN (id := 5) tab_ok mixed_ok [1] [8] (hsC [_, _]) [_, _, _, _, _, _, _, _, _] (by kernel_rfl) rfl) | ((first | (with_reducible apply XNext.mk) | (first | refine XHold.mk ⟨hel, rfl, by omega, by omega⟩ ?_ | refine XHold.mk ⟨owE_len s (show k + 1 ≤ s.truths.length by omega), rfl, by omega, by omega⟩ ?_) | ((refine XGet.mk hel.symm (by omega) ?_); rw [hget]) | (refine XCall.ret hq ?_) | ((refine XPut.mk hel.symm (by omega) ?_); rw [show (owE s k).set (k : Int).toNat (AV.sl false (((s.truths.getD k default).2.map ownP).map spsA)) = owE s (k + 1) from owE_set s hlt])); conv => whnf) | fail
    exact XAgainG.go (k + 1) [_] (by omega) (by omega) rfl ⟨rfl, rfl, rfl, rfl, rfl, trivial⟩
  obtain rfl : k = s.truths.length := by omega
  have hfin : owE s s.truths.length = s.truths.map owT := by unfold owE; rw [List.take_length, List.drop_length]; simp
  rw [hfin]
  repeat' first | ((with_reducible apply XBr.dec) <;> (intro h; first | (exfalso; omega) | ((try simp only [List.length_map] at h); first | (exfalso; omega) | (conv => whnf)))) | fail
  exact XGive.mk' [2, 3, 4, 5, 6] rfl (by decide) ⟨congrArg some (renOw _ _ _).symm, rfl, congrArg some (ren_grow _ _ _ _).symm, congrArg some (ren_grow _ _ _ _).symm, congrArg some (ren_grow _ _ _ _).symm, trivial⟩ (by simp only [AV.ren, renL, renL_low0 (lowWy _)]; rfl)
set_option maxHeartbeats 4000000 in
theorem ownL4_g (s : Sn) (r0 r1 r2 r3 : Rw) (hb : SnB { s with looks := [r0, r1, r2, r3] }) : Gives Try.prog 23 [snA { s with looks := [r0, r1, r2, r3] }] (.agg [.int .i64 s.places, .int .i64 s.home, .int .i64 s.bed, .int .i64 s.last, .sl false (s.ways.map wyA), .gr 1 4, .gr 0 s.truths.length]) [.grow 58 false (s.truths.map owT), .grow 32 false [.gr 2 r0.2.length, .gr 3 r1.2.length, .gr 4 r2.2.length, .gr 5 r3.2.length], .grow 3 false (ints r0.2), .grow 3 false (ints r1.2), .grow 3 false (ints r2.2), .grow 3 false (ints r3.2)] := by
  have b1 : s.ways.length ≤ 1000 := hb.w
  have b3 : s.truths.length ≤ 1000 := hb.t
  have q1 := dup_wy s.nw s.ways (by omega)
  have l0 : r0.2.length ≤ 1000 := hb.kl r0 (by simp)
  have l1 : r1.2.length ≤ 1000 := hb.kl r1 (by simp)
  have l2 : r2.2.length ≤ 1000 := hb.kl r2 (by simp)
  have l3 : r3.2.length ≤ 1000 := hb.kl r3 (by simp)
  have e3 : ((s.truths.map trA).length : Int) = s.truths.length := by rw [List.length_map]
  refine Gives.body (T := tab) (res := [.cell 2 27]) tab_ok [1] Try.func23 rfl (by kernel_rfl) Try.ntmps23 rfl (by simp only [List.length_cons, List.length_nil]; decide) (by simp only [lowL, snL]; rfl) (by show (true && (true && (true && (true && (lowL _ (s.ways.map wyA) && (true && (true && true))))))) = true; rw [lowWy]; rfl) (fun x hx => by simp only [List.mem_cons, List.not_mem_nil, or_false] at hx; rcases hx with rfl | rfl | rfl | rfl | rfl | rfl; exact lowL_map (fun _ => owTL _) _; rfl; exact lowI _; exact lowI _; exact lowI _; exact lowI _) ?_; conv => whnf
  skip
  refine Walk.place ?_
  refine Walk.heapE [.cells [.int .i64 s.places, .int .i64 s.home, .int .i64 s.bed, .int .i64 s.last, .sl s.nw (s.ways.map wyA), .sl s.nk [rwA r0, rwA r1, rwA r2, rwA r3], .sl s.nt (s.truths.map trA)], .cells [.int .i64 0, .int .i64 0, .int .i64 0, .int .i64 0, .sl true [], .sl true [], .sl true []], .free] rfl ?_
  apply Walk.drawX tab_ok mixed_ok [1] [5, 8, 10, 12, 14] (fun fl => match fl with
    | [a, b, c, d, e] => .cells [.int .i64 s.places, .int .i64 s.home, .int .i64 s.bed, .int .i64 s.last, (bif c then .sl false (s.ways.map wyA) else .sl s.nw (s.ways.map wyA)), (bif d then .gr 3 4 else .sl s.nk [rwA r0, rwA r1, rwA r2, rwA r3]), (bif e then .gr 2 s.truths.length else .sl s.nt (s.truths.map trA))] :: .cells [.int .i64 0, .int .i64 0, .int .i64 0, .int .i64 0, .sl true [], .sl true [], .sl true []] :: (bif b then .grow 58 false (s.truths.map trA) else .free) :: (bif a then [.grow 32 false [.gr 4 r0.2.length, .gr 5 r1.2.length, .gr 6 r2.2.length, .gr 7 r3.2.length], .grow 3 false (ints r0.2), .grow 3 false (ints r1.2), .grow 3 false (ints r2.2), .grow 3 false (ints r3.2)] else [])
    | _ => []) [_, _, _, _, _, .gr 3 4, _, _, .gr 2 s.truths.length, _, _, _, _, _, _] (by kernel_rfl) rfl
  · skip
    repeat' first | (with_reducible apply XAnd.mk) | ((first | (with_reducible apply Chk.go) | (with_reducible apply ChkA.go)); conv => whnf) | (exact XSame.mk rfl rfl) | (with_reducible exact trivial) | ((first | (refine XCall.ret q1 ?_) | (refine XCall.rows4 l0 l1 l2 l3 ?_) | (refine XCall.dupTrAt 2 rfl (by omega) ?_)); conv => whnf) | fail
  · skip
    repeat' first | (with_reducible apply XAnd.mk) | ((first | (with_reducible apply Chk.go) | (with_reducible apply ChkF.go) | (with_reducible apply ChkB.go)); conv => whnf) | (exact XSame.mk rfl rfl) | (with_reducible exact trivial) | fail
  conv => whnf
  repeat' first | ((with_reducible refine XHold.mk ?_ ?_); (first | omega | rfl | decide | exact ⟨rfl, by decide, rfl⟩ | exact wideI _ | exact widePr _ | exact wideSk _ | (unfold Room; constructor <;> ((try simp) <;> omega)) | exact ⟨rfl, by simp only [List.length_map], by unfold Room; constructor <;> ((try simp) <;> omega)⟩ | exact ⟨by omega, by omega, by unfold Room; constructor <;> ((try simp) <;> omega)⟩); conv => whnf) | fail
  refine Walk.loopGK tab_ok [] [(1, _), (2, _), (18, _), (19, _)] ⟨rfl, rfl, rfl, rfl, trivial⟩ (fun k : Nat => k ≤ s.truths.length) (fun k => [(20, natA k)]) (fun k => [.cells [.int .i64 s.places, .int .i64 s.home, .int .i64 s.bed, .int .i64 s.last, .sl false (s.ways.map wyA), .gr 3 4, .gr 2 s.truths.length], .cells [.int .i64 0, .int .i64 0, .int .i64 0, .int .i64 0, .sl true [], .sl true [], .sl true []], .grow 58 false (owE s k), .grow 32 false [.gr 4 r0.2.length, .gr 5 r1.2.length, .gr 6 r2.2.length, .gr 7 r3.2.length], .grow 3 false (ints r0.2), .grow 3 false (ints r1.2), .grow 3 false (ints r2.2), .grow 3 false (ints r3.2)]) (fun k => s.truths.length - k) 0 (Nat.zero_le _) rfl ⟨rfl, trivial⟩ ?_ (fun _ _ => (show (8 : Nat) ≤ 8 from Nat.le_refl 8)) ?_
  · intro k _
    refine ⟨fun z hz => ?_, fun z hz => ?_⟩
    · simp only [List.mem_cons, List.not_mem_nil, or_false] at hz
      rcases hz with rfl | rfl | rfl | rfl | rfl | rfl | rfl | rfl
      · show (true && (true && (true && (true && (lowL _ (s.ways.map wyA) && (true && (true && true))))))) = true
        rw [lowWy]; rfl
      · rfl
      · exact owE_low s k
      · rfl
      · exact lowI _
      · exact lowI _
      · exact lowI _
      · exact lowI _
    · simp only [List.cons_append, List.nil_append, List.mem_cons, List.not_mem_nil, or_false] at hz
      rcases hz with rfl | rfl | rfl | rfl | rfl <;> first | rfl | exact lowTr _
  intro k hk
  have hel := owE_len s hk
  conv => whnf
  by_cases hlt : k < s.truths.length
  · have hget : (owE s k).getD (k : Int).toNat default = trA (s.truths.getD k default) := by
      rw [Int.toNat_natCast]
      unfold owE
      have hl : ((s.truths.take k).map owT).length = k := by rw [List.length_map, List.length_take]; omega
      rw [List.getD_eq_getElem?_getD, List.getElem?_append_right (by omega), hl, Nat.sub_self, drop_next hlt]; rfl
    have hq := dupRows_sps (s.truths.getD k default).1 (s.truths.getD k default).2 (hb.tl _ (getD_mem (d := default) hlt)) (hb.sl _ (getD_mem (d := default) hlt))
    repeat' first | ((with_reducible apply XBr.dec) <;> (intro h; first | (exfalso; omega) | ((try simp only [List.length_map] at h); first | (exfalso; omega) | (conv => whnf)))) | ((with_reducible refine XInt.i64 (by omega) (by omega) ?_); conv => whnf) | (with_reducible apply XAnd.mk) | ((first | (with_reducible apply Chk.go) | (with_reducible apply ChkA.go) | (with_reducible apply ChkF.go) | (with_reducible apply ChkB.go)); conv => whnf) | (exact XSame.mk rfl rfl) | (with_reducible exact trivial) | (apply Walk.drawN (id := 5) tab_ok mixed_ok [1] [8] (hsC [_, _]) [_, _, _, _, _, _, _, _, _] (by kernel_rfl) rfl) | ((first | (with_reducible apply XNext.mk) | (first | refine XHold.mk ⟨hel, rfl, by omega, by omega⟩ ?_ | refine XHold.mk ⟨owE_len s (show k + 1 ≤ s.truths.length by omega), rfl, by omega, by omega⟩ ?_) | ((refine XGet.mk hel.symm (by omega) ?_); rw [hget]) | (refine XCall.ret hq ?_) | ((refine XPut.mk hel.symm (by omega) ?_); rw [show (owE s k).set (k : Int).toNat (AV.sl false (((s.truths.getD k default).2.map ownP).map spsA)) = owE s (k + 1) from owE_set s hlt])); conv => whnf) | fail
    exact XAgainG.go (k + 1) [_] (by omega) (by omega) rfl ⟨rfl, rfl, rfl, rfl, rfl, trivial⟩
  obtain rfl : k = s.truths.length := by omega
  have hfin : owE s s.truths.length = s.truths.map owT := by unfold owE; rw [List.take_length, List.drop_length]; simp
  rw [hfin]
  repeat' first | ((with_reducible apply XBr.dec) <;> (intro h; first | (exfalso; omega) | ((try simp only [List.length_map] at h); first | (exfalso; omega) | (conv => whnf)))) | fail
  exact XGive.mk' [2, 3, 4, 5, 6, 7] rfl (by decide) ⟨congrArg some (renOw _ _ _).symm, rfl, congrArg some (ren_grow _ _ _ _).symm, congrArg some (ren_grow _ _ _ _).symm, congrArg some (ren_grow _ _ _ _).symm, congrArg some (ren_grow _ _ _ _).symm, trivial⟩ (by simp only [AV.ren, renL, renL_low0 (lowWy _)]; rfl)
end GA
end

section
namespace GA
open Go Go.RowKit Go.Proofs
set_option pp.deepTerms true
set_option maxRecDepth 8000
set_option linter.unusedVariables false
set_option linter.unusedSimpArgs false

theorem ownB {s : Sn} (hb : SnB s) : SnB (ownS s) := by
  refine ⟨hb.w, ?_, ?_, fun r hr => ?_, fun t ht => ?_, fun t ht r hr => ?_⟩
  · show (s.looks.map ownR).length ≤ 1000; rw [List.length_map]; exact hb.k
  · show (s.truths.map ownT).length ≤ 1000; rw [List.length_map]; exact hb.t
  · obtain ⟨r', h1, rfl⟩ := List.mem_map.1 (show r ∈ s.looks.map ownR from hr); exact hb.kl r' h1
  · obtain ⟨t', h1, rfl⟩ := List.mem_map.1 (show t ∈ s.truths.map ownT from ht)
    show (t'.2.map fun r => (false, r.2)).length ≤ 1000
    rw [List.length_map]; exact hb.tl t' h1
  · obtain ⟨t', h1, rfl⟩ := List.mem_map.1 (show t ∈ s.truths.map ownT from ht)
    obtain ⟨r', h2, rfl⟩ := List.mem_map.1 (show r ∈ t'.2.map fun r => (false, r.2) from hr)
    exact hb.sl t' h1 r' h2
theorem ownOk {s : Sn} (ok : SnOk s) : SnOk (ownS s) := snE_iff.1 (by rw [← (own_eq s).err]; exact snE_iff.2 ok)
theorem SnEq.startA {s u : Sn} (e : SnEq s u) (m : Nat) : startZ s m = startZ u m := by
  unfold startZ
  rw [e.home, e.allN, e.parts, show (fun n l => min n (worthZ s ⟨u.home.toNat, m, l⟩)) = (fun n l => min n (worthZ u ⟨u.home.toNat, m, l⟩)) from funext fun n => funext fun l => by rw [e.worth]]
theorem SnEq.tolA {s u : Sn} (e : SnEq s u) (p : Nat) : SnEq (tolS s p) (tolS u p) := by
  refine ⟨e.places, e.home, e.bed, e.last, e.ways, ?_, e.truths⟩
  show (vecF s.looks.length fun i => tolR p i (s.looks.getD i default)).map (·.2) = (vecF u.looks.length fun i => tolR p i (u.looks.getD i default)).map (·.2)
  rw [vecF_map, vecF_map, e.lenK]
  refine vecF_congr fun i _ => ?_
  show (s.looks.getD i default).2.set p (i : Int) = (u.looks.getD i default).2.set p (i : Int)
  have := congrArg (fun l => l.getD i (default : Rw).2) e.looks
  rw [getD_map' (fun r : Rw => r.2), getD_map' (fun r : Rw => r.2)] at this
  rw [this]
theorem own_told (s : Sn) (p m : Nat) : startZ (tolS (ownS s) p) m = startZ (tolS s p) m := (((own_eq s).tolA p).startA m).symm
theorem spy_spec (s : Sn) (m : Nat) : ∀ k : Nat, ((∀ q : Nat, q < k → (q : Int) = s.home) ∧ (spyK s m k).1 = -1) ∨ ∃ j : Nat, j < k ∧ (j : Int) ≠ s.home ∧ spyK s m k = ((j : Int), startZ (tolS s j) m) ∧ (∀ q : Nat, q < k → (q : Int) ≠ s.home → startZ (tolS s q) m ≤ startZ (tolS s j) m) ∧ ∀ q : Nat, q < j → (q : Int) ≠ s.home → startZ (tolS s q) m < startZ (tolS s j) m
  | 0 => .inl ⟨fun q hq => by omega, rfl⟩
  | k + 1 => by
    have ih := spy_spec s m k
    by_cases hk : (k : Int) = s.home
    · have e : spyK s m (k + 1) = spyK s m k := by rw [spyK, if_pos hk]
      rw [e]
      rcases ih with ⟨h1, h2⟩ | ⟨j, h1, h2, h3, h4, h5⟩
      · refine .inl ⟨fun q hq => ?_, h2⟩
        by_cases h : q = k
        · rw [h]; exact hk
        · exact h1 q (by omega)
      · refine .inr ⟨j, by omega, h2, h3, fun q hq hn => ?_, h5⟩
        by_cases h : q = k
        · rw [h] at hn; exact absurd hk hn
        · exact h4 q (by omega) hn
    · rcases ih with ⟨h1, h2⟩ | ⟨j, h1, h2, h3, h4, h5⟩
      · have e : spyK s m (k + 1) = ((k : Int), startZ (tolS s k) m) := by rw [spyK, if_neg hk, if_pos (.inl h2)]
        rw [e]
        refine .inr ⟨k, by omega, hk, rfl, fun q hq hn => ?_, fun q hq hn => absurd (h1 q hq) hn⟩
        by_cases h : q = k
        · rw [h]; exact Int.le_refl _
        · exact absurd (h1 q (by omega)) hn
      · by_cases hlt : startZ (tolS s j) m < startZ (tolS s k) m
        · have e : spyK s m (k + 1) = ((k : Int), startZ (tolS s k) m) := by rw [spyK, if_neg hk, if_pos (.inr (by rw [h3]; exact hlt))]
          rw [e]
          refine .inr ⟨k, by omega, hk, rfl, fun q hq hn => ?_, fun q hq hn => Int.lt_of_le_of_lt (h4 q hq hn) hlt⟩
          by_cases h : q = k
          · rw [h]; exact Int.le_refl _
          · exact Int.le_of_lt (Int.lt_of_le_of_lt (h4 q (by omega) hn) hlt)
        · have e : spyK s m (k + 1) = ((j : Int), startZ (tolS s j) m) := by
            rw [spyK, if_neg hk, if_neg (fun h => by rcases h with h | h <;> rw [h3] at h <;> dsimp only at h <;> omega), h3]
          rw [e]
          refine .inr ⟨j, by omega, h2, rfl, fun q hq hn => ?_, h5⟩
          by_cases h : q = k
          · rw [h]; omega
          · exact h4 q (by omega) hn
theorem spy_is {s : Sn} (ok : SnOk s) (hp : 2 ≤ s.places) (m : Nat) : ∃ j : Nat, (j : Int) < s.places ∧ (j : Int) ≠ s.home ∧ (spyE s m).1 = j ∧ (spyE s m).2 = startZ (tolS s j) m ∧ (∀ q : Nat, (q : Int) < s.places → (q : Int) ≠ s.home → startZ (tolS s q) m ≤ startZ (tolS s j) m) ∧ ∀ q : Nat, q < j → (q : Int) ≠ s.home → startZ (tolS s q) m < startZ (tolS s j) m := by
  unfold spyE
  rcases spy_spec s m s.places.toNat with ⟨h1, h2⟩ | ⟨j, h1, h2, h3, h4, h5⟩
  · have a := h1 0 (by omega)
    have b := h1 1 (by omega)
    omega
  · exact ⟨j, by omega, h2, by rw [h3], by rw [h3], fun q hq hn => h4 q (by omega) hn, h5⟩
theorem owFroz {s : Sn} {H : List Blk} {i : Nat} (hb : lget H i = some (.grow 58 false (s.truths.map owT))) : Froz Try.prog H (.gr i s.truths.length) (.sl false ((s.truths.map ownT).map trA)) := by
  have hfl : flat ((s.truths.map ownT).map trA) = flat (s.truths.map owT) := by
    unfold flat
    rw [List.map_map, List.flatMap_map, List.flatMap_map]; rfl
  refine Froz.gr (els := s.truths.map owT) (nl := false) (els' := (s.truths.map ownT).map trA) hb (List.length_map _) (by simp only [List.length_map]) (fun e he => ?_) (fun e he => ?_) (by rw [hfl]; exact .low (by
    have : flat (s.truths.map owT) = s.truths.map owT := flat_one fun e he => by obtain ⟨t, -, rfl⟩ := List.mem_map.1 he; rfl
    rw [this]; exact lowL_map (fun _ => owTL _) _))
  · obtain ⟨t, -, rfl⟩ := List.mem_map.1 he
    show 1 = sz Try.prog 58
    kernel_rfl
  · rw [hfl] at he
    have : flat (s.truths.map owT) = s.truths.map owT := flat_one fun e he => by obtain ⟨t, -, rfl⟩ := List.mem_map.1 he; rfl
    rw [this] at he
    obtain ⟨t, -, rfl⟩ := List.mem_map.1 he; rfl
theorem XCall.ownL1 {s : Sn} {r0 : Rw} {H : List Blk} {k : AV → List Blk → Prop} (hb : SnB s) (hl : s.looks = [r0]) (hk : k (.agg [.int .i64 s.places, .int .i64 s.home, .int .i64 s.bed, .int .i64 s.last, .sl false (s.ways.map wyA), .gr (H.length + 1) 1, .gr H.length s.truths.length]) (H ++ [.grow 58 false (s.truths.map owT), .grow 32 false [.gr (H.length + 2) r0.2.length], .grow 3 false (ints r0.2)])) : XCall Try.prog 23 [snA s] H k := by
  have e : s = { s with looks := [r0] } := by cases s; cases hl; kernel_rfl
  have hb2 : SnB { s with looks := [r0] } := e ▸ hb
  have h := XCall.give (k := k) (H := H) (ownL1_g s r0 hb2) (by
    simp only [List.map_cons, List.map_nil, ren_grow, renOw, AV.ren, renL, renL_low0 (lowWy _)]; exact hk)
  exact e ▸ h
theorem tolU1 {s : Sn} {r0 : Rw} (p : Nat) (hl : s.looks = [r0]) : snA (tolS (ownS s) p) = .agg [.int .i64 s.places, .int .i64 s.home, .int .i64 s.bed, .int .i64 s.last, .sl false (s.ways.map wyA), .sl false [.sl false (ints (r0.2.set p 0))], .sl false ((s.truths.map ownT).map trA)] := by cases s; cases hl; kernel_rfl
theorem XCall.ownL2 {s : Sn} {r0 r1 : Rw} {H : List Blk} {k : AV → List Blk → Prop} (hb : SnB s) (hl : s.looks = [r0, r1]) (hk : k (.agg [.int .i64 s.places, .int .i64 s.home, .int .i64 s.bed, .int .i64 s.last, .sl false (s.ways.map wyA), .gr (H.length + 1) 2, .gr H.length s.truths.length]) (H ++ [.grow 58 false (s.truths.map owT), .grow 32 false [.gr (H.length + 2) r0.2.length, .gr (H.length + 3) r1.2.length], .grow 3 false (ints r0.2), .grow 3 false (ints r1.2)])) : XCall Try.prog 23 [snA s] H k := by
  have e : s = { s with looks := [r0, r1] } := by cases s; cases hl; kernel_rfl
  have hb2 : SnB { s with looks := [r0, r1] } := e ▸ hb
  have h := XCall.give (k := k) (H := H) (ownL2_g s r0 r1 hb2) (by
    simp only [List.map_cons, List.map_nil, ren_grow, renOw, AV.ren, renL, renL_low0 (lowWy _)]; exact hk)
  exact e ▸ h
theorem tolU2 {s : Sn} {r0 r1 : Rw} (p : Nat) (hl : s.looks = [r0, r1]) : snA (tolS (ownS s) p) = .agg [.int .i64 s.places, .int .i64 s.home, .int .i64 s.bed, .int .i64 s.last, .sl false (s.ways.map wyA), .sl false [.sl false (ints (r0.2.set p 0)), .sl false (ints (r1.2.set p 1))], .sl false ((s.truths.map ownT).map trA)] := by cases s; cases hl; kernel_rfl
theorem XCall.ownL3 {s : Sn} {r0 r1 r2 : Rw} {H : List Blk} {k : AV → List Blk → Prop} (hb : SnB s) (hl : s.looks = [r0, r1, r2]) (hk : k (.agg [.int .i64 s.places, .int .i64 s.home, .int .i64 s.bed, .int .i64 s.last, .sl false (s.ways.map wyA), .gr (H.length + 1) 3, .gr H.length s.truths.length]) (H ++ [.grow 58 false (s.truths.map owT), .grow 32 false [.gr (H.length + 2) r0.2.length, .gr (H.length + 3) r1.2.length, .gr (H.length + 4) r2.2.length], .grow 3 false (ints r0.2), .grow 3 false (ints r1.2), .grow 3 false (ints r2.2)])) : XCall Try.prog 23 [snA s] H k := by
  have e : s = { s with looks := [r0, r1, r2] } := by cases s; cases hl; kernel_rfl
  have hb2 : SnB { s with looks := [r0, r1, r2] } := e ▸ hb
  have h := XCall.give (k := k) (H := H) (ownL3_g s r0 r1 r2 hb2) (by
    simp only [List.map_cons, List.map_nil, ren_grow, renOw, AV.ren, renL, renL_low0 (lowWy _)]; exact hk)
  exact e ▸ h
theorem tolU3 {s : Sn} {r0 r1 r2 : Rw} (p : Nat) (hl : s.looks = [r0, r1, r2]) : snA (tolS (ownS s) p) = .agg [.int .i64 s.places, .int .i64 s.home, .int .i64 s.bed, .int .i64 s.last, .sl false (s.ways.map wyA), .sl false [.sl false (ints (r0.2.set p 0)), .sl false (ints (r1.2.set p 1)), .sl false (ints (r2.2.set p 2))], .sl false ((s.truths.map ownT).map trA)] := by cases s; cases hl; kernel_rfl
theorem XCall.ownL4 {s : Sn} {r0 r1 r2 r3 : Rw} {H : List Blk} {k : AV → List Blk → Prop} (hb : SnB s) (hl : s.looks = [r0, r1, r2, r3]) (hk : k (.agg [.int .i64 s.places, .int .i64 s.home, .int .i64 s.bed, .int .i64 s.last, .sl false (s.ways.map wyA), .gr (H.length + 1) 4, .gr H.length s.truths.length]) (H ++ [.grow 58 false (s.truths.map owT), .grow 32 false [.gr (H.length + 2) r0.2.length, .gr (H.length + 3) r1.2.length, .gr (H.length + 4) r2.2.length, .gr (H.length + 5) r3.2.length], .grow 3 false (ints r0.2), .grow 3 false (ints r1.2), .grow 3 false (ints r2.2), .grow 3 false (ints r3.2)])) : XCall Try.prog 23 [snA s] H k := by
  have e : s = { s with looks := [r0, r1, r2, r3] } := by cases s; cases hl; kernel_rfl
  have hb2 : SnB { s with looks := [r0, r1, r2, r3] } := e ▸ hb
  have h := XCall.give (k := k) (H := H) (ownL4_g s r0 r1 r2 r3 hb2) (by
    simp only [List.map_cons, List.map_nil, ren_grow, renOw, AV.ren, renL, renL_low0 (lowWy _)]; exact hk)
  exact e ▸ h
theorem tolU4 {s : Sn} {r0 r1 r2 r3 : Rw} (p : Nat) (hl : s.looks = [r0, r1, r2, r3]) : snA (tolS (ownS s) p) = .agg [.int .i64 s.places, .int .i64 s.home, .int .i64 s.bed, .int .i64 s.last, .sl false (s.ways.map wyA), .sl false [.sl false (ints (r0.2.set p 0)), .sl false (ints (r1.2.set p 1)), .sl false (ints (r2.2.set p 2)), .sl false (ints (r3.2.set p 3))], .sl false ((s.truths.map ownT).map trA)] := by cases s; cases hl; kernel_rfl
end GA
end

section
namespace GA
open Go Go.RowKit Go.Proofs
set_option pp.deepTerms true
set_option maxRecDepth 8000
set_option linter.unusedVariables false
set_option linter.unusedSimpArgs false

theorem hpB_ok {nl : Bool} {bs : List Int} (h : bs.length < 9223372036854775808) : (hp0 nl bs).Ok := ⟨h, .inr rfl⟩
end GA
end

section
namespace GA
open Go Go.RowKit Go.Proofs
set_option pp.deepTerms true
set_option maxRecDepth 8000
set_option linter.unusedVariables false
set_option linter.unusedSimpArgs false

structure DrG where
  i : Nat
  T : List (Int × Int)
  p : Nat
  m : Nat
  w : Nat
  a : Nat
  q : Hp
structure DrOk (s : Sn) (N : Int) (g : DrG) : Prop where
  i : (g.i : Int) ≤ N
  q : g.q.Ok
  f : fixS s s.home.toNat 0 (drN s s.home.toNat 0) 0 g.T = some (g.p, g.m, g.a, g.w)
  p : (g.p : Int) < s.places
  m : (g.m : Int) ≤ s.last
  l : g.T.length ≤ g.i
  t : ∀ t ∈ g.T, 1 ≤ t.2 ∧ t.2 ≤ 20
  w : g.w ≤ g.i
  a : g.a < 16
end GA
end

section
namespace GA
open Go Go.RowKit Go.Proofs
set_option pp.deepTerms true
set_option maxRecDepth 8000
set_option linter.unusedVariables false
set_option linter.unusedSimpArgs false

theorem froz_lit {P : Program} {H : List Blk} {i n : Nat} {t : TypeId} {nl : Bool} {els els' : List AV} (hb : lget H i = some (.grow t nl els)) (hn : els.length = n) (hl : els'.length = els.length) (hsz : sz P t = 1) (h1 : ∀ x ∈ els, x.one = true) (h2 : ∀ x ∈ els', x.one = true) (hf : FrozL P H els els') : Froz P H (.gr i n) (.sl nl els') := by
  refine Froz.gr hb hn hl (fun e he => by rw [cells_one (h2 e he)]; exact hsz.symm) (by rw [flat_one h2]; exact h2) ?_
  rw [flat_one h1, flat_one h2]; exact hf
theorem setI (l : List Int) (p k : Nat) (z : Int) (h : z = k) : (ints l).set p (natA k) = ints (l.set p z) := by subst h; exact (List.map_set (f := AV.int .i64)).symm
theorem snOneL {a b c d : Int} {x y z : Bool} {l m o : List AV} : ∀ v ∈ [AV.int .i64 a, .int .i64 b, .int .i64 c, .int .i64 d, .sl x l, .sl y m, .sl z o], v.one = true := by
  intro v hv
  simp only [List.mem_cons, List.not_mem_nil, or_false] at hv
  rcases hv with rfl | rfl | rfl | rfl | rfl | rfl | rfl <;> rfl
set_option maxHeartbeats 8000000 in
theorem fordTold_c (n1 : Bool) (xs : List Int) (w : Int) (hx : xs.length < 9223372036854775808) (hw : 0 ≤ w ∧ w ≤ 255) :
    Comp Try.prog 7 [.sl n1 (bytes xs), .int .u8 w] (.bool true) := by
  have hmk := fordMade_c (hp0 n1 xs) 20 (hpB_ok hx) (by omega) (by omega)
  refine Comp.body (T := tab) (res := [.tmp 4]) tab_ok [] Try.func7 rfl (by kernel_rfl) Try.ntmps7 rfl (by simp only [List.length_cons, List.length_nil]; decide) (by simp only [lowL, AV.low, lowBy]; rfl) ?_; conv => whnf
  repeat' first | (refine XCall.inl (T := tab) (res := [.tmp 2]) tab_ok [5] Try.func13 rfl (by kernel_rfl) Try.ntmps13 rfl (by simp only [List.length_append, List.length_cons, List.length_nil]; decide) ?_; conv => whnf) | fail
  refine XCall.hpE (j := 0) hmk rfl ?_
  rintro _ u1 ⟨s, rfl, mk, ou1⟩
  have ok := mk.ok
  have hb := mk.b
  have h1 := ok.h1; have b1 := ok.b1; have p2 := ok.p2; have l1 := ok.l1; have l2 := ok.l2; have t1 := ok.t1; have t2 := ok.t2; have k1 := ok.k1
  have hh := mk.h; have hp2 := mk.p
  obtain ⟨m, hm, hmL⟩ : ∃ m : Nat, w.tmod (s.last + 1) = (m : Int) ∧ (m : Int) ≤ s.last := ⟨(w.tmod (s.last + 1)).toNat, by
    have := Int.tmod_nonneg (s.last + 1) hw.1
    omega, by
    have := Int.tmod_nonneg (s.last + 1) hw.1
    have := Int.tmod_lt_of_pos w (show 0 < s.last + 1 by omega)
    omega⟩
  have hS := fStart_ok s hb ok m hmL
  have hT := fTold_ok s hb ok m hmL
  have hY := fSpy_ok s hb ok m hmL
  obtain ⟨j, hj1, hj2, hj3, hj4, hj5, hj6⟩ := spy_is ok hp2 m
  have hge : ∀ q : Nat, (q : Int) < s.places → startZ s m ≤ startZ (tolS s q) m := fun q hq => told_ge ok hq hmL
  have hle : ∀ q : Nat, (q : Int) < s.places → startZ (tolS s q) m ≤ startZ (tolS s s.home.toNat) m := fun q hq => told_home ok hq hmL
  have hst0 : ∀ p : Nat, (p : Int) < s.places → Comp Try.prog 42 [snA (tolS (ownS s) p), natA m] (.tup [.int .i64 (startZ (tolS s p) m), .int .i64 0]) := fun p hp => by
    rw [← own_told]
    exact fStart_ok (tolS (ownS s) p) (tol_B (ownB hb) p) (tol_ok (ownOk ok) hp) m hmL
  rw [hj3, hj4] at hY
  have c1 := hge s.home.toNat (by omega)
  have c2 := hge j hj1
  have c3 := hle j hj1
  have hho : ∀ p : Nat, (p : Int) = s.home → startZ (tolS s p) m = startZ (tolS s s.home.toNat) m := fun p hp => by rw [← hp, Int.toNat_natCast]
  have hjj : ∀ p : Nat, (p : Int) = (j : Int) → startZ (tolS s p) m = startZ (tolS s j) m := fun p hp => by rw [show p = j by omega]
  unfold natA at hS hT hY hst0
  rw [← hm] at hS hT hY
  have hst1 : ∀ p : Nat, (p : Int) < s.places → Comp Try.prog 42 [snA (tolS (ownS s) p), .int .i64 (w.tmod (s.last + 1))] (.tup [.int .i64 (startZ (tolS s p) m), .int .i64 0]) := fun p hp => by rw [hm]; exact hst0 p hp
  generalize startZ (tolS s s.home.toNat) m = B at hT c1 c3 hho hle
  generalize startZ (tolS s j) m = C at hY c2 c3 hjj hj5 hj6
  generalize startZ s m = A at hS c1 c2 hge
  clear hst0 hj3 hj4
  generalize hwm : w.tmod (s.last + 1) = mz at hS hT hY hst1 hm
  conv => whnf
  repeat' first | ((with_reducible refine XInt.i64 (by omega) (by omega) ?_); conv => whnf) | ((with_reducible refine XHold.mk ?_ ?_); (first | omega | rfl | decide | exact ⟨rfl, by decide, rfl⟩ | exact wideI _ | exact widePr _ | exact wideSk _ | (unfold Room; constructor <;> ((try simp) <;> omega)) | exact ⟨rfl, by simp only [List.length_map], by unfold Room; constructor <;> ((try simp) <;> omega)⟩ | exact ⟨by omega, by omega, by unfold Room; constructor <;> ((try simp) <;> omega)⟩); conv => whnf) | ((first | (refine XCall.ret hS ?_) | (refine XCall.ret hT ?_) | (refine XCall.ret hY ?_)); conv => whnf) | (rw [hwm]; conv => whnf) | fail
  refine Walk.norm tab_ok [] [(5, _), (6, _), (7, _), (8, _), (9, _), (10, _), (11, _), (12, _), (13, _)] ⟨rfl, rfl, rfl, rfl, rfl, rfl, rfl, rfl, rfl, trivial⟩ ?_
  conv => whnf
  repeat' first | ((with_reducible apply XBr.ff); conv => whnf) | ((with_reducible apply XBr.dec) <;> (intro h; first | (exfalso; omega) | ((try simp only [List.length_map] at h); first | (exfalso; omega) | (conv => whnf)))) | ((with_reducible apply XBr.beq) <;> (intro h; first | (exfalso; omega) | (conv => whnf))) | ((with_reducible apply XBr.bne) <;> (intro h; first | (exfalso; omega) | (conv => whnf))) | fail
  obtain ⟨P0, hP0⟩ : ∃ P0 : Nat, s.places = P0 := ⟨s.places.toNat, by omega⟩
  refine Walk.loopGK tab_ok [] [(5, _), (6, _), (7, _), (9, _), (11, _), (12, _), (89, _)] ⟨rfl, rfl, rfl, rfl, rfl, rfl, rfl, trivial⟩ (fun p : Nat => p ≤ P0) (fun p => [(90, natA p)]) (fun _ => [hpC u1, .cells (snC s)]) (fun p => P0 - p) 0 (Nat.zero_le _) rfl ⟨rfl, trivial⟩ ?_ (fun _ _ => (show (2 : Nat) ≤ 2 from Nat.le_refl 2)) ?_
  · intro p _
    refine ⟨fun z hz => ?_, fun z hz => ?_⟩
    · simp only [List.mem_cons, List.not_mem_nil, or_false] at hz
      rcases hz with rfl | rfl <;> first | exact hpC_low _ | exact snCL s
    · simp only [List.cons_append, List.nil_append, List.mem_cons, List.not_mem_nil, or_false] at hz
      rcases hz with rfl | rfl | rfl | rfl | rfl | rfl | rfl | rfl <;> rfl
  intro p hp
  conv => whnf
  by_cases hlt : p < P0
  · have hst := hst1 p (by omega)
    have f1 := hho p
    have f2 := hjj p
    have f3 := hj5 p (by omega)
    have f4 := hj6 p
    have f5 := hge p (by omega)
    generalize startZ (tolS s p) m = Z at hst f1 f2 f3 f4 f5
    have hL : s.looks.length = 1 ∨ s.looks.length = 2 ∨ s.looks.length = 3 ∨ s.looks.length = 4 := by omega
    have lit1 : ∀ {l : List Rw}, l.length = 1 → ∃ r0, l = [r0] := fun {l} h => by
      match l, h with
      | [a], _ => exact ⟨a, rfl⟩
    have lit2 : ∀ {l : List Rw}, l.length = 2 → ∃ r0 r1, l = [r0, r1] := fun {l} h => by
      match l, h with
      | [a, b], _ => exact ⟨a, b, rfl⟩
    have lit3 : ∀ {l : List Rw}, l.length = 3 → ∃ r0 r1 r2, l = [r0, r1, r2] := fun {l} h => by
      match l, h with
      | [a, b, c], _ => exact ⟨a, b, c, rfl⟩
    have lit4 : ∀ {l : List Rw}, l.length = 4 → ∃ r0 r1 r2 r3, l = [r0, r1, r2, r3] := fun {l} h => by
      match l, h with
      | [a, b, c, d], _ => exact ⟨a, b, c, d, rfl⟩
    rcases hL with hL | hL | hL | hL
    · skip
      obtain ⟨r0, hL⟩ := lit1 hL
      have g0 : (r0.2.length : Int) = s.places := ok.kl r0 (by rw [hL]; simp)
      have i0 : (ints r0.2).length = r0.2.length := ints_len _
      rw [tolU1 p hL] at hst
      repeat' first | ((with_reducible apply XBr.dec) <;> (intro h; first | (exfalso; omega) | ((try simp only [List.length_map] at h); first | (exfalso; omega) | (conv => whnf)))) | ((with_reducible refine XHold.mk ?_ ?_); (first | omega | rfl | decide | exact ⟨rfl, by decide, rfl⟩ | exact wideI _ | exact widePr _ | exact wideSk _ | (unfold Room; constructor <;> ((try simp) <;> omega)) | exact ⟨rfl, by simp only [List.length_map], by unfold Room; constructor <;> ((try simp) <;> omega)⟩ | exact ⟨by omega, by omega, by unfold Room; constructor <;> ((try simp) <;> omega)⟩); conv => whnf) | ((refine XCall.ownL1 hb hL ?_); conv => whnf) | fail
      refine Walk.loopK tab_ok [] [(5, _), (6, _), (7, _), (9, _), (11, _), (12, _), (14, _), (15, _), (89, _), (90, _), (97, _)] ⟨rfl, rfl, rfl, rfl, rfl, rfl, rfl, rfl, rfl, rfl, rfl, trivial⟩ (fun i : Nat => i ≤ 1) (fun i => [(98, natA i)]) (fun i => match i with | 0 => [hpC u1, .cells (snC s), .grow 58 false (s.truths.map owT), .grow 32 false [.gr 4 r0.2.length], .grow 3 false (ints r0.2), .cells [.int .i64 s.places, .int .i64 s.home, .int .i64 s.bed, .int .i64 s.last, .sl false (s.ways.map wyA), .gr 3 1, .gr 2 s.truths.length]] | _ => [hpC u1, .cells (snC s), .grow 58 false (s.truths.map owT), .grow 32 false [.gr 4 r0.2.length], .grow 3 false (ints (r0.2.set p 0)), .cells [.int .i64 s.places, .int .i64 s.home, .int .i64 s.bed, .int .i64 s.last, .sl false (s.ways.map wyA), .gr 3 1, .gr 2 s.truths.length]]) (fun i => 1 - i) 0 (Nat.zero_le _) rfl ⟨rfl, trivial⟩ ?_
      intro i hi
      have hc : i = 0 ∨ i = 1 := by omega
      rcases hc with rfl | rfl
      · conv => whnf
        repeat' first | ((with_reducible apply XBr.dec) <;> (intro h; first | (exfalso; omega) | ((try simp only [List.length_map] at h); first | (exfalso; omega) | (conv => whnf)))) | ((first | (with_reducible refine XInt.i64 (by omega) (by omega) ?_) | (refine XHold.mk ⟨rfl, rfl, by omega, by omega⟩ ?_) | (refine XHold.mk ⟨i0, rfl, by omega, by omega⟩ ?_) | (refine XGet.to _ rfl (by decide) rfl ?_) | (refine XPut.to (ints (r0.2.set p 0)) i0.symm (by omega) (setI _ p 0 _ rfl) ?_)); conv => whnf) | fail
        exact XAgain.go 1 (by omega) (by omega) rfl ⟨rfl, rfl, rfl, rfl, rfl, rfl, rfl, rfl, rfl, rfl, rfl, rfl, trivial⟩
      · conv => whnf
        repeat' first | ((with_reducible apply XBr.dec) <;> (intro h; first | (exfalso; omega) | ((try simp only [List.length_map] at h); first | (exfalso; omega) | (conv => whnf)))) | ((refine XCall.lend hst (.cons (Froz.agg (rs := [.int .i64 s.places, .int .i64 s.home, .int .i64 s.bed, .int .i64 s.last, .sl false (s.ways.map wyA), .gr 3 1, .gr 2 s.truths.length]) snOneL (.cons (.low rfl) (.cons (.low rfl) (.cons (.low rfl) (.cons (.low rfl) (.cons (.low (lowWy _)) (.cons (froz_lit rfl rfl rfl (by kernel_rfl) (fun x hx => by simp only [List.mem_cons, List.not_mem_nil, or_false] at hx; rcases hx with rfl <;> rfl) (fun x hx => by simp only [List.mem_cons, List.not_mem_nil, or_false] at hx; rcases hx with rfl <;> rfl) (.cons (Froz.grow rfl (by rw [ints_len, List.length_set]) (lowI _)) .nil)) (.cons (owFroz rfl) .nil)))))))) (.cons (.low rfl) .nil)) rfl ?_); conv => whnf) | fail
        refine Walk.norm tab_ok [] [(5, _), (6, _), (7, _), (9, _), (11, _), (12, _), (14, _), (15, _), (17, _), (18, _), (89, _), (90, _)] ⟨rfl, rfl, rfl, rfl, rfl, rfl, rfl, rfl, rfl, rfl, rfl, rfl, trivial⟩ ?_
        conv => whnf
        repeat' first | ((first | (with_reducible apply XBr.tt) | (with_reducible apply XBr.ff)); conv => whnf) | ((with_reducible apply XBr.dec) <;> (intro h; first | (exfalso; omega) | ((try simp only [List.length_map] at h); first | (exfalso; omega) | (conv => whnf)))) | ((with_reducible apply XBr.beq) <;> (intro h; first | (exfalso; omega) | (conv => whnf))) | ((with_reducible apply XBr.bne) <;> (intro h; first | (exfalso; omega) | (conv => whnf))) | ((with_reducible refine XInt.i64 (by omega) (by omega) ?_); conv => whnf) | fail
        all_goals exact XAgainG.go (p + 1) [.grow 58 false (s.truths.map owT), .grow 32 false [.gr 4 r0.2.length], .grow 3 false (ints (r0.2.set p 0)), .cells [.int .i64 s.places, .int .i64 s.home, .int .i64 s.bed, .int .i64 s.last, .sl false (s.ways.map wyA), .gr 3 1, .gr 2 s.truths.length]] (by omega) (by omega) rfl ⟨rfl, rfl, rfl, rfl, rfl, rfl, rfl, rfl, trivial⟩
    · skip
      obtain ⟨r0, r1, hL⟩ := lit2 hL
      have g0 : (r0.2.length : Int) = s.places := ok.kl r0 (by rw [hL]; simp)
      have i0 : (ints r0.2).length = r0.2.length := ints_len _
      have g1 : (r1.2.length : Int) = s.places := ok.kl r1 (by rw [hL]; simp)
      have i1 : (ints r1.2).length = r1.2.length := ints_len _
      rw [tolU2 p hL] at hst
      repeat' first | ((with_reducible apply XBr.dec) <;> (intro h; first | (exfalso; omega) | ((try simp only [List.length_map] at h); first | (exfalso; omega) | (conv => whnf)))) | ((with_reducible refine XHold.mk ?_ ?_); (first | omega | rfl | decide | exact ⟨rfl, by decide, rfl⟩ | exact wideI _ | exact widePr _ | exact wideSk _ | (unfold Room; constructor <;> ((try simp) <;> omega)) | exact ⟨rfl, by simp only [List.length_map], by unfold Room; constructor <;> ((try simp) <;> omega)⟩ | exact ⟨by omega, by omega, by unfold Room; constructor <;> ((try simp) <;> omega)⟩); conv => whnf) | ((refine XCall.ownL2 hb hL ?_); conv => whnf) | fail
      refine Walk.loopK tab_ok [] [(5, _), (6, _), (7, _), (9, _), (11, _), (12, _), (14, _), (15, _), (89, _), (90, _), (97, _)] ⟨rfl, rfl, rfl, rfl, rfl, rfl, rfl, rfl, rfl, rfl, rfl, trivial⟩ (fun i : Nat => i ≤ 2) (fun i => [(98, natA i)]) (fun i => match i with | 0 => [hpC u1, .cells (snC s), .grow 58 false (s.truths.map owT), .grow 32 false [.gr 4 r0.2.length, .gr 5 r1.2.length], .grow 3 false (ints r0.2), .grow 3 false (ints r1.2), .cells [.int .i64 s.places, .int .i64 s.home, .int .i64 s.bed, .int .i64 s.last, .sl false (s.ways.map wyA), .gr 3 2, .gr 2 s.truths.length]] | 1 => [hpC u1, .cells (snC s), .grow 58 false (s.truths.map owT), .grow 32 false [.gr 4 r0.2.length, .gr 5 r1.2.length], .grow 3 false (ints (r0.2.set p 0)), .grow 3 false (ints r1.2), .cells [.int .i64 s.places, .int .i64 s.home, .int .i64 s.bed, .int .i64 s.last, .sl false (s.ways.map wyA), .gr 3 2, .gr 2 s.truths.length]] | _ => [hpC u1, .cells (snC s), .grow 58 false (s.truths.map owT), .grow 32 false [.gr 4 r0.2.length, .gr 5 r1.2.length], .grow 3 false (ints (r0.2.set p 0)), .grow 3 false (ints (r1.2.set p 1)), .cells [.int .i64 s.places, .int .i64 s.home, .int .i64 s.bed, .int .i64 s.last, .sl false (s.ways.map wyA), .gr 3 2, .gr 2 s.truths.length]]) (fun i => 2 - i) 0 (Nat.zero_le _) rfl ⟨rfl, trivial⟩ ?_
      intro i hi
      have hc : i = 0 ∨ i = 1 ∨ i = 2 := by omega
      rcases hc with rfl | rfl | rfl
      · conv => whnf
        repeat' first | ((with_reducible apply XBr.dec) <;> (intro h; first | (exfalso; omega) | ((try simp only [List.length_map] at h); first | (exfalso; omega) | (conv => whnf)))) | ((first | (with_reducible refine XInt.i64 (by omega) (by omega) ?_) | (refine XHold.mk ⟨rfl, rfl, by omega, by omega⟩ ?_) | (refine XHold.mk ⟨i0, rfl, by omega, by omega⟩ ?_) | (refine XGet.to _ rfl (by decide) rfl ?_) | (refine XPut.to (ints (r0.2.set p 0)) i0.symm (by omega) (setI _ p 0 _ rfl) ?_)); conv => whnf) | fail
        exact XAgain.go 1 (by omega) (by omega) rfl ⟨rfl, rfl, rfl, rfl, rfl, rfl, rfl, rfl, rfl, rfl, rfl, rfl, trivial⟩
      · conv => whnf
        repeat' first | ((with_reducible apply XBr.dec) <;> (intro h; first | (exfalso; omega) | ((try simp only [List.length_map] at h); first | (exfalso; omega) | (conv => whnf)))) | ((first | (with_reducible refine XInt.i64 (by omega) (by omega) ?_) | (refine XHold.mk ⟨rfl, rfl, by omega, by omega⟩ ?_) | (refine XHold.mk ⟨i1, rfl, by omega, by omega⟩ ?_) | (refine XGet.to _ rfl (by decide) rfl ?_) | (refine XPut.to (ints (r1.2.set p 1)) i1.symm (by omega) (setI _ p 1 _ rfl) ?_)); conv => whnf) | fail
        exact XAgain.go 2 (by omega) (by omega) rfl ⟨rfl, rfl, rfl, rfl, rfl, rfl, rfl, rfl, rfl, rfl, rfl, rfl, trivial⟩
      · conv => whnf
        repeat' first | ((with_reducible apply XBr.dec) <;> (intro h; first | (exfalso; omega) | ((try simp only [List.length_map] at h); first | (exfalso; omega) | (conv => whnf)))) | ((refine XCall.lend hst (.cons (Froz.agg (rs := [.int .i64 s.places, .int .i64 s.home, .int .i64 s.bed, .int .i64 s.last, .sl false (s.ways.map wyA), .gr 3 2, .gr 2 s.truths.length]) snOneL (.cons (.low rfl) (.cons (.low rfl) (.cons (.low rfl) (.cons (.low rfl) (.cons (.low (lowWy _)) (.cons (froz_lit rfl rfl rfl (by kernel_rfl) (fun x hx => by simp only [List.mem_cons, List.not_mem_nil, or_false] at hx; rcases hx with rfl | rfl <;> rfl) (fun x hx => by simp only [List.mem_cons, List.not_mem_nil, or_false] at hx; rcases hx with rfl | rfl <;> rfl) (.cons (Froz.grow rfl (by rw [ints_len, List.length_set]) (lowI _)) (.cons (Froz.grow rfl (by rw [ints_len, List.length_set]) (lowI _)) .nil))) (.cons (owFroz rfl) .nil)))))))) (.cons (.low rfl) .nil)) rfl ?_); conv => whnf) | fail
        refine Walk.norm tab_ok [] [(5, _), (6, _), (7, _), (9, _), (11, _), (12, _), (14, _), (15, _), (17, _), (18, _), (89, _), (90, _)] ⟨rfl, rfl, rfl, rfl, rfl, rfl, rfl, rfl, rfl, rfl, rfl, rfl, trivial⟩ ?_
        conv => whnf
        repeat' first | ((first | (with_reducible apply XBr.tt) | (with_reducible apply XBr.ff)); conv => whnf) | ((with_reducible apply XBr.dec) <;> (intro h; first | (exfalso; omega) | ((try simp only [List.length_map] at h); first | (exfalso; omega) | (conv => whnf)))) | ((with_reducible apply XBr.beq) <;> (intro h; first | (exfalso; omega) | (conv => whnf))) | ((with_reducible apply XBr.bne) <;> (intro h; first | (exfalso; omega) | (conv => whnf))) | ((with_reducible refine XInt.i64 (by omega) (by omega) ?_); conv => whnf) | fail
        all_goals exact XAgainG.go (p + 1) [.grow 58 false (s.truths.map owT), .grow 32 false [.gr 4 r0.2.length, .gr 5 r1.2.length], .grow 3 false (ints (r0.2.set p 0)), .grow 3 false (ints (r1.2.set p 1)), .cells [.int .i64 s.places, .int .i64 s.home, .int .i64 s.bed, .int .i64 s.last, .sl false (s.ways.map wyA), .gr 3 2, .gr 2 s.truths.length]] (by omega) (by omega) rfl ⟨rfl, rfl, rfl, rfl, rfl, rfl, rfl, rfl, trivial⟩
    · skip
      obtain ⟨r0, r1, r2, hL⟩ := lit3 hL
      have g0 : (r0.2.length : Int) = s.places := ok.kl r0 (by rw [hL]; simp)
      have i0 : (ints r0.2).length = r0.2.length := ints_len _
      have g1 : (r1.2.length : Int) = s.places := ok.kl r1 (by rw [hL]; simp)
      have i1 : (ints r1.2).length = r1.2.length := ints_len _
      have g2 : (r2.2.length : Int) = s.places := ok.kl r2 (by rw [hL]; simp)
      have i2 : (ints r2.2).length = r2.2.length := ints_len _
      rw [tolU3 p hL] at hst
      repeat' first | ((with_reducible apply XBr.dec) <;> (intro h; first | (exfalso; omega) | ((try simp only [List.length_map] at h); first | (exfalso; omega) | (conv => whnf)))) | ((with_reducible refine XHold.mk ?_ ?_); (first | omega | rfl | decide | exact ⟨rfl, by decide, rfl⟩ | exact wideI _ | exact widePr _ | exact wideSk _ | (unfold Room; constructor <;> ((try simp) <;> omega)) | exact ⟨rfl, by simp only [List.length_map], by unfold Room; constructor <;> ((try simp) <;> omega)⟩ | exact ⟨by omega, by omega, by unfold Room; constructor <;> ((try simp) <;> omega)⟩); conv => whnf) | ((refine XCall.ownL3 hb hL ?_); conv => whnf) | fail
      refine Walk.loopK tab_ok [] [(5, _), (6, _), (7, _), (9, _), (11, _), (12, _), (14, _), (15, _), (89, _), (90, _), (97, _)] ⟨rfl, rfl, rfl, rfl, rfl, rfl, rfl, rfl, rfl, rfl, rfl, trivial⟩ (fun i : Nat => i ≤ 3) (fun i => [(98, natA i)]) (fun i => match i with | 0 => [hpC u1, .cells (snC s), .grow 58 false (s.truths.map owT), .grow 32 false [.gr 4 r0.2.length, .gr 5 r1.2.length, .gr 6 r2.2.length], .grow 3 false (ints r0.2), .grow 3 false (ints r1.2), .grow 3 false (ints r2.2), .cells [.int .i64 s.places, .int .i64 s.home, .int .i64 s.bed, .int .i64 s.last, .sl false (s.ways.map wyA), .gr 3 3, .gr 2 s.truths.length]] | 1 => [hpC u1, .cells (snC s), .grow 58 false (s.truths.map owT), .grow 32 false [.gr 4 r0.2.length, .gr 5 r1.2.length, .gr 6 r2.2.length], .grow 3 false (ints (r0.2.set p 0)), .grow 3 false (ints r1.2), .grow 3 false (ints r2.2), .cells [.int .i64 s.places, .int .i64 s.home, .int .i64 s.bed, .int .i64 s.last, .sl false (s.ways.map wyA), .gr 3 3, .gr 2 s.truths.length]] | 2 => [hpC u1, .cells (snC s), .grow 58 false (s.truths.map owT), .grow 32 false [.gr 4 r0.2.length, .gr 5 r1.2.length, .gr 6 r2.2.length], .grow 3 false (ints (r0.2.set p 0)), .grow 3 false (ints (r1.2.set p 1)), .grow 3 false (ints r2.2), .cells [.int .i64 s.places, .int .i64 s.home, .int .i64 s.bed, .int .i64 s.last, .sl false (s.ways.map wyA), .gr 3 3, .gr 2 s.truths.length]] | _ => [hpC u1, .cells (snC s), .grow 58 false (s.truths.map owT), .grow 32 false [.gr 4 r0.2.length, .gr 5 r1.2.length, .gr 6 r2.2.length], .grow 3 false (ints (r0.2.set p 0)), .grow 3 false (ints (r1.2.set p 1)), .grow 3 false (ints (r2.2.set p 2)), .cells [.int .i64 s.places, .int .i64 s.home, .int .i64 s.bed, .int .i64 s.last, .sl false (s.ways.map wyA), .gr 3 3, .gr 2 s.truths.length]]) (fun i => 3 - i) 0 (Nat.zero_le _) rfl ⟨rfl, trivial⟩ ?_
      intro i hi
      have hc : i = 0 ∨ i = 1 ∨ i = 2 ∨ i = 3 := by omega
      rcases hc with rfl | rfl | rfl | rfl
      · conv => whnf
        repeat' first | ((with_reducible apply XBr.dec) <;> (intro h; first | (exfalso; omega) | ((try simp only [List.length_map] at h); first | (exfalso; omega) | (conv => whnf)))) | ((first | (with_reducible refine XInt.i64 (by omega) (by omega) ?_) | (refine XHold.mk ⟨rfl, rfl, by omega, by omega⟩ ?_) | (refine XHold.mk ⟨i0, rfl, by omega, by omega⟩ ?_) | (refine XGet.to _ rfl (by decide) rfl ?_) | (refine XPut.to (ints (r0.2.set p 0)) i0.symm (by omega) (setI _ p 0 _ rfl) ?_)); conv => whnf) | fail
        exact XAgain.go 1 (by omega) (by omega) rfl ⟨rfl, rfl, rfl, rfl, rfl, rfl, rfl, rfl, rfl, rfl, rfl, rfl, trivial⟩
      · conv => whnf
        repeat' first | ((with_reducible apply XBr.dec) <;> (intro h; first | (exfalso; omega) | ((try simp only [List.length_map] at h); first | (exfalso; omega) | (conv => whnf)))) | ((first | (with_reducible refine XInt.i64 (by omega) (by omega) ?_) | (refine XHold.mk ⟨rfl, rfl, by omega, by omega⟩ ?_) | (refine XHold.mk ⟨i1, rfl, by omega, by omega⟩ ?_) | (refine XGet.to _ rfl (by decide) rfl ?_) | (refine XPut.to (ints (r1.2.set p 1)) i1.symm (by omega) (setI _ p 1 _ rfl) ?_)); conv => whnf) | fail
        exact XAgain.go 2 (by omega) (by omega) rfl ⟨rfl, rfl, rfl, rfl, rfl, rfl, rfl, rfl, rfl, rfl, rfl, rfl, trivial⟩
      · conv => whnf
        repeat' first | ((with_reducible apply XBr.dec) <;> (intro h; first | (exfalso; omega) | ((try simp only [List.length_map] at h); first | (exfalso; omega) | (conv => whnf)))) | ((first | (with_reducible refine XInt.i64 (by omega) (by omega) ?_) | (refine XHold.mk ⟨rfl, rfl, by omega, by omega⟩ ?_) | (refine XHold.mk ⟨i2, rfl, by omega, by omega⟩ ?_) | (refine XGet.to _ rfl (by decide) rfl ?_) | (refine XPut.to (ints (r2.2.set p 2)) i2.symm (by omega) (setI _ p 2 _ rfl) ?_)); conv => whnf) | fail
        exact XAgain.go 3 (by omega) (by omega) rfl ⟨rfl, rfl, rfl, rfl, rfl, rfl, rfl, rfl, rfl, rfl, rfl, rfl, trivial⟩
      · conv => whnf
        repeat' first | ((with_reducible apply XBr.dec) <;> (intro h; first | (exfalso; omega) | ((try simp only [List.length_map] at h); first | (exfalso; omega) | (conv => whnf)))) | ((refine XCall.lend hst (.cons (Froz.agg (rs := [.int .i64 s.places, .int .i64 s.home, .int .i64 s.bed, .int .i64 s.last, .sl false (s.ways.map wyA), .gr 3 3, .gr 2 s.truths.length]) snOneL (.cons (.low rfl) (.cons (.low rfl) (.cons (.low rfl) (.cons (.low rfl) (.cons (.low (lowWy _)) (.cons (froz_lit rfl rfl rfl (by kernel_rfl) (fun x hx => by simp only [List.mem_cons, List.not_mem_nil, or_false] at hx; rcases hx with rfl | rfl | rfl <;> rfl) (fun x hx => by simp only [List.mem_cons, List.not_mem_nil, or_false] at hx; rcases hx with rfl | rfl | rfl <;> rfl) (.cons (Froz.grow rfl (by rw [ints_len, List.length_set]) (lowI _)) (.cons (Froz.grow rfl (by rw [ints_len, List.length_set]) (lowI _)) (.cons (Froz.grow rfl (by rw [ints_len, List.length_set]) (lowI _)) .nil)))) (.cons (owFroz rfl) .nil)))))))) (.cons (.low rfl) .nil)) rfl ?_); conv => whnf) | fail
        refine Walk.norm tab_ok [] [(5, _), (6, _), (7, _), (9, _), (11, _), (12, _), (14, _), (15, _), (17, _), (18, _), (89, _), (90, _)] ⟨rfl, rfl, rfl, rfl, rfl, rfl, rfl, rfl, rfl, rfl, rfl, rfl, trivial⟩ ?_
        conv => whnf
        repeat' first | ((first | (with_reducible apply XBr.tt) | (with_reducible apply XBr.ff)); conv => whnf) | ((with_reducible apply XBr.dec) <;> (intro h; first | (exfalso; omega) | ((try simp only [List.length_map] at h); first | (exfalso; omega) | (conv => whnf)))) | ((with_reducible apply XBr.beq) <;> (intro h; first | (exfalso; omega) | (conv => whnf))) | ((with_reducible apply XBr.bne) <;> (intro h; first | (exfalso; omega) | (conv => whnf))) | ((with_reducible refine XInt.i64 (by omega) (by omega) ?_); conv => whnf) | fail
        all_goals exact XAgainG.go (p + 1) [.grow 58 false (s.truths.map owT), .grow 32 false [.gr 4 r0.2.length, .gr 5 r1.2.length, .gr 6 r2.2.length], .grow 3 false (ints (r0.2.set p 0)), .grow 3 false (ints (r1.2.set p 1)), .grow 3 false (ints (r2.2.set p 2)), .cells [.int .i64 s.places, .int .i64 s.home, .int .i64 s.bed, .int .i64 s.last, .sl false (s.ways.map wyA), .gr 3 3, .gr 2 s.truths.length]] (by omega) (by omega) rfl ⟨rfl, rfl, rfl, rfl, rfl, rfl, rfl, rfl, trivial⟩
    · skip
      obtain ⟨r0, r1, r2, r3, hL⟩ := lit4 hL
      have g0 : (r0.2.length : Int) = s.places := ok.kl r0 (by rw [hL]; simp)
      have i0 : (ints r0.2).length = r0.2.length := ints_len _
      have g1 : (r1.2.length : Int) = s.places := ok.kl r1 (by rw [hL]; simp)
      have i1 : (ints r1.2).length = r1.2.length := ints_len _
      have g2 : (r2.2.length : Int) = s.places := ok.kl r2 (by rw [hL]; simp)
      have i2 : (ints r2.2).length = r2.2.length := ints_len _
      have g3 : (r3.2.length : Int) = s.places := ok.kl r3 (by rw [hL]; simp)
      have i3 : (ints r3.2).length = r3.2.length := ints_len _
      rw [tolU4 p hL] at hst
      repeat' first | ((with_reducible apply XBr.dec) <;> (intro h; first | (exfalso; omega) | ((try simp only [List.length_map] at h); first | (exfalso; omega) | (conv => whnf)))) | ((with_reducible refine XHold.mk ?_ ?_); (first | omega | rfl | decide | exact ⟨rfl, by decide, rfl⟩ | exact wideI _ | exact widePr _ | exact wideSk _ | (unfold Room; constructor <;> ((try simp) <;> omega)) | exact ⟨rfl, by simp only [List.length_map], by unfold Room; constructor <;> ((try simp) <;> omega)⟩ | exact ⟨by omega, by omega, by unfold Room; constructor <;> ((try simp) <;> omega)⟩); conv => whnf) | ((refine XCall.ownL4 hb hL ?_); conv => whnf) | fail
      refine Walk.loopK tab_ok [] [(5, _), (6, _), (7, _), (9, _), (11, _), (12, _), (14, _), (15, _), (89, _), (90, _), (97, _)] ⟨rfl, rfl, rfl, rfl, rfl, rfl, rfl, rfl, rfl, rfl, rfl, trivial⟩ (fun i : Nat => i ≤ 4) (fun i => [(98, natA i)]) (fun i => match i with | 0 => [hpC u1, .cells (snC s), .grow 58 false (s.truths.map owT), .grow 32 false [.gr 4 r0.2.length, .gr 5 r1.2.length, .gr 6 r2.2.length, .gr 7 r3.2.length], .grow 3 false (ints r0.2), .grow 3 false (ints r1.2), .grow 3 false (ints r2.2), .grow 3 false (ints r3.2), .cells [.int .i64 s.places, .int .i64 s.home, .int .i64 s.bed, .int .i64 s.last, .sl false (s.ways.map wyA), .gr 3 4, .gr 2 s.truths.length]] | 1 => [hpC u1, .cells (snC s), .grow 58 false (s.truths.map owT), .grow 32 false [.gr 4 r0.2.length, .gr 5 r1.2.length, .gr 6 r2.2.length, .gr 7 r3.2.length], .grow 3 false (ints (r0.2.set p 0)), .grow 3 false (ints r1.2), .grow 3 false (ints r2.2), .grow 3 false (ints r3.2), .cells [.int .i64 s.places, .int .i64 s.home, .int .i64 s.bed, .int .i64 s.last, .sl false (s.ways.map wyA), .gr 3 4, .gr 2 s.truths.length]] | 2 => [hpC u1, .cells (snC s), .grow 58 false (s.truths.map owT), .grow 32 false [.gr 4 r0.2.length, .gr 5 r1.2.length, .gr 6 r2.2.length, .gr 7 r3.2.length], .grow 3 false (ints (r0.2.set p 0)), .grow 3 false (ints (r1.2.set p 1)), .grow 3 false (ints r2.2), .grow 3 false (ints r3.2), .cells [.int .i64 s.places, .int .i64 s.home, .int .i64 s.bed, .int .i64 s.last, .sl false (s.ways.map wyA), .gr 3 4, .gr 2 s.truths.length]] | 3 => [hpC u1, .cells (snC s), .grow 58 false (s.truths.map owT), .grow 32 false [.gr 4 r0.2.length, .gr 5 r1.2.length, .gr 6 r2.2.length, .gr 7 r3.2.length], .grow 3 false (ints (r0.2.set p 0)), .grow 3 false (ints (r1.2.set p 1)), .grow 3 false (ints (r2.2.set p 2)), .grow 3 false (ints r3.2), .cells [.int .i64 s.places, .int .i64 s.home, .int .i64 s.bed, .int .i64 s.last, .sl false (s.ways.map wyA), .gr 3 4, .gr 2 s.truths.length]] | _ => [hpC u1, .cells (snC s), .grow 58 false (s.truths.map owT), .grow 32 false [.gr 4 r0.2.length, .gr 5 r1.2.length, .gr 6 r2.2.length, .gr 7 r3.2.length], .grow 3 false (ints (r0.2.set p 0)), .grow 3 false (ints (r1.2.set p 1)), .grow 3 false (ints (r2.2.set p 2)), .grow 3 false (ints (r3.2.set p 3)), .cells [.int .i64 s.places, .int .i64 s.home, .int .i64 s.bed, .int .i64 s.last, .sl false (s.ways.map wyA), .gr 3 4, .gr 2 s.truths.length]]) (fun i => 4 - i) 0 (Nat.zero_le _) rfl ⟨rfl, trivial⟩ ?_
      intro i hi
      have hc : i = 0 ∨ i = 1 ∨ i = 2 ∨ i = 3 ∨ i = 4 := by omega
      rcases hc with rfl | rfl | rfl | rfl | rfl
      · conv => whnf
        repeat' first | ((with_reducible apply XBr.dec) <;> (intro h; first | (exfalso; omega) | ((try simp only [List.length_map] at h); first | (exfalso; omega) | (conv => whnf)))) | ((first | (with_reducible refine XInt.i64 (by omega) (by omega) ?_) | (refine XHold.mk ⟨rfl, rfl, by omega, by omega⟩ ?_) | (refine XHold.mk ⟨i0, rfl, by omega, by omega⟩ ?_) | (refine XGet.to _ rfl (by decide) rfl ?_) | (refine XPut.to (ints (r0.2.set p 0)) i0.symm (by omega) (setI _ p 0 _ rfl) ?_)); conv => whnf) | fail
        exact XAgain.go 1 (by omega) (by omega) rfl ⟨rfl, rfl, rfl, rfl, rfl, rfl, rfl, rfl, rfl, rfl, rfl, rfl, trivial⟩
      · conv => whnf
        repeat' first | ((with_reducible apply XBr.dec) <;> (intro h; first | (exfalso; omega) | ((try simp only [List.length_map] at h); first | (exfalso; omega) | (conv => whnf)))) | ((first | (with_reducible refine XInt.i64 (by omega) (by omega) ?_) | (refine XHold.mk ⟨rfl, rfl, by omega, by omega⟩ ?_) | (refine XHold.mk ⟨i1, rfl, by omega, by omega⟩ ?_) | (refine XGet.to _ rfl (by decide) rfl ?_) | (refine XPut.to (ints (r1.2.set p 1)) i1.symm (by omega) (setI _ p 1 _ rfl) ?_)); conv => whnf) | fail
        exact XAgain.go 2 (by omega) (by omega) rfl ⟨rfl, rfl, rfl, rfl, rfl, rfl, rfl, rfl, rfl, rfl, rfl, rfl, trivial⟩
      · conv => whnf
        repeat' first | ((with_reducible apply XBr.dec) <;> (intro h; first | (exfalso; omega) | ((try simp only [List.length_map] at h); first | (exfalso; omega) | (conv => whnf)))) | ((first | (with_reducible refine XInt.i64 (by omega) (by omega) ?_) | (refine XHold.mk ⟨rfl, rfl, by omega, by omega⟩ ?_) | (refine XHold.mk ⟨i2, rfl, by omega, by omega⟩ ?_) | (refine XGet.to _ rfl (by decide) rfl ?_) | (refine XPut.to (ints (r2.2.set p 2)) i2.symm (by omega) (setI _ p 2 _ rfl) ?_)); conv => whnf) | fail
        exact XAgain.go 3 (by omega) (by omega) rfl ⟨rfl, rfl, rfl, rfl, rfl, rfl, rfl, rfl, rfl, rfl, rfl, rfl, trivial⟩
      · conv => whnf
        repeat' first | ((with_reducible apply XBr.dec) <;> (intro h; first | (exfalso; omega) | ((try simp only [List.length_map] at h); first | (exfalso; omega) | (conv => whnf)))) | ((first | (with_reducible refine XInt.i64 (by omega) (by omega) ?_) | (refine XHold.mk ⟨rfl, rfl, by omega, by omega⟩ ?_) | (refine XHold.mk ⟨i3, rfl, by omega, by omega⟩ ?_) | (refine XGet.to _ rfl (by decide) rfl ?_) | (refine XPut.to (ints (r3.2.set p 3)) i3.symm (by omega) (setI _ p 3 _ rfl) ?_)); conv => whnf) | fail
        exact XAgain.go 4 (by omega) (by omega) rfl ⟨rfl, rfl, rfl, rfl, rfl, rfl, rfl, rfl, rfl, rfl, rfl, rfl, trivial⟩
      · conv => whnf
        repeat' first | ((with_reducible apply XBr.dec) <;> (intro h; first | (exfalso; omega) | ((try simp only [List.length_map] at h); first | (exfalso; omega) | (conv => whnf)))) | ((refine XCall.lend hst (.cons (Froz.agg (rs := [.int .i64 s.places, .int .i64 s.home, .int .i64 s.bed, .int .i64 s.last, .sl false (s.ways.map wyA), .gr 3 4, .gr 2 s.truths.length]) snOneL (.cons (.low rfl) (.cons (.low rfl) (.cons (.low rfl) (.cons (.low rfl) (.cons (.low (lowWy _)) (.cons (froz_lit rfl rfl rfl (by kernel_rfl) (fun x hx => by simp only [List.mem_cons, List.not_mem_nil, or_false] at hx; rcases hx with rfl | rfl | rfl | rfl <;> rfl) (fun x hx => by simp only [List.mem_cons, List.not_mem_nil, or_false] at hx; rcases hx with rfl | rfl | rfl | rfl <;> rfl) (.cons (Froz.grow rfl (by rw [ints_len, List.length_set]) (lowI _)) (.cons (Froz.grow rfl (by rw [ints_len, List.length_set]) (lowI _)) (.cons (Froz.grow rfl (by rw [ints_len, List.length_set]) (lowI _)) (.cons (Froz.grow rfl (by rw [ints_len, List.length_set]) (lowI _)) .nil))))) (.cons (owFroz rfl) .nil)))))))) (.cons (.low rfl) .nil)) rfl ?_); conv => whnf) | fail
        refine Walk.norm tab_ok [] [(5, _), (6, _), (7, _), (9, _), (11, _), (12, _), (14, _), (15, _), (17, _), (18, _), (89, _), (90, _)] ⟨rfl, rfl, rfl, rfl, rfl, rfl, rfl, rfl, rfl, rfl, rfl, rfl, trivial⟩ ?_
        conv => whnf
        repeat' first | ((first | (with_reducible apply XBr.tt) | (with_reducible apply XBr.ff)); conv => whnf) | ((with_reducible apply XBr.dec) <;> (intro h; first | (exfalso; omega) | ((try simp only [List.length_map] at h); first | (exfalso; omega) | (conv => whnf)))) | ((with_reducible apply XBr.beq) <;> (intro h; first | (exfalso; omega) | (conv => whnf))) | ((with_reducible apply XBr.bne) <;> (intro h; first | (exfalso; omega) | (conv => whnf))) | ((with_reducible refine XInt.i64 (by omega) (by omega) ?_); conv => whnf) | fail
        all_goals exact XAgainG.go (p + 1) [.grow 58 false (s.truths.map owT), .grow 32 false [.gr 4 r0.2.length, .gr 5 r1.2.length, .gr 6 r2.2.length, .gr 7 r3.2.length], .grow 3 false (ints (r0.2.set p 0)), .grow 3 false (ints (r1.2.set p 1)), .grow 3 false (ints (r2.2.set p 2)), .grow 3 false (ints (r3.2.set p 3)), .cells [.int .i64 s.places, .int .i64 s.home, .int .i64 s.bed, .int .i64 s.last, .sl false (s.ways.map wyA), .gr 3 4, .gr 2 s.truths.length]] (by omega) (by omega) rfl ⟨rfl, rfl, rfl, rfl, rfl, rfl, rfl, rfl, trivial⟩
  repeat' first | ((with_reducible apply XBr.dec) <;> (intro h; first | (exfalso; omega) | ((try simp only [List.length_map] at h); first | (exfalso; omega) | (conv => whnf)))) | ((refine XCall.ret awake02_c ?_); conv => whnf) | fail
  exact XOut.bool rfl
end GA
end
