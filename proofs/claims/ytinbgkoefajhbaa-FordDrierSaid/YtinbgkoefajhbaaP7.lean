/- Part 7 of a proof: F43, F65, F70, F71, F73, F59, Abs44, F78, F72. -/
import Derived.Test.YtinbgkoefajhbaaP6
section
namespace GA
open Go Go.RowKit Go.Proofs
set_option pp.deepTerms true
set_option maxRecDepth 8000
set_option linter.unusedVariables false
set_option linter.unusedSimpArgs false

theorem clone_zi (xs : List Int) (hx : xs.length ≤ 100000) : Comp Try.prog 40 [.sl false (ints xs)] (.sl false (ints xs)) := by
  have e1 : ((ints xs).length : Int) = xs.length := by rw [ints_len]
  refine Comp.body (T := tab) (res := [.tmp 2]) tab_ok [5] Try.func40 rfl (by kernel_rfl) Try.ntmps40 rfl (by simp only [List.length_cons, List.length_nil]; decide) (by simp only [lowL, AV.low, lowI]; rfl) ?_; conv => whnf
  repeat' first | ((with_reducible first | apply XBr.tt | apply XBr.ff | apply Chk.go | apply ChkA.go | apply ChkF.go | apply ChkB.go | apply XArr.pim0 | apply XArr.pim1); conv => whnf) | (with_reducible apply XBr.not) | ((with_reducible apply XBr.dec) <;> (intro h; first | (exfalso; omega) | ((try simp only [List.length_map] at h); first | (exfalso; omega) | (conv => whnf)))) | ((with_reducible first | apply XBr.beq | apply XBr.bne) <;> (intro h; first | (exfalso; omega) | (conv => whnf))) | ((with_reducible refine XInt.i64 (by omega) (by omega) ?_); conv => whnf) | ((with_reducible refine XHold.mk ?_ ?_); (first | omega | rfl | decide | exact ⟨rfl, by decide, rfl⟩ | exact wideI _ | exact widePr _ | exact wideSk _ | (unfold Room; constructor <;> ((try simp) <;> omega)) | exact ⟨rfl, by simp only [List.length_map], by unfold Room; constructor <;> ((try simp) <;> omega)⟩ | exact ⟨by omega, by omega, by unfold Room; constructor <;> ((try simp) <;> omega)⟩); conv => whnf) | ((first | ((with_reducible refine XIx.nat ?_ ?_ ?_); omega; (intro _; rfl)) | ((with_reducible refine XIx.map ?_ ?_ ?_ ?_); omega; omega; (intro _; rfl))); conv => whnf) | (with_reducible apply XAnd.mk) | (exact XSame.mk rfl rfl) | (exact XSame.mk (by first | rfl | (simp only [List.map_append, List.length_append, List.length_map]; done) | (simp only [List.map_append, List.length_append, List.length_map]; rfl)) (by first | rfl | (simp only [List.map_append]; done) | (simp only [List.map_append]; rfl))) | (with_reducible exact trivial) | ((first | (with_reducible refine xdrop_app (by rw [List.length_map]; omega) ?_) | (with_reducible refine XDrop.desk (by assumption) ?_) | (with_reducible first | refine XArr.ints (by omega) (by omega) (by omega) ?_ | refine XArr.intsA (by omega) (by omega) (by omega) ?_) | ((with_reducible first | refine XArr.nats ?_ ?_ ?_ | refine XArr.natsA ?_ ?_ ?_ | refine XArr.ptr ?_ ?_ ?_); omega; omega) | (with_reducible apply XNext.mk)); conv => whnf) | ((with_reducible apply XBr.mk') <;> (intro h; conv => whnf))
  exact ⟨Froz.grow rfl (by simp) (lowI xs)⟩
theorem wTab_row {s : Sn} (ok : SnOk s) {p m : Nat} (hp : (p : Int) < s.places) (hm : (m : Int) ≤ s.last) : ((wTab s).drop (976 * p + 16 * m)).take (allN s + 1) = zvs (allN s + 1) fun l => worthZ s ⟨p, m, l⟩ := by
  have hal := allN_lt ok; have p2 := ok.p2; have l2 := ok.l2
  apply List.ext_getElem?
  intro l
  rw [List.getElem?_take]
  by_cases h : l < allN s + 1
  · rw [if_pos h, List.getElem?_drop, wTab_at s ok ⟨hp, hm, by show l ≤ allN s; omega⟩]
    unfold zvs
    rw [List.getElem?_map, vecF_get?, if_pos h]; rfl
  · rw [if_neg h, List.getElem?_eq_none (by rw [zvs_len]; omega)]
def wrR (s : Sn) (p m : Nat) : AV := rwA (false, vecF (allN s + 1) fun l => worthZ s ⟨p, m, l⟩)
def wrP (s : Sn) (M p : Nat) : AV := .sl false (vecF M (wrR s p))
def wrE (s : Sn) (M p q : Nat) : AV := if q < p then wrP s M q else .sl true []
theorem wrE_one (s : Sn) (M p : Nat) (P : Nat) : ∀ x ∈ vecF P (wrE s M p), x.one = true := fun x hx => by
  obtain ⟨q, -, rfl⟩ := vecF_mem.1 hx
  unfold wrE; split <;> rfl
theorem wrR_low {n : Nat} (s : Sn) (p m : Nat) : (wrR s p m).low n = true := rwL _
theorem wrP_low {n : Nat} (s : Sn) (M p : Nat) : (wrP s M p).low n = true := by
  show lowL n (vecF M (wrR s p)) = true
  rw [lowL_iff]; intro x hx
  obtain ⟨q, -, rfl⟩ := vecF_mem.1 hx
  exact wrR_low s p q
theorem wrE_low {n : Nat} (s : Sn) (M p P : Nat) : lowL n (vecF P (wrE s M p)) = true := by
  rw [lowL_iff]; intro x hx
  obtain ⟨q, -, rfl⟩ := vecF_mem.1 hx
  unfold wrE; split
  · exact wrP_low s M q
  · rfl
theorem wrE_at {s : Sn} {M p P : Nat} (h : p < P) : (vecF P (wrE s M p))[p]? = some (.sl true []) := by
  rw [vecF_get?, if_pos h]; unfold wrE; rw [if_neg (by omega)]
theorem wrE_next {s : Sn} {M p P : Nat} (h : p < P) : (vecF P (wrE s M p)).set p (wrP s M p) = vecF P (wrE s M (p + 1)) := by
  rw [vecF_set]
  refine vecF_congr fun q hq => ?_
  unfold updV wrE
  by_cases e : q = p
  · rw [if_pos e, e, if_pos (by omega)]
  · rw [if_neg e]
    by_cases e2 : q < p
    · rw [if_pos e2, if_pos (by omega)]
    · rw [if_neg e2, if_neg (by omega)]
theorem wrE_0 (s : Sn) (M P : Nat) : vecF P (wrE s M 0) = List.replicate P (.sl true []) := by
  rw [← vecF_replicate]
  refine vecF_congr fun q _ => ?_
  unfold wrE; rw [if_neg (by omega)]
theorem wrE_all (s : Sn) (M P : Nat) (hM : M = (s.last + 1).toNat) (hP : P = s.places.toNat) : vecF P (wrE s M P) = (wrT s).map rsT := by
  unfold wrT mkT
  rw [vecF_map, ← hM, ← hP]
  refine vecF_congr fun p hp => ?_
  unfold wrE
  rw [if_pos hp]
  show AV.sl false _ = AV.sl false _
  rw [vecF_map]; rfl
theorem XCall.as {P : Program} {f : FuncId} {rs rs' : List AV} {H : List Blk} {k : AV → List Blk → Prop} (e : rs' = rs) (x : XCall P f rs' H k) : XCall P f rs H k := e ▸ x
theorem fMade_ok (s : Sn) (hb : SnB s) (ok : SnOk s) : Comp Try.prog 10 [snA s] (.tup [.sl false ((wrT s).map rsT), .int .i64 0]) := by
  have p1 := ok.p1; have p2 := ok.p2; have l1 := ok.l1; have l2 := ok.l2
  have hal := allN_lt ok
  have ho := fdOpened_c s hb ok
  have hw := worths_c s ok
  have hac := fall_c s ok
  obtain ⟨P0, hP0⟩ : ∃ P0 : Nat, s.places = P0 := ⟨s.places.toNat, by omega⟩
  obtain ⟨L0, hL0⟩ : ∃ L0 : Nat, s.last = L0 := ⟨s.last.toNat, by omega⟩
  refine Comp.body (T := tab) (res := [.tmp 2, .tmp 3]) tab_ok [] Try.func10 rfl (by kernel_rfl) Try.ntmps10 rfl (by simp only [List.length_cons, List.length_nil]; decide) (by simp only [lowL, snL]; rfl) ?_; conv => whnf
  repeat' first | ((with_reducible first | apply XBr.tt | apply XBr.ff | apply Chk.go | apply ChkA.go | apply ChkF.go | apply ChkB.go | apply XArr.pim0 | apply XArr.pim1); conv => whnf) | (with_reducible apply XBr.not) | ((with_reducible apply XBr.dec) <;> (intro h; first | (exfalso; omega) | ((try simp only [List.length_map] at h); first | (exfalso; omega) | (conv => whnf)))) | ((with_reducible first | apply XBr.beq | apply XBr.bne) <;> (intro h; first | (exfalso; omega) | (conv => whnf))) | ((with_reducible refine XInt.i64 (by omega) (by omega) ?_); conv => whnf) | ((with_reducible refine XHold.mk ?_ ?_); (first | omega | rfl | decide | exact ⟨rfl, by decide, rfl⟩ | exact wideI _ | exact widePr _ | exact wideSk _ | (unfold Room; constructor <;> ((try simp) <;> omega)) | exact ⟨rfl, by simp only [List.length_map], by unfold Room; constructor <;> ((try simp) <;> omega)⟩ | exact ⟨by omega, by omega, by unfold Room; constructor <;> ((try simp) <;> omega)⟩); conv => whnf) | ((first | ((with_reducible refine XIx.nat ?_ ?_ ?_); omega; (intro _; rfl)) | ((with_reducible refine XIx.map ?_ ?_ ?_ ?_); omega; omega; (intro _; rfl))); conv => whnf) | (with_reducible apply XAnd.mk) | (exact XSame.mk rfl rfl) | (exact XSame.mk (by first | rfl | (simp only [List.map_append, List.length_append, List.length_map]; done) | (simp only [List.map_append, List.length_append, List.length_map]; rfl)) (by first | rfl | (simp only [List.map_append]; done) | (simp only [List.map_append]; rfl))) | (with_reducible exact trivial) | ((first | (with_reducible refine xdrop_app (by rw [List.length_map]; omega) ?_) | (with_reducible refine XDrop.desk (by assumption) ?_) | (with_reducible first | refine XArr.ints (by omega) (by omega) (by omega) ?_ | refine XArr.intsA (by omega) (by omega) (by omega) ?_) | ((with_reducible first | refine XArr.nats ?_ ?_ ?_ | refine XArr.natsA ?_ ?_ ?_ | refine XArr.ptr ?_ ?_ ?_); omega; omega)); conv => whnf) | (apply Walk.drawN (id := 12) tab_ok mixed_ok [] [18, 20] (hsC [_, _, _]) [_, _, _, _, _, _, _, _, _, _, _, _, _, _, _, _, _, _, _, _, _] (by kernel_rfl) rfl) | ((first | (with_reducible apply XNext.mk) | (refine XCall.ret ho ?_) | (refine XCall.ret hw ?_)); conv => whnf) | ((refine XHold.mk ⟨by omega, by omega, by unfold Room; constructor <;> omega⟩ ?_); conv => whnf) | ((refine XHold.mk List.length_replicate ?_); conv => whnf) | ((with_reducible apply XBr.mk') <;> (intro h; conv => whnf))
  refine Walk.loopGK tab_ok [] [(1, _), (2, _), (3, _), (4, _), (6, _), (24, _)] ⟨rfl, rfl, rfl, rfl, rfl, rfl, trivial⟩ (fun p : Nat => p ≤ P0) (fun p => [(7, .gr 0 P0), (25, natA p)]) (fun p => [.grow 24 false (vecF P0 (wrE s (L0 + 1) p))]) (fun p => P0 - p) 0 (Nat.zero_le _) (by rw [wrE_0]; show [Blk.grow _ _ (List.replicate P0 _)] = [Blk.grow _ _ (List.replicate s.places.toNat _)]; rw [hP0, Int.toNat_natCast]) ⟨(by show some (AV.gr 0 s.places.toNat) = some (AV.gr 0 P0); rw [hP0, Int.toNat_natCast]), rfl, trivial⟩ ?_ (fun _ _ => (show (1 : Nat) ≤ 1 from Nat.le_refl 1)) ?_
  · intro p _
    refine ⟨fun z hz => ?_, fun z hz => ?_⟩
    · rw [List.mem_singleton] at hz; subst hz; exact wrE_low _ _ _ _
    · simp only [List.cons_append, List.nil_append, List.mem_cons, List.not_mem_nil, or_false] at hz
      rcases hz with rfl | rfl | rfl | rfl | rfl | rfl | rfl | rfl <;> first | rfl | exact snCL s | exact dskFL s | exact worsL s
  intro p hp
  have hnx : p < P0 → (vecF P0 (wrE s (L0 + 1) p)).set p (wrP s (L0 + 1) p) = vecF P0 (wrE s (L0 + 1) (p + 1)) := wrE_next
  have hone := wrE_one s (L0 + 1) p P0
  have hat : p < P0 → (vecF P0 (wrE s (L0 + 1) p))[p]? = some (.sl true []) := wrE_at
  have hel := wrE_low (n := 0) s (L0 + 1) p P0
  have hlen : (vecF P0 (wrE s (L0 + 1) p)).length = P0 := vecF_len _ _
  have hall : p = P0 → vecF P0 (wrE s (L0 + 1) p) = (wrT s).map rsT := fun h => by rw [h]; exact wrE_all s _ _ (by omega) (by omega)
  generalize vecF P0 (wrE s (L0 + 1) p) = els at hnx hone hat hel hlen hall
  conv => whnf
  by_cases hlt : p < P0
  · have hlt' : p < els.length := by omega
    have hsl : ∀ v, (els.set p v).length = P0 := fun v => by rw [List.length_set]; exact hlen
    repeat' first | ((with_reducible first | apply XBr.tt | apply XBr.ff | apply Chk.go | apply ChkA.go | apply ChkF.go | apply ChkB.go | apply XArr.pim0 | apply XArr.pim1); conv => whnf) | (with_reducible apply XBr.not) | ((with_reducible apply XBr.dec) <;> (intro h; first | (exfalso; omega) | ((try simp only [List.length_map] at h); first | (exfalso; omega) | (conv => whnf)))) | ((with_reducible first | apply XBr.beq | apply XBr.bne) <;> (intro h; first | (exfalso; omega) | (conv => whnf))) | ((with_reducible refine XInt.i64 (by omega) (by omega) ?_); conv => whnf) | ((with_reducible refine XHold.mk ?_ ?_); (first | omega | rfl | decide | exact ⟨rfl, by decide, rfl⟩ | exact wideI _ | exact widePr _ | exact wideSk _ | (unfold Room; constructor <;> ((try simp) <;> omega)) | exact ⟨rfl, by simp only [List.length_map], by unfold Room; constructor <;> ((try simp) <;> omega)⟩ | exact ⟨by omega, by omega, by unfold Room; constructor <;> ((try simp) <;> omega)⟩); conv => whnf) | ((first | ((with_reducible refine XIx.nat ?_ ?_ ?_); omega; (intro _; rfl)) | ((with_reducible refine XIx.map ?_ ?_ ?_ ?_); omega; omega; (intro _; rfl))); conv => whnf) | (with_reducible apply XAnd.mk) | (exact XSame.mk rfl rfl) | (exact XSame.mk (by first | rfl | (simp only [List.map_append, List.length_append, List.length_map]; done) | (simp only [List.map_append, List.length_append, List.length_map]; rfl)) (by first | rfl | (simp only [List.map_append]; done) | (simp only [List.map_append]; rfl))) | (with_reducible exact trivial) | ((first | (with_reducible refine xdrop_app (by rw [List.length_map]; omega) ?_) | (with_reducible refine XDrop.desk (by assumption) ?_) | (with_reducible first | refine XArr.ints (by omega) (by omega) (by omega) ?_ | refine XArr.intsA (by omega) (by omega) (by omega) ?_) | ((with_reducible first | refine XArr.nats ?_ ?_ ?_ | refine XArr.natsA ?_ ?_ ?_ | refine XArr.ptr ?_ ?_ ?_); omega; omega)); conv => whnf) | (apply Walk.drawN (id := 12) tab_ok mixed_ok [] [18, 20] (hsC [_, _, _]) [_, _, _, _, _, _, _, _, _, _, _, _, _, _, _, _, _, _, _, _, _] (by kernel_rfl) rfl) | ((with_reducible apply XNext.mk); conv => whnf) | ((with_reducible apply XBr.mk') <;> (intro h; conv => whnf))
    refine Walk.nilRowIn 0 p 43 rfl hone (hat hlt) ?_
    refine Walk.thenDo ?_
    refine Walk.loopGK tab_ok [] [(1, _), (2, _), (3, _), (4, _), (6, _), (7, _), (8, _), (24, _), (25, _), (30, _)] ⟨rfl, rfl, rfl, rfl, rfl, rfl, rfl, rfl, rfl, rfl, trivial⟩ (fun m : Nat => m ≤ L0 + 1) (fun m => [(31, natA m)]) (fun m => [.grow 24 false (els.set p (.gr 1 m)), .grow 43 (vecF m (wrR s p)).isEmpty (vecF m (wrR s p))]) (fun m => L0 + 1 - m) 0 (Nat.zero_le _) (by rw [show vecF 0 (wrR s p) = [] by rw [vecF_eq]; rfl]; rfl) ⟨rfl, trivial⟩ ?_ (fun _ _ => (show (2 : Nat) ≤ 2 from Nat.le_refl 2)) ?_
    · intro m _
      refine ⟨fun z hz => ?_, fun z hz => ?_⟩
      · simp only [List.mem_cons, List.not_mem_nil, or_false] at hz
        rcases hz with rfl | rfl
        · show lowL 2 (els.set p (.gr 1 m)) = true
          rw [lowL_iff]
          intro y hy
          rcases List.mem_or_eq_of_mem_set hy with hy | rfl
          · exact AV.low_mono (Nat.zero_le _) ((lowL_iff.1 hel) y hy)
          · rfl
        · show lowL 2 (vecF m (wrR s p)) = true
          rw [lowL_iff]; intro y hy
          obtain ⟨q, -, rfl⟩ := vecF_mem.1 hy
          exact wrR_low s p q
      · simp only [List.cons_append, List.nil_append, List.mem_cons, List.not_mem_nil, or_false] at hz
        rcases hz with rfl | rfl | rfl | rfl | rfl | rfl | rfl | rfl | rfl | rfl | rfl <;> first | rfl | exact snCL s | exact dskFL s | exact worsL s
    intro m hm
    have hRs := vecF_succ m (wrR s p)
    have hRl : (vecF m (wrR s p)).length = m := vecF_len _ _
    have hRP : m = L0 + 1 → AV.sl false (vecF m (wrR s p)) = wrP s (L0 + 1) p := fun h => by rw [h]; rfl
    have hRe : m = L0 + 1 → (vecF m (wrR s p)).isEmpty = false := fun h => by
      cases hh : vecF m (wrR s p) with
      | nil => rw [hh] at hRl; simp at hRl; omega
      | cons _ _ => rfl
    generalize vecF m (wrR s p) = R at hRs hRl hRP hRe
    conv => whnf
    by_cases hlt2 : m < L0 + 1
    · have hrow : List.take (((allN s : Nat) : Int) + 1 - 0).toNat (List.drop (Int.toNat 0) (List.drop ((m : Int).toNat * 16) (List.drop ((p : Int).toNat * 976) (wTab s)))) = ints (vecF (allN s + 1) fun l => worthZ s ⟨p, m, l⟩) := by
        have h := wTab_row ok (p := p) (m := m) (by omega) (by omega)
        rw [zvs_ints] at h
        rw [← h, List.drop_drop, List.drop_drop]
        congr 2 <;> omega
      have hcl := clone_zi (vecF (allN s + 1) fun l => worthZ s ⟨p, m, l⟩) (by rw [vecF_len]; omega)
      have hwl : (wTab s).length = 4880 := zvs_len _ _
      repeat' first | ((with_reducible first | apply XBr.tt | apply XBr.ff | apply Chk.go | apply ChkA.go | apply ChkF.go | apply ChkB.go | apply XArr.pim0 | apply XArr.pim1); conv => whnf) | (with_reducible apply XBr.not) | ((with_reducible apply XBr.dec) <;> (intro h; first | (exfalso; omega) | ((try simp only [List.length_map] at h); first | (exfalso; omega) | (conv => whnf)))) | ((with_reducible first | apply XBr.beq | apply XBr.bne) <;> (intro h; first | (exfalso; omega) | (conv => whnf))) | ((with_reducible refine XInt.i64 (by omega) (by omega) ?_); conv => whnf) | ((with_reducible refine XHold.mk ?_ ?_); (first | omega | rfl | decide | exact ⟨rfl, by decide, rfl⟩ | exact wideI _ | exact widePr _ | exact wideSk _ | (unfold Room; constructor <;> ((try simp) <;> omega)) | exact ⟨rfl, by simp only [List.length_map], by unfold Room; constructor <;> ((try simp) <;> omega)⟩ | exact ⟨by omega, by omega, by unfold Room; constructor <;> ((try simp) <;> omega)⟩); conv => whnf) | ((first | ((with_reducible refine XIx.nat ?_ ?_ ?_); omega; (intro _; rfl)) | ((with_reducible refine XIx.map ?_ ?_ ?_ ?_); omega; omega; (intro _; rfl))); conv => whnf) | (with_reducible apply XAnd.mk) | (exact XSame.mk rfl rfl) | (exact XSame.mk (by first | rfl | (simp only [List.map_append, List.length_append, List.length_map]; done) | (simp only [List.map_append, List.length_append, List.length_map]; rfl)) (by first | rfl | (simp only [List.map_append]; done) | (simp only [List.map_append]; rfl))) | (with_reducible exact trivial) | ((first | (with_reducible refine xdrop_app (by rw [List.length_map]; omega) ?_) | (with_reducible refine XDrop.desk (by assumption) ?_) | (with_reducible first | refine XArr.ints (by omega) (by omega) (by omega) ?_ | refine XArr.intsA (by omega) (by omega) (by omega) ?_) | ((with_reducible first | refine XArr.nats ?_ ?_ ?_ | refine XArr.natsA ?_ ?_ ?_ | refine XArr.ptr ?_ ?_ ?_); omega; omega) | (with_reducible apply XNext.mk)); conv => whnf) | ((with_reducible apply XBr.mk') <;> (intro h; conv => whnf))
      apply Walk.drawX tab_ok mixed_ok [] [18, 20] (hsC [_, _, _]) [_, _, _, _, _, _, _, _, _, _, _, _, _, _, _, _, _, _, _, _, _] (by kernel_rfl) rfl
      · skip
        repeat' first | ((with_reducible first | apply XBr.tt | apply XBr.ff | apply Chk.go | apply ChkA.go | apply ChkF.go | apply ChkB.go | apply XArr.pim0 | apply XArr.pim1); conv => whnf) | (with_reducible apply XBr.not) | ((with_reducible apply XBr.dec) <;> (intro h; first | (exfalso; omega) | ((try simp only [List.length_map] at h); first | (exfalso; omega) | (conv => whnf)))) | ((with_reducible first | apply XBr.beq | apply XBr.bne) <;> (intro h; first | (exfalso; omega) | (conv => whnf))) | ((with_reducible refine XInt.i64 (by omega) (by omega) ?_); conv => whnf) | ((with_reducible refine XHold.mk ?_ ?_); (first | omega | rfl | decide | exact ⟨rfl, by decide, rfl⟩ | exact wideI _ | exact widePr _ | exact wideSk _ | (unfold Room; constructor <;> ((try simp) <;> omega)) | exact ⟨rfl, by simp only [List.length_map], by unfold Room; constructor <;> ((try simp) <;> omega)⟩ | exact ⟨by omega, by omega, by unfold Room; constructor <;> ((try simp) <;> omega)⟩); conv => whnf) | ((first | ((with_reducible refine XIx.nat ?_ ?_ ?_); omega; (intro _; rfl)) | ((with_reducible refine XIx.map ?_ ?_ ?_ ?_); omega; omega; (intro _; rfl))); conv => whnf) | (with_reducible apply XAnd.mk) | (exact XSame.mk rfl rfl) | (exact XSame.mk (by first | rfl | (simp only [List.map_append, List.length_append, List.length_map]; done) | (simp only [List.map_append, List.length_append, List.length_map]; rfl)) (by first | rfl | (simp only [List.map_append]; done) | (simp only [List.map_append]; rfl))) | (with_reducible exact trivial) | ((first | (with_reducible refine xdrop_app (by rw [List.length_map]; omega) ?_) | (with_reducible refine XDrop.desk (by assumption) ?_) | (with_reducible first | refine XArr.ints (by omega) (by omega) (by omega) ?_ | refine XArr.intsA (by omega) (by omega) (by omega) ?_) | ((with_reducible first | refine XArr.nats ?_ ?_ ?_ | refine XArr.natsA ?_ ?_ ?_ | refine XArr.ptr ?_ ?_ ?_); omega; omega)); conv => whnf) | (apply Walk.drawN (id := 12) tab_ok mixed_ok [] [18, 20] (hsC [_, _, _]) [_, _, _, _, _, _, _, _, _, _, _, _, _, _, _, _, _, _, _, _, _] (by kernel_rfl) rfl) | ((first | (with_reducible apply XNext.mk) | (refine XGet.set rfl hlt' hlen.symm ?_) | (refine XArr.pim (by omega) (by omega) ?_) | (refine XCall.ret hac ?_) | ((refine XHold.mk ⟨?_, by omega, by omega, by omega⟩ ?_); (simp only [List.length_drop, hwl]; omega)) | (refine XHold.mk ⟨hsl _, rfl, by omega, by omega⟩ ?_) | ((refine XCall.as (congrArg (fun l => [AV.sl false l]) hrow.symm) ?_); (refine XCall.ret hcl ?_))); conv => whnf) | ((refine XHold.mk ⟨rfl, hRl, by unfold Room; constructor <;> ((try simp) <;> omega)⟩ ?_); conv => whnf) | ((refine XPut.set rfl hlt' hlen.symm ?_); conv => whnf) | ((with_reducible apply XBr.mk') <;> (intro h; conv => whnf))
      · skip
        repeat' first | ((with_reducible first | apply XBr.tt | apply XBr.ff | apply Chk.go | apply ChkA.go | apply ChkF.go | apply ChkB.go | apply XArr.pim0 | apply XArr.pim1); conv => whnf) | (with_reducible apply XBr.not) | ((with_reducible apply XBr.dec) <;> (intro h; first | (exfalso; omega) | ((try simp only [List.length_map] at h); first | (exfalso; omega) | (conv => whnf)))) | ((with_reducible first | apply XBr.beq | apply XBr.bne) <;> (intro h; first | (exfalso; omega) | (conv => whnf))) | ((with_reducible refine XInt.i64 (by omega) (by omega) ?_); conv => whnf) | ((with_reducible refine XHold.mk ?_ ?_); (first | omega | rfl | decide | exact ⟨rfl, by decide, rfl⟩ | exact wideI _ | exact widePr _ | exact wideSk _ | (unfold Room; constructor <;> ((try simp) <;> omega)) | exact ⟨rfl, by simp only [List.length_map], by unfold Room; constructor <;> ((try simp) <;> omega)⟩ | exact ⟨by omega, by omega, by unfold Room; constructor <;> ((try simp) <;> omega)⟩); conv => whnf) | ((first | ((with_reducible refine XIx.nat ?_ ?_ ?_); omega; (intro _; rfl)) | ((with_reducible refine XIx.map ?_ ?_ ?_ ?_); omega; omega; (intro _; rfl))); conv => whnf) | (with_reducible apply XAnd.mk) | (exact XSame.mk rfl rfl) | (exact XSame.mk (by first | rfl | (simp only [List.map_append, List.length_append, List.length_map]; done) | (simp only [List.map_append, List.length_append, List.length_map]; rfl)) (by first | rfl | (simp only [List.map_append]; done) | (simp only [List.map_append]; rfl))) | (with_reducible exact trivial) | ((first | (with_reducible refine xdrop_app (by rw [List.length_map]; omega) ?_) | (with_reducible refine XDrop.desk (by assumption) ?_) | (with_reducible first | refine XArr.ints (by omega) (by omega) (by omega) ?_ | refine XArr.intsA (by omega) (by omega) (by omega) ?_) | ((with_reducible first | refine XArr.nats ?_ ?_ ?_ | refine XArr.natsA ?_ ?_ ?_ | refine XArr.ptr ?_ ?_ ?_); omega; omega)); conv => whnf) | (apply Walk.drawN (id := 12) tab_ok mixed_ok [] [18, 20] (hsC [_, _, _]) [_, _, _, _, _, _, _, _, _, _, _, _, _, _, _, _, _, _, _, _, _] (by kernel_rfl) rfl) | ((first | (with_reducible apply XNext.mk) | (refine XGet.set rfl hlt' hlen.symm ?_) | (refine XArr.pim (by omega) (by omega) ?_) | (refine XCall.ret hac ?_) | ((refine XHold.mk ⟨?_, by omega, by omega, by omega⟩ ?_); (simp only [List.length_drop, hwl]; omega)) | (refine XHold.mk ⟨hsl _, rfl, by omega, by omega⟩ ?_) | ((refine XCall.as (congrArg (fun l => [AV.sl false l]) hrow.symm) ?_); (refine XCall.ret hcl ?_))); conv => whnf) | ((refine XHold.mk ⟨rfl, hRl, by unfold Room; constructor <;> ((try simp) <;> omega)⟩ ?_); conv => whnf) | ((refine XPut.set rfl hlt' hlen.symm ?_); conv => whnf) | ((with_reducible apply XBr.mk') <;> (intro h; conv => whnf))
      conv => whnf
      repeat' first | ((with_reducible first | apply XBr.tt | apply XBr.ff | apply Chk.go | apply ChkA.go | apply ChkF.go | apply ChkB.go | apply XArr.pim0 | apply XArr.pim1); conv => whnf) | (with_reducible apply XBr.not) | ((with_reducible apply XBr.dec) <;> (intro h; first | (exfalso; omega) | ((try simp only [List.length_map] at h); first | (exfalso; omega) | (conv => whnf)))) | ((with_reducible first | apply XBr.beq | apply XBr.bne) <;> (intro h; first | (exfalso; omega) | (conv => whnf))) | ((with_reducible refine XInt.i64 (by omega) (by omega) ?_); conv => whnf) | ((with_reducible refine XHold.mk ?_ ?_); (first | omega | rfl | decide | exact ⟨rfl, by decide, rfl⟩ | exact wideI _ | exact widePr _ | exact wideSk _ | (unfold Room; constructor <;> ((try simp) <;> omega)) | exact ⟨rfl, by simp only [List.length_map], by unfold Room; constructor <;> ((try simp) <;> omega)⟩ | exact ⟨by omega, by omega, by unfold Room; constructor <;> ((try simp) <;> omega)⟩); conv => whnf) | ((first | ((with_reducible refine XIx.nat ?_ ?_ ?_); omega; (intro _; rfl)) | ((with_reducible refine XIx.map ?_ ?_ ?_ ?_); omega; omega; (intro _; rfl))); conv => whnf) | (with_reducible apply XAnd.mk) | (exact XSame.mk rfl rfl) | (exact XSame.mk (by first | rfl | (simp only [List.map_append, List.length_append, List.length_map]; done) | (simp only [List.map_append, List.length_append, List.length_map]; rfl)) (by first | rfl | (simp only [List.map_append]; done) | (simp only [List.map_append]; rfl))) | (with_reducible exact trivial) | ((first | (with_reducible refine xdrop_app (by rw [List.length_map]; omega) ?_) | (with_reducible refine XDrop.desk (by assumption) ?_) | (with_reducible first | refine XArr.ints (by omega) (by omega) (by omega) ?_ | refine XArr.intsA (by omega) (by omega) (by omega) ?_) | ((with_reducible first | refine XArr.nats ?_ ?_ ?_ | refine XArr.natsA ?_ ?_ ?_ | refine XArr.ptr ?_ ?_ ?_); omega; omega)); conv => whnf) | (apply Walk.drawN (id := 12) tab_ok mixed_ok [] [18, 20] (hsC [_, _, _]) [_, _, _, _, _, _, _, _, _, _, _, _, _, _, _, _, _, _, _, _, _] (by kernel_rfl) rfl) | ((with_reducible apply XNext.mk); conv => whnf) | ((with_reducible apply XBr.mk') <;> (intro h; conv => whnf))
      refine XAgainG.go (m + 1) [] (by omega) (by omega) ?_ ⟨rfl, rfl, rfl, rfl, rfl, rfl, rfl, rfl, rfl, rfl, rfl, trivial⟩
      show [Blk.grow _ false (els.set p (.gr 1 (m + 1))), Blk.grow _ (vecF (m + 1) (wrR s p)).isEmpty (vecF (m + 1) (wrR s p))] ++ [] = _
      rw [hRs, isEmpty_app]; rfl
    obtain rfl : m = L0 + 1 := by omega
    repeat' first | ((with_reducible first | apply XBr.tt | apply XBr.ff | apply Chk.go | apply ChkA.go | apply ChkF.go | apply ChkB.go | apply XArr.pim0 | apply XArr.pim1); conv => whnf) | (with_reducible apply XBr.not) | ((with_reducible apply XBr.dec) <;> (intro h; first | (exfalso; omega) | ((try simp only [List.length_map] at h); first | (exfalso; omega) | (conv => whnf)))) | ((with_reducible first | apply XBr.beq | apply XBr.bne) <;> (intro h; first | (exfalso; omega) | (conv => whnf))) | ((with_reducible refine XInt.i64 (by omega) (by omega) ?_); conv => whnf) | ((with_reducible refine XHold.mk ?_ ?_); (first | omega | rfl | decide | exact ⟨rfl, by decide, rfl⟩ | exact wideI _ | exact widePr _ | exact wideSk _ | (unfold Room; constructor <;> ((try simp) <;> omega)) | exact ⟨rfl, by simp only [List.length_map], by unfold Room; constructor <;> ((try simp) <;> omega)⟩ | exact ⟨by omega, by omega, by unfold Room; constructor <;> ((try simp) <;> omega)⟩); conv => whnf) | ((first | ((with_reducible refine XIx.nat ?_ ?_ ?_); omega; (intro _; rfl)) | ((with_reducible refine XIx.map ?_ ?_ ?_ ?_); omega; omega; (intro _; rfl))); conv => whnf) | (with_reducible apply XAnd.mk) | (exact XSame.mk rfl rfl) | (exact XSame.mk (by first | rfl | (simp only [List.map_append, List.length_append, List.length_map]; done) | (simp only [List.map_append, List.length_append, List.length_map]; rfl)) (by first | rfl | (simp only [List.map_append]; done) | (simp only [List.map_append]; rfl))) | (with_reducible exact trivial) | ((first | (with_reducible refine xdrop_app (by rw [List.length_map]; omega) ?_) | (with_reducible refine XDrop.desk (by assumption) ?_) | (with_reducible first | refine XArr.ints (by omega) (by omega) (by omega) ?_ | refine XArr.intsA (by omega) (by omega) (by omega) ?_) | ((with_reducible first | refine XArr.nats ?_ ?_ ?_ | refine XArr.natsA ?_ ?_ ?_ | refine XArr.ptr ?_ ?_ ?_); omega; omega)); conv => whnf) | (apply Walk.drawN (id := 12) tab_ok mixed_ok [] [18, 20] (hsC [_, _, _]) [_, _, _, _, _, _, _, _, _, _, _, _, _, _, _, _, _, _, _, _, _] (by kernel_rfl) rfl) | ((with_reducible apply XNext.mk); conv => whnf) | ((with_reducible apply XBr.mk') <;> (intro h; conv => whnf))
    refine XDo.freezeRow 0 p 1 (L0 + 1) rfl ?_ ?_ rfl (by decide) hRl (XDo.run ?_)
    · intro z hz
      rcases List.mem_or_eq_of_mem_set hz with hz | rfl
      · exact hone z hz
      · rfl
    · exact List.getElem?_set_self hlt'
    conv => whnf
    repeat' first | ((with_reducible first | apply XBr.tt | apply XBr.ff | apply Chk.go | apply ChkA.go | apply ChkF.go | apply ChkB.go | apply XArr.pim0 | apply XArr.pim1); conv => whnf) | (with_reducible apply XBr.not) | ((with_reducible apply XBr.dec) <;> (intro h; first | (exfalso; omega) | ((try simp only [List.length_map] at h); first | (exfalso; omega) | (conv => whnf)))) | ((with_reducible first | apply XBr.beq | apply XBr.bne) <;> (intro h; first | (exfalso; omega) | (conv => whnf))) | ((with_reducible refine XInt.i64 (by omega) (by omega) ?_); conv => whnf) | ((with_reducible refine XHold.mk ?_ ?_); (first | omega | rfl | decide | exact ⟨rfl, by decide, rfl⟩ | exact wideI _ | exact widePr _ | exact wideSk _ | (unfold Room; constructor <;> ((try simp) <;> omega)) | exact ⟨rfl, by simp only [List.length_map], by unfold Room; constructor <;> ((try simp) <;> omega)⟩ | exact ⟨by omega, by omega, by unfold Room; constructor <;> ((try simp) <;> omega)⟩); conv => whnf) | ((first | ((with_reducible refine XIx.nat ?_ ?_ ?_); omega; (intro _; rfl)) | ((with_reducible refine XIx.map ?_ ?_ ?_ ?_); omega; omega; (intro _; rfl))); conv => whnf) | (with_reducible apply XAnd.mk) | (exact XSame.mk rfl rfl) | (exact XSame.mk (by first | rfl | (simp only [List.map_append, List.length_append, List.length_map]; done) | (simp only [List.map_append, List.length_append, List.length_map]; rfl)) (by first | rfl | (simp only [List.map_append]; done) | (simp only [List.map_append]; rfl))) | (with_reducible exact trivial) | ((first | (with_reducible refine xdrop_app (by rw [List.length_map]; omega) ?_) | (with_reducible refine XDrop.desk (by assumption) ?_) | (with_reducible first | refine XArr.ints (by omega) (by omega) (by omega) ?_ | refine XArr.intsA (by omega) (by omega) (by omega) ?_) | ((with_reducible first | refine XArr.nats ?_ ?_ ?_ | refine XArr.natsA ?_ ?_ ?_ | refine XArr.ptr ?_ ?_ ?_); omega; omega)); conv => whnf) | (apply Walk.drawN (id := 12) tab_ok mixed_ok [] [18, 20] (hsC [_, _, _]) [_, _, _, _, _, _, _, _, _, _, _, _, _, _, _, _, _, _, _, _, _] (by kernel_rfl) rfl) | ((with_reducible apply XNext.mk); conv => whnf) | ((with_reducible apply XBr.mk') <;> (intro h; conv => whnf))
    refine XAgainG.go (p + 1) [.dead] (by omega) (by omega) ?_ ⟨rfl, rfl, rfl, rfl, rfl, rfl, rfl, rfl, trivial⟩
    show [Blk.grow _ false (vecF P0 (wrE s (L0 + 1) (p + 1)))] ++ [Blk.dead] = [Blk.grow _ false ((els.set p _).set p (.sl R.isEmpty R)), .dead]
    rw [List.set_set, hRe rfl, hRP rfl, hnx hlt]; rfl
  obtain rfl : p = P0 := by omega
  obtain rfl := hall rfl
  repeat' first | ((with_reducible first | apply XBr.tt | apply XBr.ff | apply Chk.go | apply ChkA.go | apply ChkF.go | apply ChkB.go | apply XArr.pim0 | apply XArr.pim1); conv => whnf) | (with_reducible apply XBr.not) | ((with_reducible apply XBr.dec) <;> (intro h; first | (exfalso; omega) | ((try simp only [List.length_map] at h); first | (exfalso; omega) | (conv => whnf)))) | ((with_reducible first | apply XBr.beq | apply XBr.bne) <;> (intro h; first | (exfalso; omega) | (conv => whnf))) | ((with_reducible refine XInt.i64 (by omega) (by omega) ?_); conv => whnf) | ((with_reducible refine XHold.mk ?_ ?_); (first | omega | rfl | decide | exact ⟨rfl, by decide, rfl⟩ | exact wideI _ | exact widePr _ | exact wideSk _ | (unfold Room; constructor <;> ((try simp) <;> omega)) | exact ⟨rfl, by simp only [List.length_map], by unfold Room; constructor <;> ((try simp) <;> omega)⟩ | exact ⟨by omega, by omega, by unfold Room; constructor <;> ((try simp) <;> omega)⟩); conv => whnf) | ((first | ((with_reducible refine XIx.nat ?_ ?_ ?_); omega; (intro _; rfl)) | ((with_reducible refine XIx.map ?_ ?_ ?_ ?_); omega; omega; (intro _; rfl))); conv => whnf) | (with_reducible apply XAnd.mk) | (exact XSame.mk rfl rfl) | (exact XSame.mk (by first | rfl | (simp only [List.map_append, List.length_append, List.length_map]; done) | (simp only [List.map_append, List.length_append, List.length_map]; rfl)) (by first | rfl | (simp only [List.map_append]; done) | (simp only [List.map_append]; rfl))) | (with_reducible exact trivial) | ((first | (with_reducible refine xdrop_app (by rw [List.length_map]; omega) ?_) | (with_reducible refine XDrop.desk (by assumption) ?_) | (with_reducible first | refine XArr.ints (by omega) (by omega) (by omega) ?_ | refine XArr.intsA (by omega) (by omega) (by omega) ?_) | ((with_reducible first | refine XArr.nats ?_ ?_ ?_ | refine XArr.natsA ?_ ?_ ?_ | refine XArr.ptr ?_ ?_ ?_); omega; omega)); conv => whnf) | (apply Walk.drawN (id := 12) tab_ok mixed_ok [] [18, 20] (hsC [_, _, _]) [_, _, _, _, _, _, _, _, _, _, _, _, _, _, _, _, _, _, _, _, _] (by kernel_rfl) rfl) | ((with_reducible apply XNext.mk); conv => whnf) | ((with_reducible apply XBr.mk') <;> (intro h; conv => whnf))
  exact ⟨Froz.tup (.cons (Froz.grow rfl hlen hel) (.cons (.low rfl) .nil))⟩
end GA
end

section
namespace GA
open Go Go.RowKit Go.Proofs
set_option pp.deepTerms true
set_option maxRecDepth 8000
set_option linter.unusedVariables false
set_option linter.unusedSimpArgs false

def orK (A : List Sta) : Nat → Nat
  | 0 => 0
  | i + 1 => orK A i ||| (A.getD i default).l
structure AftOk (s : Sn) (x : Sta) (t : Int × Int) (A : List Sta) : Prop where
  h : ∀ i, i < A.length → (A.getD i default).p = t.1.toNat ∧ (A.getD i default).m = (x.m + t.2).toNat ∧ (A.getD i default).l ≠ 0 ∧ (A.getD i default).l ≤ allN s ∧ lowB (A.getD i default).l < s.looks.length
  dry : ∀ i, i < A.length → iandn .i64 ((A.getD i default).l : Int) (drN s t.1.toNat (x.m + t.2).toNat : Int) = 0
  dis : ∀ i, i < A.length → orK A i &&& (A.getD i default).l = 0
  lk : ∀ i, 0 < i → i < A.length → lookZ s (lowB (A.getD (i - 1) default).l) t.1.toNat < lookZ s (lowB (A.getD i default).l) t.1.toNat
  all : orK A A.length = x.l
  le : ∀ i, i ≤ A.length → orK A i ≤ allN s
theorem all_sub {s : Sn} {a : Nat} (h : a ≤ allN s) : ∀ i, a.testBit i = true → i < s.truths.length := fun i hi => by
  have h1 : a < 2 ^ s.truths.length := by
    have : 1 ≤ 2 ^ s.truths.length := Nat.one_le_two_pow
    have e : allN s = 2 ^ s.truths.length - 1 := rfl
    omega
  refine Classical.byContradiction fun hn => ?_
  rw [Nat.testBit_lt_two_pow (Nat.lt_of_lt_of_le h1 (Nat.pow_le_pow_right (by omega) (Nat.le_of_not_lt hn)))] at hi
  cases hi
end GA
end

section
namespace GA
open Go Go.RowKit Go.Proofs
set_option pp.deepTerms true
set_option maxRecDepth 8000
set_option linter.unusedVariables false
set_option linter.unusedSimpArgs false

def drT (s : Sn) (p : Nat) (t : Tru) : Tru := (false, (t.2.map ownP).set p (false, [((0 : Int), s.last)]))
def drS (s : Sn) (i p : Nat) : Sn := { ownS s with truths := (s.truths.map ownT).set i (drT s p (s.truths.getD i default)) }
theorem drS_len (s : Sn) (i p : Nat) : (drS s i p).truths.length = s.truths.length := by
  show ((s.truths.map ownT).set i _).length = _
  rw [List.length_set, List.length_map]
theorem dryT_own (s : Sn) (j q m : Nat) : dryT (ownS s) j q m = dryT s j q m := ((own_eq s).dry j q m).symm
theorem dryT_dr {s : Sn} (ok : SnOk s) {i p : Nat} (hi : i < s.truths.length) (hp : (p : Int) < s.places) (j q m : Nat) : dryT (drS s i p) j q m = if j = i ∧ q = p then inZ m 0 s.last else dryT s j q m := by
  have hl := ok.tl _ (getD_mem (d := default) hi)
  rw [← dryT_own s j q m]
  unfold dryT
  show ((((s.truths.map ownT).set i (drT s p (s.truths.getD i default))).getD j default).2.getD q default).2.any _ = _
  by_cases hj : j = i
  · subst hj
    have e : ((s.truths.map ownT).set j (drT s p (s.truths.getD j default))).getD j default = drT s p (s.truths.getD j default) := by
      rw [List.getD_eq_getElem?_getD, List.getElem?_set_self (by rw [List.length_map]; exact hi)]; rfl
    rw [e]
    show ((((s.truths.getD j default).2.map ownP).set p (false, [((0 : Int), s.last)])).getD q default).2.any _ = _
    by_cases hq : q = p
    · subst hq
      rw [if_pos ⟨rfl, rfl⟩, List.getD_eq_getElem?_getD, List.getElem?_set_self (by rw [List.length_map]; omega)]
      show (inZ m 0 s.last || false) = _
      rw [Bool.or_false]
    · rw [if_neg (fun h => hq h.2), List.getD_eq_getElem?_getD, List.getElem?_set_ne (Ne.symm hq)]
      have e2 : (ownS s).truths.getD j default = ownT (s.truths.getD j default) := by
        show (s.truths.map ownT).getD j default = _
        rw [List.getD_eq_getElem?_getD, List.getD_eq_getElem?_getD, List.getElem?_map, List.getElem?_eq_getElem hi]; rfl
      rw [e2, ← List.getD_eq_getElem?_getD]; rfl
  · have e : ((s.truths.map ownT).set i (drT s p (s.truths.getD i default))).getD j default = (s.truths.map ownT).getD j default := by
      rw [List.getD_eq_getElem?_getD, List.getElem?_set_ne (Ne.symm hj), ← List.getD_eq_getElem?_getD]
    rw [if_neg (fun h => hj h.1), e]; rfl
theorem inZ_nat {m : Nat} {a : Int} (h : (m : Int) ≤ a) : inZ (m : Int) 0 a = true := inZ_iff.2 ⟨by omega, h⟩
theorem dr_ok {s : Sn} (ok : SnOk s) {i p : Nat} (hi : i < s.truths.length) (hp : (p : Int) < s.places) : SnOk (drS s i p) := by
  have o := ownOk ok
  have hl := ok.tl _ (getD_mem (d := default) hi)
  have hm : ∀ t ∈ (drS s i p).truths, t ∈ (ownS s).truths ∨ t = drT s p (s.truths.getD i default) := fun t ht => List.mem_or_eq_of_mem_set (show t ∈ (s.truths.map ownT).set i _ from ht)
  have e := drS_len s i p
  refine ⟨o.p1, o.p2, by rw [e]; exact ok.t1, by rw [e]; exact ok.t2, o.w1, by rw [e]; show (s.looks.map ownR).length = _; rw [List.length_map]; exact ok.k1, o.kl, fun t ht => ?_, o.l1, o.l2, o.wm, o.kn, o.h1, o.b1, o.wp, o.hb, o.wa, fun t ht r hr => ?_⟩
  · rcases hm t ht with h | rfl
    · exact o.tl t h
    · show (((s.truths.getD i default).2.map ownP).set p _).length = s.places
      rw [List.length_set, List.length_map]; exact hl
  · rcases hm t ht with h | rfl
    · exact o.sp t h r hr
    · rcases List.mem_or_eq_of_mem_set (show r ∈ ((s.truths.getD i default).2.map ownP).set p _ from hr) with h | rfl
      · obtain ⟨r0, h1, rfl⟩ := List.mem_map.1 h
        exact ok.sp _ (getD_mem hi) r0 h1
      · have l1 := ok.l1
        show (if (inZ 0 0 s.last && inZ s.last 0 s.last) = false then (3 : Int) else if spBad none 0 = true then 4 else 0) = 0
        rw [inZ_iff.2 ⟨by omega, by omega⟩, inZ_iff.2 ⟨by omega, by omega⟩]; rfl
theorem dr_B {s : Sn} (hb : SnB s) (i p : Nat) : SnB (drS s i p) := by
  have o := ownB hb
  have hm : ∀ t ∈ (drS s i p).truths, t ∈ (ownS s).truths ∨ t = drT s p (s.truths.getD i default) := fun t ht => List.mem_or_eq_of_mem_set (show t ∈ (s.truths.map ownT).set i _ from ht)
  refine ⟨o.w, o.k, by rw [drS_len]; exact hb.t, o.kl, fun t ht => ?_, fun t ht r hr => ?_⟩
  · rcases hm t ht with h | rfl
    · exact o.tl t h
    · show (((s.truths.getD i default).2.map ownP).set p _).length ≤ 1000
      rw [List.length_set, List.length_map]
      by_cases hi : i < s.truths.length
      · exact hb.tl _ (getD_mem hi)
      · rw [List.getD_eq_getElem?_getD, List.getElem?_eq_none (by omega)]; show ([] : List Sps).length ≤ 1000; decide
  · rcases hm t ht with h | rfl
    · exact o.sl t h r hr
    · rcases List.mem_or_eq_of_mem_set (show r ∈ ((s.truths.getD i default).2.map ownP).set p _ from hr) with h | rfl
      · obtain ⟨r0, h1, rfl⟩ := List.mem_map.1 h
        by_cases hi : i < s.truths.length
        · exact hb.sl _ (getD_mem hi) r0 h1
        · rw [List.getD_eq_getElem?_getD, List.getElem?_eq_none (by omega)] at h1
          exact absurd h1 (by show r0 ∉ ([] : List Sps); simp)
      · show (1 : Nat) ≤ 1000
        decide
theorem dry_last {s : Sn} (ok : SnOk s) : ∀ {l : List (Int × Int)} {pv : Option Int}, spE s.last pv l = 0 → ∀ x ∈ l, x.2 ≤ s.last
  | [], _, _, x, hx => by simp at hx
  | y :: l, pv, h, x, hx => by
    rw [spE] at h
    split at h; · cases h
    split at h; · cases h
    rename_i h1 _
    rw [Bool.not_eq_false, Bool.and_eq_true, inZ_iff, inZ_iff] at h1
    rcases List.mem_cons.1 hx with rfl | hx
    · exact h1.2.2
    · exact dry_last ok h x hx
theorem dryT_last {s : Sn} (ok : SnOk s) {i p m : Nat} (hi : i < s.truths.length) (hp : (p : Int) < s.places) (h : dryT s i p m = true) : (m : Int) ≤ s.last := by
  have hl := ok.tl _ (getD_mem (d := default) hi)
  unfold dryT at h
  obtain ⟨x, hx, hz⟩ := List.any_eq_true.1 h
  rw [inZ_iff] at hz
  have := dry_last ok (ok.sp _ (getD_mem (d := default) hi) _ (getD_mem (d := default) (i := p) (by omega))) x hx
  omega
theorem dr_wider {s : Sn} (ok : SnOk s) {i p : Nat} (hi : i < s.truths.length) (hp : (p : Int) < s.places) : Wider s (drS s i p) := by
  refine ⟨rfl, rfl, rfl, rfl, rfl, (drS_len s i p).symm, fun j q m h => ?_, fun j k q hj hk h => ?_⟩
  · rw [dryT_dr ok hi hp]
    by_cases hc : j = i ∧ q = p
    · rw [if_pos hc]
      obtain ⟨rfl, rfl⟩ := hc
      exact inZ_nat (dryT_last ok hi hp h)
    · rw [if_neg hc]; exact h
  · have e : ∀ j, lookZ (drS s i p) j q = lookZ s j q := fun j => ((own_eq s).look j q).symm
    rw [e, e] at h; exact h
theorem dr_same {s : Sn} (ok : SnOk s) {i p : Nat} (hi : i < s.truths.length) (hp : (p : Int) < s.places) {q m l : Nat} (hv : vld s ⟨q, m, l⟩) (hl : l.testBit i = false) : worthZ (drS s i p) ⟨q, m, l⟩ = worthZ s ⟨q, m, l⟩ := by
  have okd := dr_ok ok hi hp
  by_cases h0 : l = 0
  · subst h0
    have z : ∀ u : Sn, SnOk u → (m : Int) ≤ u.last → worthZ u ⟨q, m, 0⟩ = -1 := fun u oku hm => by
      rw [worthZ_eq oku hm]
      unfold bestZ
      rw [if_neg]
      unfold safeB
      simp
    rw [z _ okd hv.2.1, z _ ok hv.2.1]
  refine Int.le_antisymm ?_ ?_
  · have E : Emb (drS s i p) s id id fun j => j < s.truths.length ∧ j ≠ i := by
      refine ⟨rfl, fun _ h => h, fun _ h => h, fun _ h => h, fun r t hr ht => ?_, fun j hj => ⟨by rw [drS_len]; exact hj.1, hj.1⟩, fun j r k hj h => ?_, fun j k r hj hk h => ?_⟩
      · have hw := waysL_pos okd ht
        show (((t.1.toNat : Nat) : Int), t.2) ∈ waysL s r
        rw [Int.toNat_of_nonneg hw.2.2.1, (dr_wider ok hi hp).waysL]; exact ht
      · rw [dryT_dr ok hi hp, if_neg (fun hc => hj.2 hc.1)] at h; exact h
      · have e : ∀ j, lookZ (drS s i p) j r = lookZ s j r := fun j => ((own_eq s).look j r).symm
        rw [e, e]; exact h
    exact worth_mono okd ok E _ q m l l (Nat.le_refl _) hv.2.1 hv.1 h0 (fun j hj => ⟨all_sub hv.2.2 j hj, fun e => by rw [e, hl] at hj; cases hj⟩) fun j hj => ⟨j, hj, rfl⟩
  · exact (dr_wider ok hi hp).worth ok okd hv.2.1 hv.1 h0 (fun j hj => all_sub hv.2.2 j hj) fun j hj => hj
theorem dr_ge {s : Sn} (ok : SnOk s) {i p : Nat} (hi : i < s.truths.length) (hp : (p : Int) < s.places) {q m l : Nat} (hv : vld s ⟨q, m, l⟩) : worthZ s ⟨q, m, l⟩ ≤ worthZ (drS s i p) ⟨q, m, l⟩ := by
  by_cases h0 : l = 0
  · subst h0
    exact Int.le_of_eq (dr_same ok hi hp hv (Nat.zero_testBit i)).symm
  · exact (dr_wider ok hi hp).worth ok (dr_ok ok hi hp) hv.2.1 hv.1 h0 (fun j hj => all_sub hv.2.2 j hj) fun j hj => hj
end GA
end

section
namespace GA
open Go Go.RowKit Go.Proofs
set_option pp.deepTerms true
set_option maxRecDepth 8000
set_option linter.unusedVariables false
set_option linter.unusedSimpArgs false

theorem froz_tru {H : List Blk} {i n : Nat} {els : List AV} {ds : List (List Sps)} (hb : lget H i = some (.grow 37 false els)) (hn : els.length = n) (hl : ds.length = els.length) (h1 : ∀ x ∈ els, x.one = true) (hf : FrozL Try.prog H els (ds.map fun d => .sl false (d.map spsA))) : Froz Try.prog H (.gr i n) (.sl false (ds.map fun d => .agg [.sl false (d.map spsA)])) := by
  have h2 : ∀ x ∈ ds.map (fun d => AV.sl false (d.map spsA)), x.one = true := fun x hx => by obtain ⟨d, -, rfl⟩ := List.mem_map.1 hx; rfl
  have hfl : flat (ds.map fun d => AV.agg [.sl false (d.map spsA)]) = ds.map fun d => AV.sl false (d.map spsA) := by
    rw [← flat_one h2]
    unfold flat
    rw [List.flatMap_map, List.flatMap_map]; rfl
  refine Froz.gr (els := els) (nl := false) hb hn (by rw [List.length_map]; exact hl) (fun e he => ?_) (fun e he => ?_) (by rw [hfl, flat_one h1]; exact hf)
  · obtain ⟨d, -, rfl⟩ := List.mem_map.1 he
    show 1 = sz Try.prog 37
    kernel_rfl
  · rw [hfl] at he; exact h2 e he
theorem XCall.ownD1 {s : Sn} {t0 : Tru} {H : List Blk} {k : AV → List Blk → Prop} (hb : SnB s) (hl : s.truths = [t0]) (hk : k (.agg [.int .i64 s.places, .int .i64 s.home, .int .i64 s.bed, .int .i64 s.last, .sl false (s.ways.map wyA), .sl false ((s.looks.map ownR).map rwA), .gr H.length 1]) (H ++ [.grow 37 false [.gr (H.length + 1) t0.2.length], .grow 34 false ((t0.2.map ownP).map spsA)])) : XCall Try.prog 9 [snA s] H k := by
  have e : s = { s with truths := [t0] } := by cases s; cases hl; kernel_rfl
  have hb2 : SnB { s with truths := [t0] } := e ▸ hb
  have h := XCall.give (k := k) (H := H) (ownD1_g s t0 hb2) (by
    simp only [List.map_cons, List.map_nil, renSps, AV.ren, renL, renL_low0 (lowWy _), renL_low0 (lowRk _)]; exact hk)
  exact e ▸ h
theorem drU1_0 {s : Sn} {t0 : Tru} (p : Nat) (hl : s.truths = [t0]) : snA (drS s 0 p) = .agg [.int .i64 s.places, .int .i64 s.home, .int .i64 s.bed, .int .i64 s.last, .sl false (s.ways.map wyA), .sl false ((s.looks.map ownR).map rwA), .sl false [.agg [.sl false (((t0.2.map ownP).set p (false, [((0 : Int), s.last)])).map spsA)]]] := by cases s; cases hl; kernel_rfl
theorem XCall.ownD2 {s : Sn} {t0 t1 : Tru} {H : List Blk} {k : AV → List Blk → Prop} (hb : SnB s) (hl : s.truths = [t0, t1]) (hk : k (.agg [.int .i64 s.places, .int .i64 s.home, .int .i64 s.bed, .int .i64 s.last, .sl false (s.ways.map wyA), .sl false ((s.looks.map ownR).map rwA), .gr H.length 2]) (H ++ [.grow 37 false [.gr (H.length + 1) t0.2.length, .gr (H.length + 2) t1.2.length], .grow 34 false ((t0.2.map ownP).map spsA), .grow 34 false ((t1.2.map ownP).map spsA)])) : XCall Try.prog 9 [snA s] H k := by
  have e : s = { s with truths := [t0, t1] } := by cases s; cases hl; kernel_rfl
  have hb2 : SnB { s with truths := [t0, t1] } := e ▸ hb
  have h := XCall.give (k := k) (H := H) (ownD2_g s t0 t1 hb2) (by
    simp only [List.map_cons, List.map_nil, renSps, AV.ren, renL, renL_low0 (lowWy _), renL_low0 (lowRk _)]; exact hk)
  exact e ▸ h
theorem drU2_0 {s : Sn} {t0 t1 : Tru} (p : Nat) (hl : s.truths = [t0, t1]) : snA (drS s 0 p) = .agg [.int .i64 s.places, .int .i64 s.home, .int .i64 s.bed, .int .i64 s.last, .sl false (s.ways.map wyA), .sl false ((s.looks.map ownR).map rwA), .sl false [.agg [.sl false (((t0.2.map ownP).set p (false, [((0 : Int), s.last)])).map spsA)], .agg [.sl false ((t1.2.map ownP).map spsA)]]] := by cases s; cases hl; kernel_rfl
theorem drU2_1 {s : Sn} {t0 t1 : Tru} (p : Nat) (hl : s.truths = [t0, t1]) : snA (drS s 1 p) = .agg [.int .i64 s.places, .int .i64 s.home, .int .i64 s.bed, .int .i64 s.last, .sl false (s.ways.map wyA), .sl false ((s.looks.map ownR).map rwA), .sl false [.agg [.sl false ((t0.2.map ownP).map spsA)], .agg [.sl false (((t1.2.map ownP).set p (false, [((0 : Int), s.last)])).map spsA)]]] := by cases s; cases hl; kernel_rfl
theorem XCall.ownD3 {s : Sn} {t0 t1 t2 : Tru} {H : List Blk} {k : AV → List Blk → Prop} (hb : SnB s) (hl : s.truths = [t0, t1, t2]) (hk : k (.agg [.int .i64 s.places, .int .i64 s.home, .int .i64 s.bed, .int .i64 s.last, .sl false (s.ways.map wyA), .sl false ((s.looks.map ownR).map rwA), .gr H.length 3]) (H ++ [.grow 37 false [.gr (H.length + 1) t0.2.length, .gr (H.length + 2) t1.2.length, .gr (H.length + 3) t2.2.length], .grow 34 false ((t0.2.map ownP).map spsA), .grow 34 false ((t1.2.map ownP).map spsA), .grow 34 false ((t2.2.map ownP).map spsA)])) : XCall Try.prog 9 [snA s] H k := by
  have e : s = { s with truths := [t0, t1, t2] } := by cases s; cases hl; kernel_rfl
  have hb2 : SnB { s with truths := [t0, t1, t2] } := e ▸ hb
  have h := XCall.give (k := k) (H := H) (ownD3_g s t0 t1 t2 hb2) (by
    simp only [List.map_cons, List.map_nil, renSps, AV.ren, renL, renL_low0 (lowWy _), renL_low0 (lowRk _)]; exact hk)
  exact e ▸ h
theorem drU3_0 {s : Sn} {t0 t1 t2 : Tru} (p : Nat) (hl : s.truths = [t0, t1, t2]) : snA (drS s 0 p) = .agg [.int .i64 s.places, .int .i64 s.home, .int .i64 s.bed, .int .i64 s.last, .sl false (s.ways.map wyA), .sl false ((s.looks.map ownR).map rwA), .sl false [.agg [.sl false (((t0.2.map ownP).set p (false, [((0 : Int), s.last)])).map spsA)], .agg [.sl false ((t1.2.map ownP).map spsA)], .agg [.sl false ((t2.2.map ownP).map spsA)]]] := by cases s; cases hl; kernel_rfl
theorem drU3_1 {s : Sn} {t0 t1 t2 : Tru} (p : Nat) (hl : s.truths = [t0, t1, t2]) : snA (drS s 1 p) = .agg [.int .i64 s.places, .int .i64 s.home, .int .i64 s.bed, .int .i64 s.last, .sl false (s.ways.map wyA), .sl false ((s.looks.map ownR).map rwA), .sl false [.agg [.sl false ((t0.2.map ownP).map spsA)], .agg [.sl false (((t1.2.map ownP).set p (false, [((0 : Int), s.last)])).map spsA)], .agg [.sl false ((t2.2.map ownP).map spsA)]]] := by cases s; cases hl; kernel_rfl
theorem drU3_2 {s : Sn} {t0 t1 t2 : Tru} (p : Nat) (hl : s.truths = [t0, t1, t2]) : snA (drS s 2 p) = .agg [.int .i64 s.places, .int .i64 s.home, .int .i64 s.bed, .int .i64 s.last, .sl false (s.ways.map wyA), .sl false ((s.looks.map ownR).map rwA), .sl false [.agg [.sl false ((t0.2.map ownP).map spsA)], .agg [.sl false ((t1.2.map ownP).map spsA)], .agg [.sl false (((t2.2.map ownP).set p (false, [((0 : Int), s.last)])).map spsA)]]] := by cases s; cases hl; kernel_rfl
theorem XCall.ownD4 {s : Sn} {t0 t1 t2 t3 : Tru} {H : List Blk} {k : AV → List Blk → Prop} (hb : SnB s) (hl : s.truths = [t0, t1, t2, t3]) (hk : k (.agg [.int .i64 s.places, .int .i64 s.home, .int .i64 s.bed, .int .i64 s.last, .sl false (s.ways.map wyA), .sl false ((s.looks.map ownR).map rwA), .gr H.length 4]) (H ++ [.grow 37 false [.gr (H.length + 1) t0.2.length, .gr (H.length + 2) t1.2.length, .gr (H.length + 3) t2.2.length, .gr (H.length + 4) t3.2.length], .grow 34 false ((t0.2.map ownP).map spsA), .grow 34 false ((t1.2.map ownP).map spsA), .grow 34 false ((t2.2.map ownP).map spsA), .grow 34 false ((t3.2.map ownP).map spsA)])) : XCall Try.prog 9 [snA s] H k := by
  have e : s = { s with truths := [t0, t1, t2, t3] } := by cases s; cases hl; kernel_rfl
  have hb2 : SnB { s with truths := [t0, t1, t2, t3] } := e ▸ hb
  have h := XCall.give (k := k) (H := H) (ownD4_g s t0 t1 t2 t3 hb2) (by
    simp only [List.map_cons, List.map_nil, renSps, AV.ren, renL, renL_low0 (lowWy _), renL_low0 (lowRk _)]; exact hk)
  exact e ▸ h
theorem drU4_0 {s : Sn} {t0 t1 t2 t3 : Tru} (p : Nat) (hl : s.truths = [t0, t1, t2, t3]) : snA (drS s 0 p) = .agg [.int .i64 s.places, .int .i64 s.home, .int .i64 s.bed, .int .i64 s.last, .sl false (s.ways.map wyA), .sl false ((s.looks.map ownR).map rwA), .sl false [.agg [.sl false (((t0.2.map ownP).set p (false, [((0 : Int), s.last)])).map spsA)], .agg [.sl false ((t1.2.map ownP).map spsA)], .agg [.sl false ((t2.2.map ownP).map spsA)], .agg [.sl false ((t3.2.map ownP).map spsA)]]] := by cases s; cases hl; kernel_rfl
theorem drU4_1 {s : Sn} {t0 t1 t2 t3 : Tru} (p : Nat) (hl : s.truths = [t0, t1, t2, t3]) : snA (drS s 1 p) = .agg [.int .i64 s.places, .int .i64 s.home, .int .i64 s.bed, .int .i64 s.last, .sl false (s.ways.map wyA), .sl false ((s.looks.map ownR).map rwA), .sl false [.agg [.sl false ((t0.2.map ownP).map spsA)], .agg [.sl false (((t1.2.map ownP).set p (false, [((0 : Int), s.last)])).map spsA)], .agg [.sl false ((t2.2.map ownP).map spsA)], .agg [.sl false ((t3.2.map ownP).map spsA)]]] := by cases s; cases hl; kernel_rfl
theorem drU4_2 {s : Sn} {t0 t1 t2 t3 : Tru} (p : Nat) (hl : s.truths = [t0, t1, t2, t3]) : snA (drS s 2 p) = .agg [.int .i64 s.places, .int .i64 s.home, .int .i64 s.bed, .int .i64 s.last, .sl false (s.ways.map wyA), .sl false ((s.looks.map ownR).map rwA), .sl false [.agg [.sl false ((t0.2.map ownP).map spsA)], .agg [.sl false ((t1.2.map ownP).map spsA)], .agg [.sl false (((t2.2.map ownP).set p (false, [((0 : Int), s.last)])).map spsA)], .agg [.sl false ((t3.2.map ownP).map spsA)]]] := by cases s; cases hl; kernel_rfl
theorem drU4_3 {s : Sn} {t0 t1 t2 t3 : Tru} (p : Nat) (hl : s.truths = [t0, t1, t2, t3]) : snA (drS s 3 p) = .agg [.int .i64 s.places, .int .i64 s.home, .int .i64 s.bed, .int .i64 s.last, .sl false (s.ways.map wyA), .sl false ((s.looks.map ownR).map rwA), .sl false [.agg [.sl false ((t0.2.map ownP).map spsA)], .agg [.sl false ((t1.2.map ownP).map spsA)], .agg [.sl false ((t2.2.map ownP).map spsA)], .agg [.sl false (((t3.2.map ownP).set p (false, [((0 : Int), s.last)])).map spsA)]]] := by cases s; cases hl; kernel_rfl
end GA
end

section
namespace GA
open Go Go.RowKit Go.Proofs
set_option maxRecDepth 8000
set_option linter.unusedVariables false
set_option linter.unusedSimpArgs false

theorem turn_is {s : Sn} (ok : SnOk s) (l : Nat) : (turnN s l = -1 ∧ ∀ m : Nat, (m : Int) ≤ s.last → worthZ s ⟨s.bed.toNat, m, l⟩ = -1) ∨ ∃ n : Nat, turnN s l = n ∧ (n : Int) ≤ s.last ∧ worthZ s ⟨s.bed.toNat, n, l⟩ ≠ -1 ∧ ∀ m : Nat, n < m → (m : Int) ≤ s.last → worthZ s ⟨s.bed.toNat, m, l⟩ = -1 := by
  have l1 := ok.l1
  have hb : ∀ b, turnB s l b = false → worthZ s ⟨s.bed.toNat, s.last.toNat - b, l⟩ = -1 := fun b h => by
    unfold turnB at h
    rw [bne_eq_false_iff_eq] at h; exact h
  cases h : (List.range (s.last.toNat + 1)).find? (turnB s l) with
  | none =>
    left
    refine ⟨by unfold turnN; rw [h], fun m hm => ?_⟩
    have h1 := List.find?_eq_none.1 h (s.last.toNat - m) (List.mem_range.2 (by omega))
    have h2 := hb _ (by simpa using h1)
    rwa [show s.last.toNat - (s.last.toNat - m) = m by omega] at h2
  | some b =>
    right
    obtain ⟨h1, h2, h3⟩ := List.find?_range_eq_some.1 h
    rw [List.mem_range] at h2
    refine ⟨s.last.toNat - b, by unfold turnN; rw [h]; show s.last - (b : Int) = _; omega, by omega, ?_, fun m hm1 hm2 => ?_⟩
    · unfold turnB at h1
      rw [bne_iff_ne] at h1; exact h1
    · have h4 := hb _ (by simpa using h3 (s.last.toNat - m) (by omega))
      rwa [show s.last.toNat - (s.last.toNat - m) = m by omega] at h4
theorem turn_dr {s : Sn} (ok : SnOk s) {i p l n : Nat} (hi : i < s.truths.length) (hp : (p : Int) < s.places) (hl : l ≤ allN s) (h : turnN s l = n) : ∃ k : Nat, turnN (drS s i p) l = k ∧ n ≤ k := by
  have b1 := ok.b1
  rcases turn_is ok l with ⟨h1, -⟩ | ⟨n', h1, h2, h3, -⟩
  · omega
  · obtain rfl : n' = n := by omega
    have hg := dr_ge ok hi hp (q := s.bed.toNat) (m := n') (l := l) ⟨by show ((s.bed.toNat : Nat) : Int) < s.places; omega, h2, hl⟩
    have hge := worthZ_ge s ⟨s.bed.toNat, n', l⟩
    rcases turn_is (dr_ok ok hi hp) l with ⟨-, k2⟩ | ⟨k, k1, -, -, k4⟩
    · have := k2 n' h2
      have e : worthZ (drS s i p) ⟨s.bed.toNat, n', l⟩ = -1 := this
      omega
    · refine ⟨k, k1, Classical.byContradiction fun hn => ?_⟩
      have e : worthZ (drS s i p) ⟨s.bed.toNat, n', l⟩ = -1 := k4 n' (by omega) h2
      omega
end GA
end

section
namespace GA
open Go Go.RowKit Go.Proofs
set_option pp.deepTerms true
set_option maxRecDepth 8000
set_option linter.unusedVariables false
set_option linter.unusedSimpArgs false

structure DrG where
  i : Nat
  T : List (Int × Int)
  p : Nat
  m : Nat
  w : Nat
  a : Nat
  q : Hp
structure DrOk (s : Sn) (N : Int) (g : DrG) : Prop where
  i : (g.i : Int) ≤ N
  q : g.q.Ok
  f : fixS s s.home.toNat 0 (drN s s.home.toNat 0) 0 g.T = some (g.p, g.m, g.a, g.w)
  p : (g.p : Int) < s.places
  m : (g.m : Int) ≤ s.last
  l : g.T.length ≤ g.i
  t : ∀ t ∈ g.T, 1 ≤ t.2 ∧ t.2 ≤ 20
  w : g.w ≤ g.i
  a : g.a < 16
end GA
end

section
namespace GA
open Go Go.RowKit
set_option linter.unusedVariables false
section
variable {P : Program} {N : Nat} {ρ : Option Nat} {H : List Blk} {σ : St} {D : List Nat} {Q : Post}
def keepQN (P : Program) (Q : Post) : Post
  | .normal, D, σ, H => XKeepE P σ H (Q .normal D)
  | e, D, σ, H => Q e D σ H
theorem Walk.thenKeepN {c : Code} (x : Walk P N ρ c (keepQN P Q) D σ H) : Walk P N ρ c Q D σ H := by
  constructor
  intro E h β a w s
  refine wpIn_mono (x.o E h β a w s) fun e a' w' hc => ?_
  obtain ⟨D', σ', H', h', β', q, X, s'⟩ := hc
  cases e with
  | normal =>
    obtain ⟨H1, l, L, rfl, hlow, hs, q⟩ := q.o
    obtain ⟨h'', X1, s1⟩ := keep_stands H1 l L hlow hs s'
    exact ⟨D', _, _, h'', β', q, X.trans X1, s1⟩
  | _ => exact ⟨D', σ', H', h', β', q, X, s'⟩
end
end GA
end

section
namespace GA
open Go Go.RowKit Go.Proofs
set_option pp.deepTerms true
set_option maxRecDepth 8000
set_option linter.unusedVariables false
set_option linter.unusedSimpArgs false

def dropC : Nat → Code → Code
  | n + 1, .seq _ b => dropC n b
  | _, c => c
def bodyC : Option Code → Code
  | some c => c
  | none => .skip
structure WrF (s : Sn) (T : List Rs) : Prop where
  l : (T.length : Int) = s.places
  r : ∀ q : Nat, (q : Int) < s.places → (((T.getD q default).2.map rwA).length : Int) = s.last + 1
  c : ∀ q m : Nat, (q : Int) < s.places → (m : Int) ≤ s.last → ((ints ((T.getD q default).2.getD m default).2).length : Int) = (allN s : Int) + 1
  v : ∀ q m l : Nat, (q : Int) < s.places → (m : Int) ≤ s.last → l ≤ allN s → (((T.getD q default).2.getD m default).2).getD l default = worthZ s ⟨q, m, l⟩
theorem wr_F {s : Sn} (ok : SnOk s) : WrF s (wrT s) := by
  have p1 := ok.p1; have l1 := ok.l1
  refine ⟨by unfold wrT; rw [mkT_len]; omega, fun q hq => ?_, fun q m hq hm => ?_, fun q m l hq hm hl => wrT_at ok (y := ⟨q, m, l⟩) ⟨hq, hm, hl⟩⟩
  · unfold wrT
    rw [mkT_p (by omega), List.length_map]
    show ((vecF _ _).length : Int) = _
    rw [vecF_len]; omega
  · unfold wrT
    rw [mkT_m (by omega) (by omega), ints_len]
    show ((vecF _ _).length : Int) = _
    rw [vecF_len]; omega
set_option maxHeartbeats 8000000 in
theorem drierRest (s : Sn) (hb : SnB s) (ok : SnOk s) (i p d : Nat) (w3 : Int) (hil : i < s.truths.length) (hpl : (p : Int) < s.places) (hw3 : 0 ≤ w3 ∧ w3 ≤ 255) :
    XRun Try.prog tab 304 none [] (dropC 5 (bodyC Try.f3.body)) (XFn Try.prog tab [.tmp 8] (.bool true)) [] (stX [(3, .int .u8 w3), (9, .pim (snC s)), (11, natA i), (12, .pim (snC (drS s i p)))]) (List.replicate d .dead) := by
  /-
  refine Comp.body (T := tab) (res := [.tmp 8]) tab_ok [] Try.func3 rfl (by kernel_rfl) Try.ntmps3 rfl (by simp only [List.length_cons, List.length_nil]; decide) (by rfl) ?_; conv => whnf
  -/
  have h1 := ok.h1; have b1 := ok.b1; have p2 := ok.p2; have l1 := ok.l1; have l2 := ok.l2; have t1 := ok.t1; have t2 := ok.t2; have k1 := ok.k1
  have hMs := fMade_ok s hb ok
  have hMu := fMade_ok (drS s i p) (dr_B hb i p) (dr_ok ok hil hpl)
  have hTF := wr_F ok
  have hUF := wr_F (dr_ok ok hil hpl)
  have hdl := drS_len s i p
  have e3 : ((s.truths.map trA).length : Int) = s.truths.length := by rw [List.length_map]
  generalize wrT s = T at hMs hTF
  generalize wrT (drS s i p) = U at hMu hUF
  conv => whnf
  have hdeg := fun (q m l : Nat) (hq : (q : Int) < s.places) (hm : (m : Int) ≤ s.last) (hl : l ≤ allN s) => dr_ge ok hil hpl (q := q) (m := m) (l := l) ⟨hq, hm, hl⟩
  have hdes := fun (q m l : Nat) (hq : (q : Int) < s.places) (hm : (m : Int) ≤ s.last) (hl : l ≤ allN s) => dr_same ok hil hpl (q := q) (m := m) (l := l) ⟨hq, hm, hl⟩
  have hda : allN (drS s i p) = allN s := by unfold allN; rw [drS_len]
  have hpw : 2 ^ s.truths.length ≤ 2 ^ 4 := Nat.pow_le_pow_right (by omega) ok.t2
  have hpw1 : 2 ^ 1 ≤ 2 ^ s.truths.length := Nat.pow_le_pow_right (by omega) ok.t1
  have hall : allN s = 2 ^ s.truths.length - 1 := rfl
  obtain ⟨N2, hN2⟩ : ∃ N2 : Nat, N2 = 2 ^ s.truths.length := ⟨_, rfl⟩
  rw [← hN2] at hpw hpw1 hall
  have eT : (((T.map rsT).length : Nat) : Int) = s.places := by rw [List.length_map]; exact hTF.l
  have eU : (((U.map rsT).length : Nat) : Int) = s.places := by rw [List.length_map]; exact hUF.l
  have hTl := hTF.l
  have hUl : (U.length : Int) = s.places := hUF.l
  obtain ⟨P0, hP0⟩ : ∃ P0 : Nat, s.places = P0 := ⟨s.places.toNat, by omega⟩
  obtain ⟨M0, hM0⟩ : ∃ M0 : Nat, s.last + 1 = M0 := ⟨(s.last + 1).toNat, by omega⟩
  repeat' first | ((first | (refine XCall.ret hMs ?_) | (refine XCall.ret hMu ?_)); conv => whnf) | fail
  refine Walk.norm tab_ok [] [(3, _), (9, _), (11, _), (12, _), (13, _), (14, _), (15, _), (16, _)] ⟨rfl, rfl, rfl, rfl, rfl, rfl, rfl, rfl, trivial⟩ ?_
  conv => whnf
  repeat' first | ((with_reducible apply XBr.ff); conv => whnf) | ((with_reducible apply XBr.bne) <;> (intro h; first | (exfalso; omega) | (conv => whnf))) | fail
  refine Walk.loopK tab_ok [] [(3, _), (9, _), (11, _), (12, _), (13, _), (15, _), (84, _)] ⟨rfl, rfl, rfl, rfl, rfl, rfl, rfl, trivial⟩ (fun q : Nat => q ≤ P0) (fun q => [(85, natA q)]) (fun _ => List.replicate d .dead) (fun q => P0 - q) 0 (Nat.zero_le _) rfl ⟨rfl, trivial⟩ ?_
  intro q hq
  conv => whnf
  by_cases hql : q < P0
  · have rT := hTF.r q (by omega)
    have rU : (((U.getD q default).2.map rwA).length : Int) = s.last + 1 := hUF.r q (by show (q : Int) < s.places; omega)
    have rT2 : ((T.getD q default).2.length : Int) = s.last + 1 := by rw [List.length_map] at rT; exact rT
    have rU2 : ((U.getD q default).2.length : Int) = s.last + 1 := by rw [List.length_map] at rU; exact rU
    repeat' first | ((with_reducible apply XBr.dec) <;> (intro h; first | (exfalso; omega) | ((try simp only [List.length_map] at h); first | (exfalso; omega) | (conv => whnf)))) | ((with_reducible apply XBr.bne) <;> (intro h; first | (exfalso; omega) | (conv => whnf))) | ((first | (with_reducible refine XInt.i64 (by omega) (by omega) ?_) | ((with_reducible refine XIx.nat ?_ ?_ ?_); omega; (intro _; rfl))); conv => whnf) | (with_reducible apply XAnd.mk) | ((first | (with_reducible apply Chk.go) | (with_reducible apply ChkA.go) | (with_reducible apply ChkF.go) | (with_reducible apply ChkB.go)); conv => whnf) | (exact XSame.mk rfl rfl) | (with_reducible exact trivial) | (apply Walk.drawN (id := 12) tab_ok mixed_ok [] [] (hsU _) [_, _, _, _, _, _, _, _, _, _, _, _, _, _, _, _, _, _, _, _] (by kernel_rfl) rfl) | ((with_reducible apply XNext.mk); conv => whnf) | fail
    refine Walk.loopK tab_ok [] [(3, _), (9, _), (11, _), (12, _), (13, _), (15, _), (17, _), (84, _), (85, _), (112, _)] ⟨rfl, rfl, rfl, rfl, rfl, rfl, rfl, rfl, rfl, rfl, trivial⟩ (fun m : Nat => m ≤ M0) (fun m => [(113, natA m)]) (fun _ => List.replicate d .dead) (fun m => M0 - m) 0 (Nat.zero_le _) rfl ⟨rfl, trivial⟩ ?_
    intro m hm
    conv => whnf
    by_cases hml : m < M0
    · have cT := hTF.c q m (by omega) (by omega)
      have cU : ((ints ((U.getD q default).2.getD m default).2).length : Int) = (allN s : Int) + 1 := by rw [← hda]; exact hUF.c q m (by show (q : Int) < s.places; omega) (by show (m : Int) ≤ s.last; omega)
      have cT2 : ((((T.getD q default).2.getD m default).2).length : Int) = (allN s : Int) + 1 := by rw [ints_len] at cT; exact cT
      have cU2 : ((((U.getD q default).2.getD m default).2).length : Int) = (allN s : Int) + 1 := by rw [ints_len] at cU; exact cU
      repeat' first | ((with_reducible apply XBr.dec) <;> (intro h; first | (exfalso; omega) | ((try simp only [List.length_map] at h); first | (exfalso; omega) | (conv => whnf)))) | ((with_reducible apply XBr.bne) <;> (intro h; first | (exfalso; omega) | (conv => whnf))) | ((with_reducible refine XHold.mk ?_ ?_); (first | omega | rfl | decide | exact ⟨rfl, by decide, rfl⟩ | exact wideI _ | exact widePr _ | exact wideSk _ | (unfold Room; constructor <;> ((try simp) <;> omega)) | exact ⟨rfl, by simp only [List.length_map], by unfold Room; constructor <;> ((try simp) <;> omega)⟩ | exact ⟨by omega, by omega, by unfold Room; constructor <;> ((try simp) <;> omega)⟩); conv => whnf) | (((with_reducible refine XIx.nat ?_ ?_ ?_); omega; (intro _; rfl)); conv => whnf) | (with_reducible apply XAnd.mk) | ((first | (with_reducible apply Chk.go) | (with_reducible apply ChkA.go) | (with_reducible apply ChkF.go) | (with_reducible apply ChkB.go)); conv => whnf) | (exact XSame.mk rfl rfl) | (with_reducible exact trivial) | (apply Walk.drawN (id := 17) tab_ok mixed_ok [] [] (hsU _) [_, _, _, _, _, _, _, _, _, _, _, _, _, _, _, _, _, _, _, _, _, _, _, _, _, _, _, _, _, _, _, _] (by kernel_rfl) rfl) | ((first | (with_reducible apply XNext.mk) | (refine XInt.shlL hN2 (by omega) ?_)); conv => whnf) | fail
      refine Walk.loopK tab_ok [] [(3, _), (9, _), (11, _), (12, _), (13, _), (15, _), (17, _), (18, _), (84, _), (85, _), (112, _), (113, _), (154, _), (155, _)] ⟨rfl, rfl, rfl, rfl, rfl, rfl, rfl, rfl, rfl, rfl, rfl, rfl, rfl, rfl, trivial⟩ (fun l : Nat => l ≤ N2) (fun l => [(156, natA l)]) (fun _ => List.replicate d .dead) (fun l => N2 - l) 0 (Nat.zero_le _) rfl ⟨rfl, trivial⟩ ?_
      intro l hl
      conv => whnf
      by_cases hll : l < N2
      · have vT := hTF.v q m l (by omega) (by omega) (by omega)
        have vU := hUF.v q m l (by show (q : Int) < s.places; omega) (by show (m : Int) ≤ s.last; omega) (by omega)
        have vg := hdeg q m l (by omega) (by omega) (by omega)
        have vs := hdes q m l (by omega) (by omega) (by omega)
        rw [← vT, ← vU] at vg vs
        have hbs := bit_sh (l := l) (i := i) (by omega) (by omega)
        repeat' first | ((with_reducible apply XBr.dec) <;> (intro h; first | (exfalso; omega) | ((try simp only [List.length_map] at h); first | (exfalso; omega) | (conv => whnf)))) | (((with_reducible refine XIx.nat ?_ ?_ ?_); omega; (intro _; rfl)); conv => whnf) | fail
        refine Walk.norm tab_ok [] [(3, _), (9, _), (11, _), (12, _), (13, _), (15, _), (17, _), (18, _), (19, _), (20, _), (84, _), (85, _), (112, _), (113, _), (154, _), (155, _), (156, _)] ⟨rfl, rfl, rfl, rfl, rfl, rfl, rfl, rfl, rfl, rfl, rfl, rfl, rfl, rfl, rfl, rfl, rfl, trivial⟩ ?_
        conv => whnf
        cases hbt : l.testBit i with
        | false =>
          have vs := vs hbt
          rw [hbt, if_neg (by simp)] at hbs
          repeat' first | ((first | (with_reducible apply XBr.tt) | (with_reducible apply XBr.ff)); conv => whnf) | ((with_reducible apply XBr.dec) <;> (intro h; first | (exfalso; omega) | ((try simp only [List.length_map] at h); first | (exfalso; omega) | (conv => whnf)))) | ((with_reducible apply XBr.beq) <;> (intro h; first | (exfalso; omega) | (conv => whnf))) | ((with_reducible apply XBr.bne) <;> (intro h; first | (exfalso; omega) | (conv => whnf))) | ((with_reducible refine XInt.i64 (by omega) (by omega) ?_); conv => whnf) | ((with_reducible refine XHold.mk ?_ ?_); (first | omega | rfl | decide | exact ⟨rfl, by decide, rfl⟩ | exact wideI _ | exact widePr _ | exact wideSk _ | (unfold Room; constructor <;> ((try simp) <;> omega)) | exact ⟨rfl, by simp only [List.length_map], by unfold Room; constructor <;> ((try simp) <;> omega)⟩ | exact ⟨by omega, by omega, by unfold Room; constructor <;> ((try simp) <;> omega)⟩); conv => whnf) | (((with_reducible refine XIx.nat ?_ ?_ ?_); omega; (intro _; rfl)); conv => whnf) | (rw [hbs]; conv => whnf) | fail
          all_goals first | exact XAgain.go (l + 1) (by omega) (by omega) rfl ⟨rfl, rfl, rfl, rfl, rfl, rfl, rfl, rfl, rfl, rfl, rfl, rfl, rfl, rfl, rfl, trivial⟩ | (exfalso; omega) | (exfalso; exact h hbs) | (exfalso; exact absurd (hbs.symm.trans h) (by decide))
        | true =>
          rw [hbt, if_pos rfl] at hbs
          repeat' first | ((with_reducible apply XBr.ff); conv => whnf) | ((with_reducible apply XBr.dec) <;> (intro h; first | (exfalso; omega) | ((try simp only [List.length_map] at h); first | (exfalso; omega) | (conv => whnf)))) | ((with_reducible apply XBr.beq) <;> (intro h; first | (exfalso; omega) | (conv => whnf))) | ((with_reducible refine XInt.i64 (by omega) (by omega) ?_); conv => whnf) | ((with_reducible refine XHold.mk ?_ ?_); (first | omega | rfl | decide | exact ⟨rfl, by decide, rfl⟩ | exact wideI _ | exact widePr _ | exact wideSk _ | (unfold Room; constructor <;> ((try simp) <;> omega)) | exact ⟨rfl, by simp only [List.length_map], by unfold Room; constructor <;> ((try simp) <;> omega)⟩ | exact ⟨by omega, by omega, by unfold Room; constructor <;> ((try simp) <;> omega)⟩); conv => whnf) | (((with_reducible refine XIx.nat ?_ ?_ ?_); omega; (intro _; rfl)); conv => whnf) | (rw [hbs]; conv => whnf) | fail
          all_goals first | exact XAgain.go (l + 1) (by omega) (by omega) rfl ⟨rfl, rfl, rfl, rfl, rfl, rfl, rfl, rfl, rfl, rfl, rfl, rfl, rfl, rfl, rfl, trivial⟩ | (exfalso; omega) | (exfalso; exact h hbs) | (exfalso; exact absurd (hbs.symm.trans h) (by decide))
      repeat' first | ((with_reducible apply XBr.dec) <;> (intro h; first | (exfalso; omega) | ((try simp only [List.length_map] at h); first | (exfalso; omega) | (conv => whnf)))) | ((with_reducible refine XInt.i64 (by omega) (by omega) ?_); conv => whnf) | fail
      exact XAgain.go (m + 1) (by omega) (by omega) rfl ⟨rfl, rfl, rfl, rfl, rfl, rfl, rfl, rfl, rfl, rfl, rfl, trivial⟩
    repeat' first | ((with_reducible apply XBr.dec) <;> (intro h; first | (exfalso; omega) | ((try simp only [List.length_map] at h); first | (exfalso; omega) | (conv => whnf)))) | ((with_reducible refine XInt.i64 (by omega) (by omega) ?_); conv => whnf) | fail
    exact XAgain.go (q + 1) (by omega) (by omega) rfl ⟨rfl, rfl, rfl, rfl, rfl, rfl, rfl, rfl, trivial⟩
  have hr1 := Int.tmod_nonneg ((N2 : Int) - 1) hw3.1
  have hr2 := Int.tmod_lt_of_pos w3 (show 0 < (N2 : Int) - 1 by omega)
  obtain ⟨lf, hlf⟩ : ∃ lf : Nat, 1 + w3.tmod ((N2 : Int) - 1) = lf := ⟨(1 + w3.tmod ((N2 : Int) - 1)).toNat, by omega⟩
  have hTs := fTurn_ok s hb lf ok (by omega) (by omega)
  have hTu := fTurn_ok (drS s i p) (dr_B hb i p) lf (dr_ok ok hil hpl) (by omega) (by rw [hda]; omega)
  rcases turn_is ok lf with ⟨k1, -⟩ | ⟨n, k1, k2, k3, k4⟩
  · rw [k1, if_pos rfl, if_pos rfl] at hTs
    obtain ⟨uv, ue, hTu, hue⟩ : ∃ uv ue : Int, Comp Try.prog 11 [snA (drS s i p), natA lf] (.tup [.int .i64 uv, .int .i64 ue]) ∧ (ue = 0 ∨ ue = 6) := by
      by_cases hu : turnN (drS s i p) lf = -1
      · rw [if_pos hu, if_pos hu] at hTu; exact ⟨_, _, hTu, .inr rfl⟩
      · rw [if_neg hu, if_neg hu] at hTu; exact ⟨_, _, hTu, .inl rfl⟩
    repeat' first | ((with_reducible apply XBr.dec) <;> (intro h; first | (exfalso; omega) | ((try simp only [List.length_map] at h); first | (exfalso; omega) | (conv => whnf)))) | ((with_reducible refine XInt.i64 (by omega) (by omega) ?_); conv => whnf) | ((with_reducible refine XHold.mk ?_ ?_); (first | omega | rfl | decide | exact ⟨rfl, by decide, rfl⟩ | exact wideI _ | exact widePr _ | exact wideSk _ | (unfold Room; constructor <;> ((try simp) <;> omega)) | exact ⟨rfl, by simp only [List.length_map], by unfold Room; constructor <;> ((try simp) <;> omega)⟩ | exact ⟨by omega, by omega, by unfold Room; constructor <;> ((try simp) <;> omega)⟩); conv => whnf) | ((refine XInt.shlL hN2 (by omega) ?_); conv => whnf) | (rw [hlf]; conv => whnf) | ((first | (refine XCall.ret hTs ?_) | (refine XCall.ret hTu ?_)); conv => whnf) | fail
    refine Walk.norm tab_ok [] [(9, _), (13, _), (14, _), (16, _), (21, _), (22, _), (23, _)] ⟨rfl, rfl, rfl, rfl, rfl, rfl, rfl, trivial⟩ ?_
    conv => whnf
    repeat' first | ((first | (with_reducible apply XBr.tt) | (with_reducible apply XBr.ff)); conv => whnf) | ((with_reducible apply XBr.beq) <;> (intro h; first | (exfalso; omega) | (conv => whnf))) | ((with_reducible apply XBr.bne) <;> (intro h; first | (exfalso; omega) | (conv => whnf))) | fail
    all_goals
      refine Walk.norm tab_ok [] [(9, _), (13, _), (14, _), (21, _), (22, _)] ⟨rfl, rfl, rfl, rfl, rfl, trivial⟩ ?_
      conv => whnf
      repeat' first | ((first | (with_reducible apply XBr.tt) | (with_reducible apply XBr.ff)); conv => whnf) | ((with_reducible apply XBr.beq) <;> (intro h; first | (exfalso; omega) | (conv => whnf))) | ((with_reducible apply XBr.bne) <;> (intro h; first | (exfalso; omega) | (conv => whnf))) | ((with_reducible refine XInt.i64 (by omega) (by omega) ?_); conv => whnf) | fail
      refine Walk.loopK tab_ok [] [(9, _), (13, _), (14, _), (21, _)] ⟨rfl, rfl, rfl, rfl, trivial⟩ (fun _ : Unit => True) (fun _ => []) (fun _ => List.replicate d .dead) (fun _ => 0) () trivial rfl trivial ?_
      intro _ _
      conv => whnf
      repeat' first | ((with_reducible apply XBr.ff); conv => whnf) | ((with_reducible apply XBr.beq) <;> (intro h; first | (exfalso; omega) | (conv => whnf))) | ((refine XCall.ret awake02_c ?_); conv => whnf) | fail
      exact XOut.bool rfl
  · obtain ⟨kk, e1, e2⟩ := turn_dr ok hil hpl (l := lf) (n := n) (by omega) k1
    rw [k1, if_neg (by omega), if_neg (by omega)] at hTs
    rw [e1, if_neg (by omega), if_neg (by omega)] at hTu
    have rB := hTF.r s.bed.toNat (by omega)
    have rB2 : ((T.getD s.bed.toNat default).2.length : Int) = s.last + 1 := by rw [List.length_map] at rB; exact rB
    have cB := fun (m : Nat) (hm : (m : Int) ≤ s.last) => hTF.c s.bed.toNat m (by omega) hm
    have vB := fun (m : Nat) (hm : (m : Int) ≤ s.last) => hTF.v s.bed.toNat m lf (by omega) hm (by omega)
    have cn := cB n k2
    have cn2 : ((((T.getD s.bed.toNat default).2.getD n default).2).length : Int) = (allN s : Int) + 1 := by rw [ints_len] at cn; exact cn
    have vn := vB n k2
    repeat' first | ((with_reducible apply XBr.dec) <;> (intro h; first | (exfalso; omega) | ((try simp only [List.length_map] at h); first | (exfalso; omega) | (conv => whnf)))) | ((with_reducible refine XInt.i64 (by omega) (by omega) ?_); conv => whnf) | ((with_reducible refine XHold.mk ?_ ?_); (first | omega | rfl | decide | exact ⟨rfl, by decide, rfl⟩ | exact wideI _ | exact widePr _ | exact wideSk _ | (unfold Room; constructor <;> ((try simp) <;> omega)) | exact ⟨rfl, by simp only [List.length_map], by unfold Room; constructor <;> ((try simp) <;> omega)⟩ | exact ⟨by omega, by omega, by unfold Room; constructor <;> ((try simp) <;> omega)⟩); conv => whnf) | ((refine XInt.shlL hN2 (by omega) ?_); conv => whnf) | (rw [hlf]; conv => whnf) | ((first | (refine XCall.ret hTs ?_) | (refine XCall.ret hTu ?_)); conv => whnf) | fail
    refine Walk.norm tab_ok [] [(9, _), (13, _), (14, _), (16, _), (21, _), (22, _), (23, _)] ⟨rfl, rfl, rfl, rfl, rfl, rfl, rfl, trivial⟩ ?_
    conv => whnf
    repeat' first | ((first | (with_reducible apply XBr.tt) | (with_reducible apply XBr.ff)); conv => whnf) | ((with_reducible apply XBr.dec) <;> (intro h; first | (exfalso; omega) | ((try simp only [List.length_map] at h); first | (exfalso; omega) | (conv => whnf)))) | ((with_reducible apply XBr.beq) <;> (intro h; first | (exfalso; omega) | (conv => whnf))) | ((with_reducible apply XBr.bne) <;> (intro h; first | (exfalso; omega) | (conv => whnf))) | fail
    all_goals
      refine Walk.norm tab_ok [] [(9, _), (13, _), (14, _), (21, _), (22, _)] ⟨rfl, rfl, rfl, rfl, rfl, trivial⟩ ?_
      conv => whnf
      repeat' first | ((first | (with_reducible apply XBr.tt) | (with_reducible apply XBr.ff)); conv => whnf) | ((with_reducible apply XBr.dec) <;> (intro h; first | (exfalso; omega) | ((try simp only [List.length_map] at h); first | (exfalso; omega) | (conv => whnf)))) | ((with_reducible apply XBr.beq) <;> (intro h; first | (exfalso; omega) | (conv => whnf))) | ((first | (with_reducible refine XInt.i64 (by omega) (by omega) ?_) | ((with_reducible refine XIx.nat ?_ ?_ ?_); omega; (intro _; rfl)) | ((with_reducible refine XIx.map ?_ ?_ ?_ ?_); omega; omega; (intro _; rfl))); conv => whnf) | fail
      refine Walk.loopK tab_ok [] [(9, _), (13, _), (14, _), (21, _)] ⟨rfl, rfl, rfl, rfl, trivial⟩ (fun m : Nat => n + 1 ≤ m ∧ m ≤ M0) (fun m => [(24, natA m)]) (fun _ => List.replicate d .dead) (fun m => M0 - m) (n + 1) ⟨Nat.le_refl _, by omega⟩ rfl ⟨rfl, trivial⟩ ?_
      rintro m ⟨hm1, hm2⟩
      conv => whnf
      by_cases hml : m < M0
      · have cm := cB m (by omega)
        have cm2 : ((((T.getD s.bed.toNat default).2.getD m default).2).length : Int) = (allN s : Int) + 1 := by rw [ints_len] at cm; exact cm
        have vm := vB m (by omega)
        have v4 := k4 m (by omega) (by omega)
        repeat' first | ((with_reducible apply XBr.tt); conv => whnf) | ((with_reducible apply XBr.dec) <;> (intro h; first | (exfalso; omega) | ((try simp only [List.length_map] at h); first | (exfalso; omega) | (conv => whnf)))) | ((with_reducible apply XBr.beq) <;> (intro h; first | (exfalso; omega) | (conv => whnf))) | ((with_reducible apply XBr.bne) <;> (intro h; first | (exfalso; omega) | (conv => whnf))) | ((first | (with_reducible refine XInt.i64 (by omega) (by omega) ?_) | ((with_reducible refine XIx.nat ?_ ?_ ?_); omega; (intro _; rfl)) | ((with_reducible refine XIx.map ?_ ?_ ?_ ?_); omega; omega; (intro _; rfl))); conv => whnf) | fail
        exact XAgain.go (m + 1) ⟨by omega, by omega⟩ (by omega) rfl ⟨rfl, rfl, rfl, rfl, rfl, trivial⟩
      repeat' first | ((with_reducible apply XBr.tt); conv => whnf) | ((with_reducible apply XBr.dec) <;> (intro h; first | (exfalso; omega) | ((try simp only [List.length_map] at h); first | (exfalso; omega) | (conv => whnf)))) | ((with_reducible apply XBr.beq) <;> (intro h; first | (exfalso; omega) | (conv => whnf))) | ((refine XCall.ret awake02_c ?_); conv => whnf) | fail
      exact XOut.bool rfl
end GA
end

section
namespace GA
open Go Go.RowKit Go.Proofs
set_option pp.deepTerms true
set_option maxRecDepth 8000
set_option linter.unusedVariables false
set_option linter.unusedSimpArgs false

theorem setSps (l : List Sps) (p : Nat) (r : Sps) : (l.map spsA).set p (spsA r) = (l.set p r).map spsA := List.map_set.symm
set_option maxHeartbeats 8000000 in
theorem fordDrier_c (n1 : Bool) (xs : List Int) (w1 w2 w3 : Int) (hx : xs.length < 9223372036854775808) (hw1 : 0 ≤ w1 ∧ w1 ≤ 255) (hw2 : 0 ≤ w2 ∧ w2 ≤ 255) (hw3 : 0 ≤ w3 ∧ w3 ≤ 255) :
    Comp Try.prog 3 [.sl n1 (bytes xs), .int .u8 w1, .int .u8 w2, .int .u8 w3] (.bool true) := by
  have hmk := fordMade_c (hp0 n1 xs) 20 (hpB_ok hx) (by omega) (by omega)
  refine Comp.body (T := tab) (res := [.tmp 8]) tab_ok [] Try.func3 rfl (by kernel_rfl) Try.ntmps3 rfl (by simp only [List.length_cons, List.length_nil]; decide) (by simp only [lowL, AV.low, lowBy]; rfl) ?_; conv => whnf
  repeat' first | (refine XCall.inl (T := tab) (res := [.tmp 2]) tab_ok [5] Try.func8 rfl (by kernel_rfl) Try.ntmps8 rfl (by simp only [List.length_append, List.length_cons, List.length_nil]; decide) ?_; conv => whnf) | fail
  refine XCall.hpE (j := 0) hmk rfl ?_
  rintro _ u1 ⟨s, rfl, mk, ou1⟩
  have ok := mk.ok
  have hb := mk.b
  have h1 := ok.h1; have b1 := ok.b1; have p2 := ok.p2; have l1 := ok.l1; have l2 := ok.l2; have t1 := ok.t1; have t2 := ok.t2; have k1 := ok.k1
  have hh := mk.h; have hp2 := mk.p
  have e3 : ((s.truths.map trA).length : Int) = s.truths.length := by rw [List.length_map]
  obtain ⟨p, hpp, hpl⟩ : ∃ p : Nat, w1.tmod s.places = (p : Int) ∧ (p : Int) < s.places := ⟨(w1.tmod s.places).toNat, by
    have := Int.tmod_nonneg s.places hw1.1
    omega, by
    have := Int.tmod_nonneg s.places hw1.1
    have := Int.tmod_lt_of_pos w1 (show 0 < s.places by omega)
    omega⟩
  obtain ⟨i, hii, hil⟩ : ∃ i : Nat, w2.tmod ((s.truths.map trA).length : Int) = (i : Int) ∧ i < s.truths.length := ⟨(w2.tmod ((s.truths.map trA).length : Int)).toNat, by
    have := Int.tmod_nonneg ((s.truths.map trA).length : Int) hw2.1
    omega, by
    have := Int.tmod_nonneg ((s.truths.map trA).length : Int) hw2.1
    have := Int.tmod_lt_of_pos w2 (show 0 < ((s.truths.map trA).length : Int) by omega)
    omega⟩
  conv => whnf
  have hL : s.truths.length = 1 ∨ s.truths.length = 2 ∨ s.truths.length = 3 ∨ s.truths.length = 4 := by omega
  rcases hL with hL | hL | hL | hL
  · obtain ⟨t0, hL⟩ : ∃ t0, s.truths = [t0] := by
      match h : s.truths, hL with
      | [t0], _ => exact ⟨t0, rfl⟩
    have g0 : (t0.2.length : Int) = s.places := ok.tl t0 (by rw [hL]; simp)
    have c0 : ((t0.2.map ownP).map spsA).length = t0.2.length := by rw [List.length_map, List.length_map]
    have hc : i = 0 := by rw [hL] at hil; simp only [List.length_cons, List.length_nil] at hil; omega
    obtain rfl := hc
    as_aux_lemma =>
      repeat' first | ((with_reducible refine XInt.i64 (by omega) (by omega) ?_); conv => whnf) | ((with_reducible refine XHold.mk ?_ ?_); (first | omega | rfl | decide | exact ⟨rfl, by decide, rfl⟩ | exact wideI _ | exact widePr _ | exact wideSk _ | (unfold Room; constructor <;> ((try simp) <;> omega)) | exact ⟨rfl, by simp only [List.length_map], by unfold Room; constructor <;> ((try simp) <;> omega)⟩ | exact ⟨by omega, by omega, by unfold Room; constructor <;> ((try simp) <;> omega)⟩); conv => whnf) | (with_reducible apply XAnd.mk) | ((first | (with_reducible apply Chk.go) | (with_reducible apply ChkA.go) | (with_reducible apply ChkF.go) | (with_reducible apply ChkB.go)); conv => whnf) | (exact XSame.mk rfl rfl) | (with_reducible exact trivial) | (apply Walk.drawN (id := 2) tab_ok mixed_ok [] [] (hsU _) [_, _, _, _, _, _, _, _, _, _, _, _, _] (by kernel_rfl) rfl) | ((first | (with_reducible apply XNext.mk) | (refine XCall.ownD1 hb hL ?_)); conv => whnf) | (rw [hpp]; conv => whnf) | (rw [hii]; conv => whnf) | fail
      refine Walk.heapE [hpC u1, .cells (snC s), .grow 37 false [.gr 3 t0.2.length], .grow 34 false ((t0.2.map ownP).map spsA), .cells [.int .i64 s.places, .int .i64 s.home, .int .i64 s.bed, .int .i64 s.last, .sl false (s.ways.map wyA), .sl false ((s.looks.map ownR).map rwA), .gr 2 1]] rfl ?_
      refine Walk.thenKeepN ?_
      apply Walk.drawX tab_ok mixed_ok [] [12] (hsC [_, _]) [_, _, _, _, _, _, _, _, _, _, _, _, .tup []] (by kernel_rfl) rfl
      · skip
        repeat' first | ((with_reducible refine XHold.mk ?_ ?_); (first | omega | rfl | decide | exact ⟨rfl, by decide, rfl⟩ | exact wideI _ | exact widePr _ | exact wideSk _ | (unfold Room; constructor <;> ((try simp) <;> omega)) | exact ⟨rfl, by simp only [List.length_map], by unfold Room; constructor <;> ((try simp) <;> omega)⟩ | exact ⟨by omega, by omega, by unfold Room; constructor <;> ((try simp) <;> omega)⟩); conv => whnf) | (with_reducible apply XAnd.mk) | ((first | (with_reducible apply Chk.go) | (with_reducible apply ChkA.go)); conv => whnf) | (exact XSame.mk rfl rfl) | (with_reducible exact trivial) | ((first | (refine XHold.mk ⟨rfl, rfl, by omega, by omega⟩ ?_) | (refine XGet.to _ rfl (by decide) rfl ?_) | (refine XHold.mk ⟨c0, rfl, by omega, by omega⟩ ?_) | (refine XPut.to (((t0.2.map ownP).set p (false, [((0 : Int), s.last)])).map spsA) c0.symm (by omega) (setSps _ p (false, [((0 : Int), s.last)])) ?_)); conv => whnf) | fail
      · skip
        repeat' first | (with_reducible apply XAnd.mk) | ((first | (with_reducible apply ChkF.go) | (with_reducible apply ChkB.go)); conv => whnf) | (with_reducible exact trivial) | fail
      have hC : snC (drS s 0 p) = [.int .i64 s.places, .int .i64 s.home, .int .i64 s.bed, .int .i64 s.last, .sl false (s.ways.map wyA), .sl false ((s.looks.map ownR).map rwA), .sl false [.agg [.sl false (((t0.2.map ownP).set p (false, [((0 : Int), s.last)])).map spsA)]]] := by have h := drU1_0 p hL; injection h
      refine XKeepE.go [] _ [(3, .int .u8 w3), (9, .pim (snC s)), (11, natA 0), (12, .pim (snC (drS s 0 p)))] rfl (fun x hx => by cases hx) ⟨⟨_, rfl, .same rfl⟩, ⟨_, rfl, .all (Froz.ptr rfl (snOne s) (.low (snCL s)))⟩, ⟨_, rfl, .same rfl⟩, ⟨_, rfl, .all (by rw [hC]; exact Froz.ptr rfl (by intro v hv; simp only [List.mem_cons, List.not_mem_nil, or_false] at hv; rcases hv with rfl | rfl | rfl | rfl | rfl | rfl | rfl <;> rfl) (.cons (.low rfl) (.cons (.low rfl) (.cons (.low rfl) (.cons (.low rfl) (.cons (.low (lowWy _)) (.cons (.low (lowRk _)) (.cons (froz_tru (ds := [(t0.2.map ownP).set p (false, [((0 : Int), s.last)])]) rfl rfl rfl (fun x hx => by simp only [List.mem_cons, List.not_mem_nil, or_false] at hx; rcases hx with rfl <;> rfl) (.cons (Froz.grow rfl (by simp only [List.length_map, List.length_set]) (lowSps _)) .nil)) .nil))))))))⟩, trivial⟩ ?_
      exact drierRest s hb ok 0 p 5 w3 hil hpl hw3
  · obtain ⟨t0, t1, hL⟩ : ∃ t0 t1, s.truths = [t0, t1] := by
      match h : s.truths, hL with
      | [t0, t1], _ => exact ⟨t0, t1, rfl⟩
    have g0 : (t0.2.length : Int) = s.places := ok.tl t0 (by rw [hL]; simp)
    have c0 : ((t0.2.map ownP).map spsA).length = t0.2.length := by rw [List.length_map, List.length_map]
    have g1 : (t1.2.length : Int) = s.places := ok.tl t1 (by rw [hL]; simp)
    have c1 : ((t1.2.map ownP).map spsA).length = t1.2.length := by rw [List.length_map, List.length_map]
    have hc : i = 0 ∨ i = 1 := by rw [hL] at hil; simp only [List.length_cons, List.length_nil] at hil; omega
    rcases hc with rfl | rfl
    · as_aux_lemma =>
        repeat' first | ((with_reducible refine XInt.i64 (by omega) (by omega) ?_); conv => whnf) | ((with_reducible refine XHold.mk ?_ ?_); (first | omega | rfl | decide | exact ⟨rfl, by decide, rfl⟩ | exact wideI _ | exact widePr _ | exact wideSk _ | (unfold Room; constructor <;> ((try simp) <;> omega)) | exact ⟨rfl, by simp only [List.length_map], by unfold Room; constructor <;> ((try simp) <;> omega)⟩ | exact ⟨by omega, by omega, by unfold Room; constructor <;> ((try simp) <;> omega)⟩); conv => whnf) | (with_reducible apply XAnd.mk) | ((first | (with_reducible apply Chk.go) | (with_reducible apply ChkA.go) | (with_reducible apply ChkF.go) | (with_reducible apply ChkB.go)); conv => whnf) | (exact XSame.mk rfl rfl) | (with_reducible exact trivial) | (apply Walk.drawN (id := 2) tab_ok mixed_ok [] [] (hsU _) [_, _, _, _, _, _, _, _, _, _, _, _, _] (by kernel_rfl) rfl) | ((first | (with_reducible apply XNext.mk) | (refine XCall.ownD2 hb hL ?_)); conv => whnf) | (rw [hpp]; conv => whnf) | (rw [hii]; conv => whnf) | fail
        refine Walk.heapE [hpC u1, .cells (snC s), .grow 37 false [.gr 3 t0.2.length, .gr 4 t1.2.length], .grow 34 false ((t0.2.map ownP).map spsA), .grow 34 false ((t1.2.map ownP).map spsA), .cells [.int .i64 s.places, .int .i64 s.home, .int .i64 s.bed, .int .i64 s.last, .sl false (s.ways.map wyA), .sl false ((s.looks.map ownR).map rwA), .gr 2 2]] rfl ?_
        refine Walk.thenKeepN ?_
        apply Walk.drawX tab_ok mixed_ok [] [12] (hsC [_, _]) [_, _, _, _, _, _, _, _, _, _, _, _, .tup []] (by kernel_rfl) rfl
        · skip
          repeat' first | ((with_reducible refine XHold.mk ?_ ?_); (first | omega | rfl | decide | exact ⟨rfl, by decide, rfl⟩ | exact wideI _ | exact widePr _ | exact wideSk _ | (unfold Room; constructor <;> ((try simp) <;> omega)) | exact ⟨rfl, by simp only [List.length_map], by unfold Room; constructor <;> ((try simp) <;> omega)⟩ | exact ⟨by omega, by omega, by unfold Room; constructor <;> ((try simp) <;> omega)⟩); conv => whnf) | (with_reducible apply XAnd.mk) | ((first | (with_reducible apply Chk.go) | (with_reducible apply ChkA.go)); conv => whnf) | (exact XSame.mk rfl rfl) | (with_reducible exact trivial) | ((first | (refine XHold.mk ⟨rfl, rfl, by omega, by omega⟩ ?_) | (refine XGet.to _ rfl (by decide) rfl ?_) | (refine XHold.mk ⟨c0, rfl, by omega, by omega⟩ ?_) | (refine XPut.to (((t0.2.map ownP).set p (false, [((0 : Int), s.last)])).map spsA) c0.symm (by omega) (setSps _ p (false, [((0 : Int), s.last)])) ?_)); conv => whnf) | fail
        · skip
          repeat' first | (with_reducible apply XAnd.mk) | ((first | (with_reducible apply ChkF.go) | (with_reducible apply ChkB.go)); conv => whnf) | (with_reducible exact trivial) | fail
        have hC : snC (drS s 0 p) = [.int .i64 s.places, .int .i64 s.home, .int .i64 s.bed, .int .i64 s.last, .sl false (s.ways.map wyA), .sl false ((s.looks.map ownR).map rwA), .sl false [.agg [.sl false (((t0.2.map ownP).set p (false, [((0 : Int), s.last)])).map spsA)], .agg [.sl false ((t1.2.map ownP).map spsA)]]] := by have h := drU2_0 p hL; injection h
        refine XKeepE.go [] _ [(3, .int .u8 w3), (9, .pim (snC s)), (11, natA 0), (12, .pim (snC (drS s 0 p)))] rfl (fun x hx => by cases hx) ⟨⟨_, rfl, .same rfl⟩, ⟨_, rfl, .all (Froz.ptr rfl (snOne s) (.low (snCL s)))⟩, ⟨_, rfl, .same rfl⟩, ⟨_, rfl, .all (by rw [hC]; exact Froz.ptr rfl (by intro v hv; simp only [List.mem_cons, List.not_mem_nil, or_false] at hv; rcases hv with rfl | rfl | rfl | rfl | rfl | rfl | rfl <;> rfl) (.cons (.low rfl) (.cons (.low rfl) (.cons (.low rfl) (.cons (.low rfl) (.cons (.low (lowWy _)) (.cons (.low (lowRk _)) (.cons (froz_tru (ds := [(t0.2.map ownP).set p (false, [((0 : Int), s.last)]), t1.2.map ownP]) rfl rfl rfl (fun x hx => by simp only [List.mem_cons, List.not_mem_nil, or_false] at hx; rcases hx with rfl | rfl <;> rfl) (.cons (Froz.grow rfl (by simp only [List.length_map, List.length_set]) (lowSps _)) (.cons (Froz.grow rfl (by simp only [List.length_map, List.length_set]) (lowSps _)) .nil))) .nil))))))))⟩, trivial⟩ ?_
        exact drierRest s hb ok 0 p 6 w3 hil hpl hw3
    · as_aux_lemma =>
        repeat' first | ((with_reducible refine XInt.i64 (by omega) (by omega) ?_); conv => whnf) | ((with_reducible refine XHold.mk ?_ ?_); (first | omega | rfl | decide | exact ⟨rfl, by decide, rfl⟩ | exact wideI _ | exact widePr _ | exact wideSk _ | (unfold Room; constructor <;> ((try simp) <;> omega)) | exact ⟨rfl, by simp only [List.length_map], by unfold Room; constructor <;> ((try simp) <;> omega)⟩ | exact ⟨by omega, by omega, by unfold Room; constructor <;> ((try simp) <;> omega)⟩); conv => whnf) | (with_reducible apply XAnd.mk) | ((first | (with_reducible apply Chk.go) | (with_reducible apply ChkA.go) | (with_reducible apply ChkF.go) | (with_reducible apply ChkB.go)); conv => whnf) | (exact XSame.mk rfl rfl) | (with_reducible exact trivial) | (apply Walk.drawN (id := 2) tab_ok mixed_ok [] [] (hsU _) [_, _, _, _, _, _, _, _, _, _, _, _, _] (by kernel_rfl) rfl) | ((first | (with_reducible apply XNext.mk) | (refine XCall.ownD2 hb hL ?_)); conv => whnf) | (rw [hpp]; conv => whnf) | (rw [hii]; conv => whnf) | fail
        refine Walk.heapE [hpC u1, .cells (snC s), .grow 37 false [.gr 3 t0.2.length, .gr 4 t1.2.length], .grow 34 false ((t0.2.map ownP).map spsA), .grow 34 false ((t1.2.map ownP).map spsA), .cells [.int .i64 s.places, .int .i64 s.home, .int .i64 s.bed, .int .i64 s.last, .sl false (s.ways.map wyA), .sl false ((s.looks.map ownR).map rwA), .gr 2 2]] rfl ?_
        refine Walk.thenKeepN ?_
        apply Walk.drawX tab_ok mixed_ok [] [12] (hsC [_, _]) [_, _, _, _, _, _, _, _, _, _, _, _, .tup []] (by kernel_rfl) rfl
        · skip
          repeat' first | ((with_reducible refine XHold.mk ?_ ?_); (first | omega | rfl | decide | exact ⟨rfl, by decide, rfl⟩ | exact wideI _ | exact widePr _ | exact wideSk _ | (unfold Room; constructor <;> ((try simp) <;> omega)) | exact ⟨rfl, by simp only [List.length_map], by unfold Room; constructor <;> ((try simp) <;> omega)⟩ | exact ⟨by omega, by omega, by unfold Room; constructor <;> ((try simp) <;> omega)⟩); conv => whnf) | (with_reducible apply XAnd.mk) | ((first | (with_reducible apply Chk.go) | (with_reducible apply ChkA.go)); conv => whnf) | (exact XSame.mk rfl rfl) | (with_reducible exact trivial) | ((first | (refine XHold.mk ⟨rfl, rfl, by omega, by omega⟩ ?_) | (refine XGet.to _ rfl (by decide) rfl ?_) | (refine XHold.mk ⟨c1, rfl, by omega, by omega⟩ ?_) | (refine XPut.to (((t1.2.map ownP).set p (false, [((0 : Int), s.last)])).map spsA) c1.symm (by omega) (setSps _ p (false, [((0 : Int), s.last)])) ?_)); conv => whnf) | fail
        · skip
          repeat' first | (with_reducible apply XAnd.mk) | ((first | (with_reducible apply ChkF.go) | (with_reducible apply ChkB.go)); conv => whnf) | (with_reducible exact trivial) | fail
        have hC : snC (drS s 1 p) = [.int .i64 s.places, .int .i64 s.home, .int .i64 s.bed, .int .i64 s.last, .sl false (s.ways.map wyA), .sl false ((s.looks.map ownR).map rwA), .sl false [.agg [.sl false ((t0.2.map ownP).map spsA)], .agg [.sl false (((t1.2.map ownP).set p (false, [((0 : Int), s.last)])).map spsA)]]] := by have h := drU2_1 p hL; injection h
        refine XKeepE.go [] _ [(3, .int .u8 w3), (9, .pim (snC s)), (11, natA 1), (12, .pim (snC (drS s 1 p)))] rfl (fun x hx => by cases hx) ⟨⟨_, rfl, .same rfl⟩, ⟨_, rfl, .all (Froz.ptr rfl (snOne s) (.low (snCL s)))⟩, ⟨_, rfl, .same rfl⟩, ⟨_, rfl, .all (by rw [hC]; exact Froz.ptr rfl (by intro v hv; simp only [List.mem_cons, List.not_mem_nil, or_false] at hv; rcases hv with rfl | rfl | rfl | rfl | rfl | rfl | rfl <;> rfl) (.cons (.low rfl) (.cons (.low rfl) (.cons (.low rfl) (.cons (.low rfl) (.cons (.low (lowWy _)) (.cons (.low (lowRk _)) (.cons (froz_tru (ds := [t0.2.map ownP, (t1.2.map ownP).set p (false, [((0 : Int), s.last)])]) rfl rfl rfl (fun x hx => by simp only [List.mem_cons, List.not_mem_nil, or_false] at hx; rcases hx with rfl | rfl <;> rfl) (.cons (Froz.grow rfl (by simp only [List.length_map, List.length_set]) (lowSps _)) (.cons (Froz.grow rfl (by simp only [List.length_map, List.length_set]) (lowSps _)) .nil))) .nil))))))))⟩, trivial⟩ ?_
        exact drierRest s hb ok 1 p 6 w3 hil hpl hw3
  · obtain ⟨t0, t1, t2, hL⟩ : ∃ t0 t1 t2, s.truths = [t0, t1, t2] := by
      match h : s.truths, hL with
      | [t0, t1, t2], _ => exact ⟨t0, t1, t2, rfl⟩
    have g0 : (t0.2.length : Int) = s.places := ok.tl t0 (by rw [hL]; simp)
    have c0 : ((t0.2.map ownP).map spsA).length = t0.2.length := by rw [List.length_map, List.length_map]
    have g1 : (t1.2.length : Int) = s.places := ok.tl t1 (by rw [hL]; simp)
    have c1 : ((t1.2.map ownP).map spsA).length = t1.2.length := by rw [List.length_map, List.length_map]
    have g2 : (t2.2.length : Int) = s.places := ok.tl t2 (by rw [hL]; simp)
    have c2 : ((t2.2.map ownP).map spsA).length = t2.2.length := by rw [List.length_map, List.length_map]
    have hc : i = 0 ∨ i = 1 ∨ i = 2 := by rw [hL] at hil; simp only [List.length_cons, List.length_nil] at hil; omega
    rcases hc with rfl | rfl | rfl
    · as_aux_lemma =>
        repeat' first | ((with_reducible refine XInt.i64 (by omega) (by omega) ?_); conv => whnf) | ((with_reducible refine XHold.mk ?_ ?_); (first | omega | rfl | decide | exact ⟨rfl, by decide, rfl⟩ | exact wideI _ | exact widePr _ | exact wideSk _ | (unfold Room; constructor <;> ((try simp) <;> omega)) | exact ⟨rfl, by simp only [List.length_map], by unfold Room; constructor <;> ((try simp) <;> omega)⟩ | exact ⟨by omega, by omega, by unfold Room; constructor <;> ((try simp) <;> omega)⟩); conv => whnf) | (with_reducible apply XAnd.mk) | ((first | (with_reducible apply Chk.go) | (with_reducible apply ChkA.go) | (with_reducible apply ChkF.go) | (with_reducible apply ChkB.go)); conv => whnf) | (exact XSame.mk rfl rfl) | (with_reducible exact trivial) | (apply Walk.drawN (id := 2) tab_ok mixed_ok [] [] (hsU _) [_, _, _, _, _, _, _, _, _, _, _, _, _] (by kernel_rfl) rfl) | ((first | (with_reducible apply XNext.mk) | (refine XCall.ownD3 hb hL ?_)); conv => whnf) | (rw [hpp]; conv => whnf) | (rw [hii]; conv => whnf) | fail
        refine Walk.heapE [hpC u1, .cells (snC s), .grow 37 false [.gr 3 t0.2.length, .gr 4 t1.2.length, .gr 5 t2.2.length], .grow 34 false ((t0.2.map ownP).map spsA), .grow 34 false ((t1.2.map ownP).map spsA), .grow 34 false ((t2.2.map ownP).map spsA), .cells [.int .i64 s.places, .int .i64 s.home, .int .i64 s.bed, .int .i64 s.last, .sl false (s.ways.map wyA), .sl false ((s.looks.map ownR).map rwA), .gr 2 3]] rfl ?_
        refine Walk.thenKeepN ?_
        apply Walk.drawX tab_ok mixed_ok [] [12] (hsC [_, _]) [_, _, _, _, _, _, _, _, _, _, _, _, .tup []] (by kernel_rfl) rfl
        · skip
          repeat' first | ((with_reducible refine XHold.mk ?_ ?_); (first | omega | rfl | decide | exact ⟨rfl, by decide, rfl⟩ | exact wideI _ | exact widePr _ | exact wideSk _ | (unfold Room; constructor <;> ((try simp) <;> omega)) | exact ⟨rfl, by simp only [List.length_map], by unfold Room; constructor <;> ((try simp) <;> omega)⟩ | exact ⟨by omega, by omega, by unfold Room; constructor <;> ((try simp) <;> omega)⟩); conv => whnf) | (with_reducible apply XAnd.mk) | ((first | (with_reducible apply Chk.go) | (with_reducible apply ChkA.go)); conv => whnf) | (exact XSame.mk rfl rfl) | (with_reducible exact trivial) | ((first | (refine XHold.mk ⟨rfl, rfl, by omega, by omega⟩ ?_) | (refine XGet.to _ rfl (by decide) rfl ?_) | (refine XHold.mk ⟨c0, rfl, by omega, by omega⟩ ?_) | (refine XPut.to (((t0.2.map ownP).set p (false, [((0 : Int), s.last)])).map spsA) c0.symm (by omega) (setSps _ p (false, [((0 : Int), s.last)])) ?_)); conv => whnf) | fail
        · skip
          repeat' first | (with_reducible apply XAnd.mk) | ((first | (with_reducible apply ChkF.go) | (with_reducible apply ChkB.go)); conv => whnf) | (with_reducible exact trivial) | fail
        have hC : snC (drS s 0 p) = [.int .i64 s.places, .int .i64 s.home, .int .i64 s.bed, .int .i64 s.last, .sl false (s.ways.map wyA), .sl false ((s.looks.map ownR).map rwA), .sl false [.agg [.sl false (((t0.2.map ownP).set p (false, [((0 : Int), s.last)])).map spsA)], .agg [.sl false ((t1.2.map ownP).map spsA)], .agg [.sl false ((t2.2.map ownP).map spsA)]]] := by have h := drU3_0 p hL; injection h
        refine XKeepE.go [] _ [(3, .int .u8 w3), (9, .pim (snC s)), (11, natA 0), (12, .pim (snC (drS s 0 p)))] rfl (fun x hx => by cases hx) ⟨⟨_, rfl, .same rfl⟩, ⟨_, rfl, .all (Froz.ptr rfl (snOne s) (.low (snCL s)))⟩, ⟨_, rfl, .same rfl⟩, ⟨_, rfl, .all (by rw [hC]; exact Froz.ptr rfl (by intro v hv; simp only [List.mem_cons, List.not_mem_nil, or_false] at hv; rcases hv with rfl | rfl | rfl | rfl | rfl | rfl | rfl <;> rfl) (.cons (.low rfl) (.cons (.low rfl) (.cons (.low rfl) (.cons (.low rfl) (.cons (.low (lowWy _)) (.cons (.low (lowRk _)) (.cons (froz_tru (ds := [(t0.2.map ownP).set p (false, [((0 : Int), s.last)]), t1.2.map ownP, t2.2.map ownP]) rfl rfl rfl (fun x hx => by simp only [List.mem_cons, List.not_mem_nil, or_false] at hx; rcases hx with rfl | rfl | rfl <;> rfl) (.cons (Froz.grow rfl (by simp only [List.length_map, List.length_set]) (lowSps _)) (.cons (Froz.grow rfl (by simp only [List.length_map, List.length_set]) (lowSps _)) (.cons (Froz.grow rfl (by simp only [List.length_map, List.length_set]) (lowSps _)) .nil)))) .nil))))))))⟩, trivial⟩ ?_
        exact drierRest s hb ok 0 p 7 w3 hil hpl hw3
    · as_aux_lemma =>
        repeat' first | ((with_reducible refine XInt.i64 (by omega) (by omega) ?_); conv => whnf) | ((with_reducible refine XHold.mk ?_ ?_); (first | omega | rfl | decide | exact ⟨rfl, by decide, rfl⟩ | exact wideI _ | exact widePr _ | exact wideSk _ | (unfold Room; constructor <;> ((try simp) <;> omega)) | exact ⟨rfl, by simp only [List.length_map], by unfold Room; constructor <;> ((try simp) <;> omega)⟩ | exact ⟨by omega, by omega, by unfold Room; constructor <;> ((try simp) <;> omega)⟩); conv => whnf) | (with_reducible apply XAnd.mk) | ((first | (with_reducible apply Chk.go) | (with_reducible apply ChkA.go) | (with_reducible apply ChkF.go) | (with_reducible apply ChkB.go)); conv => whnf) | (exact XSame.mk rfl rfl) | (with_reducible exact trivial) | (apply Walk.drawN (id := 2) tab_ok mixed_ok [] [] (hsU _) [_, _, _, _, _, _, _, _, _, _, _, _, _] (by kernel_rfl) rfl) | ((first | (with_reducible apply XNext.mk) | (refine XCall.ownD3 hb hL ?_)); conv => whnf) | (rw [hpp]; conv => whnf) | (rw [hii]; conv => whnf) | fail
        refine Walk.heapE [hpC u1, .cells (snC s), .grow 37 false [.gr 3 t0.2.length, .gr 4 t1.2.length, .gr 5 t2.2.length], .grow 34 false ((t0.2.map ownP).map spsA), .grow 34 false ((t1.2.map ownP).map spsA), .grow 34 false ((t2.2.map ownP).map spsA), .cells [.int .i64 s.places, .int .i64 s.home, .int .i64 s.bed, .int .i64 s.last, .sl false (s.ways.map wyA), .sl false ((s.looks.map ownR).map rwA), .gr 2 3]] rfl ?_
        refine Walk.thenKeepN ?_
        apply Walk.drawX tab_ok mixed_ok [] [12] (hsC [_, _]) [_, _, _, _, _, _, _, _, _, _, _, _, .tup []] (by kernel_rfl) rfl
        · skip
          repeat' first | ((with_reducible refine XHold.mk ?_ ?_); (first | omega | rfl | decide | exact ⟨rfl, by decide, rfl⟩ | exact wideI _ | exact widePr _ | exact wideSk _ | (unfold Room; constructor <;> ((try simp) <;> omega)) | exact ⟨rfl, by simp only [List.length_map], by unfold Room; constructor <;> ((try simp) <;> omega)⟩ | exact ⟨by omega, by omega, by unfold Room; constructor <;> ((try simp) <;> omega)⟩); conv => whnf) | (with_reducible apply XAnd.mk) | ((first | (with_reducible apply Chk.go) | (with_reducible apply ChkA.go)); conv => whnf) | (exact XSame.mk rfl rfl) | (with_reducible exact trivial) | ((first | (refine XHold.mk ⟨rfl, rfl, by omega, by omega⟩ ?_) | (refine XGet.to _ rfl (by decide) rfl ?_) | (refine XHold.mk ⟨c1, rfl, by omega, by omega⟩ ?_) | (refine XPut.to (((t1.2.map ownP).set p (false, [((0 : Int), s.last)])).map spsA) c1.symm (by omega) (setSps _ p (false, [((0 : Int), s.last)])) ?_)); conv => whnf) | fail
        · skip
          repeat' first | (with_reducible apply XAnd.mk) | ((first | (with_reducible apply ChkF.go) | (with_reducible apply ChkB.go)); conv => whnf) | (with_reducible exact trivial) | fail
        have hC : snC (drS s 1 p) = [.int .i64 s.places, .int .i64 s.home, .int .i64 s.bed, .int .i64 s.last, .sl false (s.ways.map wyA), .sl false ((s.looks.map ownR).map rwA), .sl false [.agg [.sl false ((t0.2.map ownP).map spsA)], .agg [.sl false (((t1.2.map ownP).set p (false, [((0 : Int), s.last)])).map spsA)], .agg [.sl false ((t2.2.map ownP).map spsA)]]] := by have h := drU3_1 p hL; injection h
        refine XKeepE.go [] _ [(3, .int .u8 w3), (9, .pim (snC s)), (11, natA 1), (12, .pim (snC (drS s 1 p)))] rfl (fun x hx => by cases hx) ⟨⟨_, rfl, .same rfl⟩, ⟨_, rfl, .all (Froz.ptr rfl (snOne s) (.low (snCL s)))⟩, ⟨_, rfl, .same rfl⟩, ⟨_, rfl, .all (by rw [hC]; exact Froz.ptr rfl (by intro v hv; simp only [List.mem_cons, List.not_mem_nil, or_false] at hv; rcases hv with rfl | rfl | rfl | rfl | rfl | rfl | rfl <;> rfl) (.cons (.low rfl) (.cons (.low rfl) (.cons (.low rfl) (.cons (.low rfl) (.cons (.low (lowWy _)) (.cons (.low (lowRk _)) (.cons (froz_tru (ds := [t0.2.map ownP, (t1.2.map ownP).set p (false, [((0 : Int), s.last)]), t2.2.map ownP]) rfl rfl rfl (fun x hx => by simp only [List.mem_cons, List.not_mem_nil, or_false] at hx; rcases hx with rfl | rfl | rfl <;> rfl) (.cons (Froz.grow rfl (by simp only [List.length_map, List.length_set]) (lowSps _)) (.cons (Froz.grow rfl (by simp only [List.length_map, List.length_set]) (lowSps _)) (.cons (Froz.grow rfl (by simp only [List.length_map, List.length_set]) (lowSps _)) .nil)))) .nil))))))))⟩, trivial⟩ ?_
        exact drierRest s hb ok 1 p 7 w3 hil hpl hw3
    · as_aux_lemma =>
        repeat' first | ((with_reducible refine XInt.i64 (by omega) (by omega) ?_); conv => whnf) | ((with_reducible refine XHold.mk ?_ ?_); (first | omega | rfl | decide | exact ⟨rfl, by decide, rfl⟩ | exact wideI _ | exact widePr _ | exact wideSk _ | (unfold Room; constructor <;> ((try simp) <;> omega)) | exact ⟨rfl, by simp only [List.length_map], by unfold Room; constructor <;> ((try simp) <;> omega)⟩ | exact ⟨by omega, by omega, by unfold Room; constructor <;> ((try simp) <;> omega)⟩); conv => whnf) | (with_reducible apply XAnd.mk) | ((first | (with_reducible apply Chk.go) | (with_reducible apply ChkA.go) | (with_reducible apply ChkF.go) | (with_reducible apply ChkB.go)); conv => whnf) | (exact XSame.mk rfl rfl) | (with_reducible exact trivial) | (apply Walk.drawN (id := 2) tab_ok mixed_ok [] [] (hsU _) [_, _, _, _, _, _, _, _, _, _, _, _, _] (by kernel_rfl) rfl) | ((first | (with_reducible apply XNext.mk) | (refine XCall.ownD3 hb hL ?_)); conv => whnf) | (rw [hpp]; conv => whnf) | (rw [hii]; conv => whnf) | fail
        refine Walk.heapE [hpC u1, .cells (snC s), .grow 37 false [.gr 3 t0.2.length, .gr 4 t1.2.length, .gr 5 t2.2.length], .grow 34 false ((t0.2.map ownP).map spsA), .grow 34 false ((t1.2.map ownP).map spsA), .grow 34 false ((t2.2.map ownP).map spsA), .cells [.int .i64 s.places, .int .i64 s.home, .int .i64 s.bed, .int .i64 s.last, .sl false (s.ways.map wyA), .sl false ((s.looks.map ownR).map rwA), .gr 2 3]] rfl ?_
        refine Walk.thenKeepN ?_
        apply Walk.drawX tab_ok mixed_ok [] [12] (hsC [_, _]) [_, _, _, _, _, _, _, _, _, _, _, _, .tup []] (by kernel_rfl) rfl
        · skip
          repeat' first | ((with_reducible refine XHold.mk ?_ ?_); (first | omega | rfl | decide | exact ⟨rfl, by decide, rfl⟩ | exact wideI _ | exact widePr _ | exact wideSk _ | (unfold Room; constructor <;> ((try simp) <;> omega)) | exact ⟨rfl, by simp only [List.length_map], by unfold Room; constructor <;> ((try simp) <;> omega)⟩ | exact ⟨by omega, by omega, by unfold Room; constructor <;> ((try simp) <;> omega)⟩); conv => whnf) | (with_reducible apply XAnd.mk) | ((first | (with_reducible apply Chk.go) | (with_reducible apply ChkA.go)); conv => whnf) | (exact XSame.mk rfl rfl) | (with_reducible exact trivial) | ((first | (refine XHold.mk ⟨rfl, rfl, by omega, by omega⟩ ?_) | (refine XGet.to _ rfl (by decide) rfl ?_) | (refine XHold.mk ⟨c2, rfl, by omega, by omega⟩ ?_) | (refine XPut.to (((t2.2.map ownP).set p (false, [((0 : Int), s.last)])).map spsA) c2.symm (by omega) (setSps _ p (false, [((0 : Int), s.last)])) ?_)); conv => whnf) | fail
        · skip
          repeat' first | (with_reducible apply XAnd.mk) | ((first | (with_reducible apply ChkF.go) | (with_reducible apply ChkB.go)); conv => whnf) | (with_reducible exact trivial) | fail
        have hC : snC (drS s 2 p) = [.int .i64 s.places, .int .i64 s.home, .int .i64 s.bed, .int .i64 s.last, .sl false (s.ways.map wyA), .sl false ((s.looks.map ownR).map rwA), .sl false [.agg [.sl false ((t0.2.map ownP).map spsA)], .agg [.sl false ((t1.2.map ownP).map spsA)], .agg [.sl false (((t2.2.map ownP).set p (false, [((0 : Int), s.last)])).map spsA)]]] := by have h := drU3_2 p hL; injection h
        refine XKeepE.go [] _ [(3, .int .u8 w3), (9, .pim (snC s)), (11, natA 2), (12, .pim (snC (drS s 2 p)))] rfl (fun x hx => by cases hx) ⟨⟨_, rfl, .same rfl⟩, ⟨_, rfl, .all (Froz.ptr rfl (snOne s) (.low (snCL s)))⟩, ⟨_, rfl, .same rfl⟩, ⟨_, rfl, .all (by rw [hC]; exact Froz.ptr rfl (by intro v hv; simp only [List.mem_cons, List.not_mem_nil, or_false] at hv; rcases hv with rfl | rfl | rfl | rfl | rfl | rfl | rfl <;> rfl) (.cons (.low rfl) (.cons (.low rfl) (.cons (.low rfl) (.cons (.low rfl) (.cons (.low (lowWy _)) (.cons (.low (lowRk _)) (.cons (froz_tru (ds := [t0.2.map ownP, t1.2.map ownP, (t2.2.map ownP).set p (false, [((0 : Int), s.last)])]) rfl rfl rfl (fun x hx => by simp only [List.mem_cons, List.not_mem_nil, or_false] at hx; rcases hx with rfl | rfl | rfl <;> rfl) (.cons (Froz.grow rfl (by simp only [List.length_map, List.length_set]) (lowSps _)) (.cons (Froz.grow rfl (by simp only [List.length_map, List.length_set]) (lowSps _)) (.cons (Froz.grow rfl (by simp only [List.length_map, List.length_set]) (lowSps _)) .nil)))) .nil))))))))⟩, trivial⟩ ?_
        exact drierRest s hb ok 2 p 7 w3 hil hpl hw3
  · obtain ⟨t0, t1, t2, t3, hL⟩ : ∃ t0 t1 t2 t3, s.truths = [t0, t1, t2, t3] := by
      match h : s.truths, hL with
      | [t0, t1, t2, t3], _ => exact ⟨t0, t1, t2, t3, rfl⟩
    have g0 : (t0.2.length : Int) = s.places := ok.tl t0 (by rw [hL]; simp)
    have c0 : ((t0.2.map ownP).map spsA).length = t0.2.length := by rw [List.length_map, List.length_map]
    have g1 : (t1.2.length : Int) = s.places := ok.tl t1 (by rw [hL]; simp)
    have c1 : ((t1.2.map ownP).map spsA).length = t1.2.length := by rw [List.length_map, List.length_map]
    have g2 : (t2.2.length : Int) = s.places := ok.tl t2 (by rw [hL]; simp)
    have c2 : ((t2.2.map ownP).map spsA).length = t2.2.length := by rw [List.length_map, List.length_map]
    have g3 : (t3.2.length : Int) = s.places := ok.tl t3 (by rw [hL]; simp)
    have c3 : ((t3.2.map ownP).map spsA).length = t3.2.length := by rw [List.length_map, List.length_map]
    have hc : i = 0 ∨ i = 1 ∨ i = 2 ∨ i = 3 := by rw [hL] at hil; simp only [List.length_cons, List.length_nil] at hil; omega
    rcases hc with rfl | rfl | rfl | rfl
    · as_aux_lemma =>
        repeat' first | ((with_reducible refine XInt.i64 (by omega) (by omega) ?_); conv => whnf) | ((with_reducible refine XHold.mk ?_ ?_); (first | omega | rfl | decide | exact ⟨rfl, by decide, rfl⟩ | exact wideI _ | exact widePr _ | exact wideSk _ | (unfold Room; constructor <;> ((try simp) <;> omega)) | exact ⟨rfl, by simp only [List.length_map], by unfold Room; constructor <;> ((try simp) <;> omega)⟩ | exact ⟨by omega, by omega, by unfold Room; constructor <;> ((try simp) <;> omega)⟩); conv => whnf) | (with_reducible apply XAnd.mk) | ((first | (with_reducible apply Chk.go) | (with_reducible apply ChkA.go) | (with_reducible apply ChkF.go) | (with_reducible apply ChkB.go)); conv => whnf) | (exact XSame.mk rfl rfl) | (with_reducible exact trivial) | (apply Walk.drawN (id := 2) tab_ok mixed_ok [] [] (hsU _) [_, _, _, _, _, _, _, _, _, _, _, _, _] (by kernel_rfl) rfl) | ((first | (with_reducible apply XNext.mk) | (refine XCall.ownD4 hb hL ?_)); conv => whnf) | (rw [hpp]; conv => whnf) | (rw [hii]; conv => whnf) | fail
        refine Walk.heapE [hpC u1, .cells (snC s), .grow 37 false [.gr 3 t0.2.length, .gr 4 t1.2.length, .gr 5 t2.2.length, .gr 6 t3.2.length], .grow 34 false ((t0.2.map ownP).map spsA), .grow 34 false ((t1.2.map ownP).map spsA), .grow 34 false ((t2.2.map ownP).map spsA), .grow 34 false ((t3.2.map ownP).map spsA), .cells [.int .i64 s.places, .int .i64 s.home, .int .i64 s.bed, .int .i64 s.last, .sl false (s.ways.map wyA), .sl false ((s.looks.map ownR).map rwA), .gr 2 4]] rfl ?_
        refine Walk.thenKeepN ?_
        apply Walk.drawX tab_ok mixed_ok [] [12] (hsC [_, _]) [_, _, _, _, _, _, _, _, _, _, _, _, .tup []] (by kernel_rfl) rfl
        · skip
          repeat' first | ((with_reducible refine XHold.mk ?_ ?_); (first | omega | rfl | decide | exact ⟨rfl, by decide, rfl⟩ | exact wideI _ | exact widePr _ | exact wideSk _ | (unfold Room; constructor <;> ((try simp) <;> omega)) | exact ⟨rfl, by simp only [List.length_map], by unfold Room; constructor <;> ((try simp) <;> omega)⟩ | exact ⟨by omega, by omega, by unfold Room; constructor <;> ((try simp) <;> omega)⟩); conv => whnf) | (with_reducible apply XAnd.mk) | ((first | (with_reducible apply Chk.go) | (with_reducible apply ChkA.go)); conv => whnf) | (exact XSame.mk rfl rfl) | (with_reducible exact trivial) | ((first | (refine XHold.mk ⟨rfl, rfl, by omega, by omega⟩ ?_) | (refine XGet.to _ rfl (by decide) rfl ?_) | (refine XHold.mk ⟨c0, rfl, by omega, by omega⟩ ?_) | (refine XPut.to (((t0.2.map ownP).set p (false, [((0 : Int), s.last)])).map spsA) c0.symm (by omega) (setSps _ p (false, [((0 : Int), s.last)])) ?_)); conv => whnf) | fail
        · skip
          repeat' first | (with_reducible apply XAnd.mk) | ((first | (with_reducible apply ChkF.go) | (with_reducible apply ChkB.go)); conv => whnf) | (with_reducible exact trivial) | fail
        have hC : snC (drS s 0 p) = [.int .i64 s.places, .int .i64 s.home, .int .i64 s.bed, .int .i64 s.last, .sl false (s.ways.map wyA), .sl false ((s.looks.map ownR).map rwA), .sl false [.agg [.sl false (((t0.2.map ownP).set p (false, [((0 : Int), s.last)])).map spsA)], .agg [.sl false ((t1.2.map ownP).map spsA)], .agg [.sl false ((t2.2.map ownP).map spsA)], .agg [.sl false ((t3.2.map ownP).map spsA)]]] := by have h := drU4_0 p hL; injection h
        refine XKeepE.go [] _ [(3, .int .u8 w3), (9, .pim (snC s)), (11, natA 0), (12, .pim (snC (drS s 0 p)))] rfl (fun x hx => by cases hx) ⟨⟨_, rfl, .same rfl⟩, ⟨_, rfl, .all (Froz.ptr rfl (snOne s) (.low (snCL s)))⟩, ⟨_, rfl, .same rfl⟩, ⟨_, rfl, .all (by rw [hC]; exact Froz.ptr rfl (by intro v hv; simp only [List.mem_cons, List.not_mem_nil, or_false] at hv; rcases hv with rfl | rfl | rfl | rfl | rfl | rfl | rfl <;> rfl) (.cons (.low rfl) (.cons (.low rfl) (.cons (.low rfl) (.cons (.low rfl) (.cons (.low (lowWy _)) (.cons (.low (lowRk _)) (.cons (froz_tru (ds := [(t0.2.map ownP).set p (false, [((0 : Int), s.last)]), t1.2.map ownP, t2.2.map ownP, t3.2.map ownP]) rfl rfl rfl (fun x hx => by simp only [List.mem_cons, List.not_mem_nil, or_false] at hx; rcases hx with rfl | rfl | rfl | rfl <;> rfl) (.cons (Froz.grow rfl (by simp only [List.length_map, List.length_set]) (lowSps _)) (.cons (Froz.grow rfl (by simp only [List.length_map, List.length_set]) (lowSps _)) (.cons (Froz.grow rfl (by simp only [List.length_map, List.length_set]) (lowSps _)) (.cons (Froz.grow rfl (by simp only [List.length_map, List.length_set]) (lowSps _)) .nil))))) .nil))))))))⟩, trivial⟩ ?_
        exact drierRest s hb ok 0 p 8 w3 hil hpl hw3
    · as_aux_lemma =>
        repeat' first | ((with_reducible refine XInt.i64 (by omega) (by omega) ?_); conv => whnf) | ((with_reducible refine XHold.mk ?_ ?_); (first | omega | rfl | decide | exact ⟨rfl, by decide, rfl⟩ | exact wideI _ | exact widePr _ | exact wideSk _ | (unfold Room; constructor <;> ((try simp) <;> omega)) | exact ⟨rfl, by simp only [List.length_map], by unfold Room; constructor <;> ((try simp) <;> omega)⟩ | exact ⟨by omega, by omega, by unfold Room; constructor <;> ((try simp) <;> omega)⟩); conv => whnf) | (with_reducible apply XAnd.mk) | ((first | (with_reducible apply Chk.go) | (with_reducible apply ChkA.go) | (with_reducible apply ChkF.go) | (with_reducible apply ChkB.go)); conv => whnf) | (exact XSame.mk rfl rfl) | (with_reducible exact trivial) | (apply Walk.drawN (id := 2) tab_ok mixed_ok [] [] (hsU _) [_, _, _, _, _, _, _, _, _, _, _, _, _] (by kernel_rfl) rfl) | ((first | (with_reducible apply XNext.mk) | (refine XCall.ownD4 hb hL ?_)); conv => whnf) | (rw [hpp]; conv => whnf) | (rw [hii]; conv => whnf) | fail
        refine Walk.heapE [hpC u1, .cells (snC s), .grow 37 false [.gr 3 t0.2.length, .gr 4 t1.2.length, .gr 5 t2.2.length, .gr 6 t3.2.length], .grow 34 false ((t0.2.map ownP).map spsA), .grow 34 false ((t1.2.map ownP).map spsA), .grow 34 false ((t2.2.map ownP).map spsA), .grow 34 false ((t3.2.map ownP).map spsA), .cells [.int .i64 s.places, .int .i64 s.home, .int .i64 s.bed, .int .i64 s.last, .sl false (s.ways.map wyA), .sl false ((s.looks.map ownR).map rwA), .gr 2 4]] rfl ?_
        refine Walk.thenKeepN ?_
        apply Walk.drawX tab_ok mixed_ok [] [12] (hsC [_, _]) [_, _, _, _, _, _, _, _, _, _, _, _, .tup []] (by kernel_rfl) rfl
        · skip
          repeat' first | ((with_reducible refine XHold.mk ?_ ?_); (first | omega | rfl | decide | exact ⟨rfl, by decide, rfl⟩ | exact wideI _ | exact widePr _ | exact wideSk _ | (unfold Room; constructor <;> ((try simp) <;> omega)) | exact ⟨rfl, by simp only [List.length_map], by unfold Room; constructor <;> ((try simp) <;> omega)⟩ | exact ⟨by omega, by omega, by unfold Room; constructor <;> ((try simp) <;> omega)⟩); conv => whnf) | (with_reducible apply XAnd.mk) | ((first | (with_reducible apply Chk.go) | (with_reducible apply ChkA.go)); conv => whnf) | (exact XSame.mk rfl rfl) | (with_reducible exact trivial) | ((first | (refine XHold.mk ⟨rfl, rfl, by omega, by omega⟩ ?_) | (refine XGet.to _ rfl (by decide) rfl ?_) | (refine XHold.mk ⟨c1, rfl, by omega, by omega⟩ ?_) | (refine XPut.to (((t1.2.map ownP).set p (false, [((0 : Int), s.last)])).map spsA) c1.symm (by omega) (setSps _ p (false, [((0 : Int), s.last)])) ?_)); conv => whnf) | fail
        · skip
          repeat' first | (with_reducible apply XAnd.mk) | ((first | (with_reducible apply ChkF.go) | (with_reducible apply ChkB.go)); conv => whnf) | (with_reducible exact trivial) | fail
        have hC : snC (drS s 1 p) = [.int .i64 s.places, .int .i64 s.home, .int .i64 s.bed, .int .i64 s.last, .sl false (s.ways.map wyA), .sl false ((s.looks.map ownR).map rwA), .sl false [.agg [.sl false ((t0.2.map ownP).map spsA)], .agg [.sl false (((t1.2.map ownP).set p (false, [((0 : Int), s.last)])).map spsA)], .agg [.sl false ((t2.2.map ownP).map spsA)], .agg [.sl false ((t3.2.map ownP).map spsA)]]] := by have h := drU4_1 p hL; injection h
        refine XKeepE.go [] _ [(3, .int .u8 w3), (9, .pim (snC s)), (11, natA 1), (12, .pim (snC (drS s 1 p)))] rfl (fun x hx => by cases hx) ⟨⟨_, rfl, .same rfl⟩, ⟨_, rfl, .all (Froz.ptr rfl (snOne s) (.low (snCL s)))⟩, ⟨_, rfl, .same rfl⟩, ⟨_, rfl, .all (by rw [hC]; exact Froz.ptr rfl (by intro v hv; simp only [List.mem_cons, List.not_mem_nil, or_false] at hv; rcases hv with rfl | rfl | rfl | rfl | rfl | rfl | rfl <;> rfl) (.cons (.low rfl) (.cons (.low rfl) (.cons (.low rfl) (.cons (.low rfl) (.cons (.low (lowWy _)) (.cons (.low (lowRk _)) (.cons (froz_tru (ds := [t0.2.map ownP, (t1.2.map ownP).set p (false, [((0 : Int), s.last)]), t2.2.map ownP, t3.2.map ownP]) rfl rfl rfl (fun x hx => by simp only [List.mem_cons, List.not_mem_nil, or_false] at hx; rcases hx with rfl | rfl | rfl | rfl <;> rfl) (.cons (Froz.grow rfl (by simp only [List.length_map, List.length_set]) (lowSps _)) (.cons (Froz.grow rfl (by simp only [List.length_map, List.length_set]) (lowSps _)) (.cons (Froz.grow rfl (by simp only [List.length_map, List.length_set]) (lowSps _)) (.cons (Froz.grow rfl (by simp only [List.length_map, List.length_set]) (lowSps _)) .nil))))) .nil))))))))⟩, trivial⟩ ?_
        exact drierRest s hb ok 1 p 8 w3 hil hpl hw3
    · as_aux_lemma =>
        repeat' first | ((with_reducible refine XInt.i64 (by omega) (by omega) ?_); conv => whnf) | ((with_reducible refine XHold.mk ?_ ?_); (first | omega | rfl | decide | exact ⟨rfl, by decide, rfl⟩ | exact wideI _ | exact widePr _ | exact wideSk _ | (unfold Room; constructor <;> ((try simp) <;> omega)) | exact ⟨rfl, by simp only [List.length_map], by unfold Room; constructor <;> ((try simp) <;> omega)⟩ | exact ⟨by omega, by omega, by unfold Room; constructor <;> ((try simp) <;> omega)⟩); conv => whnf) | (with_reducible apply XAnd.mk) | ((first | (with_reducible apply Chk.go) | (with_reducible apply ChkA.go) | (with_reducible apply ChkF.go) | (with_reducible apply ChkB.go)); conv => whnf) | (exact XSame.mk rfl rfl) | (with_reducible exact trivial) | (apply Walk.drawN (id := 2) tab_ok mixed_ok [] [] (hsU _) [_, _, _, _, _, _, _, _, _, _, _, _, _] (by kernel_rfl) rfl) | ((first | (with_reducible apply XNext.mk) | (refine XCall.ownD4 hb hL ?_)); conv => whnf) | (rw [hpp]; conv => whnf) | (rw [hii]; conv => whnf) | fail
        refine Walk.heapE [hpC u1, .cells (snC s), .grow 37 false [.gr 3 t0.2.length, .gr 4 t1.2.length, .gr 5 t2.2.length, .gr 6 t3.2.length], .grow 34 false ((t0.2.map ownP).map spsA), .grow 34 false ((t1.2.map ownP).map spsA), .grow 34 false ((t2.2.map ownP).map spsA), .grow 34 false ((t3.2.map ownP).map spsA), .cells [.int .i64 s.places, .int .i64 s.home, .int .i64 s.bed, .int .i64 s.last, .sl false (s.ways.map wyA), .sl false ((s.looks.map ownR).map rwA), .gr 2 4]] rfl ?_
        refine Walk.thenKeepN ?_
        apply Walk.drawX tab_ok mixed_ok [] [12] (hsC [_, _]) [_, _, _, _, _, _, _, _, _, _, _, _, .tup []] (by kernel_rfl) rfl
        · skip
          repeat' first | ((with_reducible refine XHold.mk ?_ ?_); (first | omega | rfl | decide | exact ⟨rfl, by decide, rfl⟩ | exact wideI _ | exact widePr _ | exact wideSk _ | (unfold Room; constructor <;> ((try simp) <;> omega)) | exact ⟨rfl, by simp only [List.length_map], by unfold Room; constructor <;> ((try simp) <;> omega)⟩ | exact ⟨by omega, by omega, by unfold Room; constructor <;> ((try simp) <;> omega)⟩); conv => whnf) | (with_reducible apply XAnd.mk) | ((first | (with_reducible apply Chk.go) | (with_reducible apply ChkA.go)); conv => whnf) | (exact XSame.mk rfl rfl) | (with_reducible exact trivial) | ((first | (refine XHold.mk ⟨rfl, rfl, by omega, by omega⟩ ?_) | (refine XGet.to _ rfl (by decide) rfl ?_) | (refine XHold.mk ⟨c2, rfl, by omega, by omega⟩ ?_) | (refine XPut.to (((t2.2.map ownP).set p (false, [((0 : Int), s.last)])).map spsA) c2.symm (by omega) (setSps _ p (false, [((0 : Int), s.last)])) ?_)); conv => whnf) | fail
        · skip
          repeat' first | (with_reducible apply XAnd.mk) | ((first | (with_reducible apply ChkF.go) | (with_reducible apply ChkB.go)); conv => whnf) | (with_reducible exact trivial) | fail
        have hC : snC (drS s 2 p) = [.int .i64 s.places, .int .i64 s.home, .int .i64 s.bed, .int .i64 s.last, .sl false (s.ways.map wyA), .sl false ((s.looks.map ownR).map rwA), .sl false [.agg [.sl false ((t0.2.map ownP).map spsA)], .agg [.sl false ((t1.2.map ownP).map spsA)], .agg [.sl false (((t2.2.map ownP).set p (false, [((0 : Int), s.last)])).map spsA)], .agg [.sl false ((t3.2.map ownP).map spsA)]]] := by have h := drU4_2 p hL; injection h
        refine XKeepE.go [] _ [(3, .int .u8 w3), (9, .pim (snC s)), (11, natA 2), (12, .pim (snC (drS s 2 p)))] rfl (fun x hx => by cases hx) ⟨⟨_, rfl, .same rfl⟩, ⟨_, rfl, .all (Froz.ptr rfl (snOne s) (.low (snCL s)))⟩, ⟨_, rfl, .same rfl⟩, ⟨_, rfl, .all (by rw [hC]; exact Froz.ptr rfl (by intro v hv; simp only [List.mem_cons, List.not_mem_nil, or_false] at hv; rcases hv with rfl | rfl | rfl | rfl | rfl | rfl | rfl <;> rfl) (.cons (.low rfl) (.cons (.low rfl) (.cons (.low rfl) (.cons (.low rfl) (.cons (.low (lowWy _)) (.cons (.low (lowRk _)) (.cons (froz_tru (ds := [t0.2.map ownP, t1.2.map ownP, (t2.2.map ownP).set p (false, [((0 : Int), s.last)]), t3.2.map ownP]) rfl rfl rfl (fun x hx => by simp only [List.mem_cons, List.not_mem_nil, or_false] at hx; rcases hx with rfl | rfl | rfl | rfl <;> rfl) (.cons (Froz.grow rfl (by simp only [List.length_map, List.length_set]) (lowSps _)) (.cons (Froz.grow rfl (by simp only [List.length_map, List.length_set]) (lowSps _)) (.cons (Froz.grow rfl (by simp only [List.length_map, List.length_set]) (lowSps _)) (.cons (Froz.grow rfl (by simp only [List.length_map, List.length_set]) (lowSps _)) .nil))))) .nil))))))))⟩, trivial⟩ ?_
        exact drierRest s hb ok 2 p 8 w3 hil hpl hw3
    · as_aux_lemma =>
        repeat' first | ((with_reducible refine XInt.i64 (by omega) (by omega) ?_); conv => whnf) | ((with_reducible refine XHold.mk ?_ ?_); (first | omega | rfl | decide | exact ⟨rfl, by decide, rfl⟩ | exact wideI _ | exact widePr _ | exact wideSk _ | (unfold Room; constructor <;> ((try simp) <;> omega)) | exact ⟨rfl, by simp only [List.length_map], by unfold Room; constructor <;> ((try simp) <;> omega)⟩ | exact ⟨by omega, by omega, by unfold Room; constructor <;> ((try simp) <;> omega)⟩); conv => whnf) | (with_reducible apply XAnd.mk) | ((first | (with_reducible apply Chk.go) | (with_reducible apply ChkA.go) | (with_reducible apply ChkF.go) | (with_reducible apply ChkB.go)); conv => whnf) | (exact XSame.mk rfl rfl) | (with_reducible exact trivial) | (apply Walk.drawN (id := 2) tab_ok mixed_ok [] [] (hsU _) [_, _, _, _, _, _, _, _, _, _, _, _, _] (by kernel_rfl) rfl) | ((first | (with_reducible apply XNext.mk) | (refine XCall.ownD4 hb hL ?_)); conv => whnf) | (rw [hpp]; conv => whnf) | (rw [hii]; conv => whnf) | fail
        refine Walk.heapE [hpC u1, .cells (snC s), .grow 37 false [.gr 3 t0.2.length, .gr 4 t1.2.length, .gr 5 t2.2.length, .gr 6 t3.2.length], .grow 34 false ((t0.2.map ownP).map spsA), .grow 34 false ((t1.2.map ownP).map spsA), .grow 34 false ((t2.2.map ownP).map spsA), .grow 34 false ((t3.2.map ownP).map spsA), .cells [.int .i64 s.places, .int .i64 s.home, .int .i64 s.bed, .int .i64 s.last, .sl false (s.ways.map wyA), .sl false ((s.looks.map ownR).map rwA), .gr 2 4]] rfl ?_
        refine Walk.thenKeepN ?_
        apply Walk.drawX tab_ok mixed_ok [] [12] (hsC [_, _]) [_, _, _, _, _, _, _, _, _, _, _, _, .tup []] (by kernel_rfl) rfl
        · skip
          repeat' first | ((with_reducible refine XHold.mk ?_ ?_); (first | omega | rfl | decide | exact ⟨rfl, by decide, rfl⟩ | exact wideI _ | exact widePr _ | exact wideSk _ | (unfold Room; constructor <;> ((try simp) <;> omega)) | exact ⟨rfl, by simp only [List.length_map], by unfold Room; constructor <;> ((try simp) <;> omega)⟩ | exact ⟨by omega, by omega, by unfold Room; constructor <;> ((try simp) <;> omega)⟩); conv => whnf) | (with_reducible apply XAnd.mk) | ((first | (with_reducible apply Chk.go) | (with_reducible apply ChkA.go)); conv => whnf) | (exact XSame.mk rfl rfl) | (with_reducible exact trivial) | ((first | (refine XHold.mk ⟨rfl, rfl, by omega, by omega⟩ ?_) | (refine XGet.to _ rfl (by decide) rfl ?_) | (refine XHold.mk ⟨c3, rfl, by omega, by omega⟩ ?_) | (refine XPut.to (((t3.2.map ownP).set p (false, [((0 : Int), s.last)])).map spsA) c3.symm (by omega) (setSps _ p (false, [((0 : Int), s.last)])) ?_)); conv => whnf) | fail
        · skip
          repeat' first | (with_reducible apply XAnd.mk) | ((first | (with_reducible apply ChkF.go) | (with_reducible apply ChkB.go)); conv => whnf) | (with_reducible exact trivial) | fail
        have hC : snC (drS s 3 p) = [.int .i64 s.places, .int .i64 s.home, .int .i64 s.bed, .int .i64 s.last, .sl false (s.ways.map wyA), .sl false ((s.looks.map ownR).map rwA), .sl false [.agg [.sl false ((t0.2.map ownP).map spsA)], .agg [.sl false ((t1.2.map ownP).map spsA)], .agg [.sl false ((t2.2.map ownP).map spsA)], .agg [.sl false (((t3.2.map ownP).set p (false, [((0 : Int), s.last)])).map spsA)]]] := by have h := drU4_3 p hL; injection h
        refine XKeepE.go [] _ [(3, .int .u8 w3), (9, .pim (snC s)), (11, natA 3), (12, .pim (snC (drS s 3 p)))] rfl (fun x hx => by cases hx) ⟨⟨_, rfl, .same rfl⟩, ⟨_, rfl, .all (Froz.ptr rfl (snOne s) (.low (snCL s)))⟩, ⟨_, rfl, .same rfl⟩, ⟨_, rfl, .all (by rw [hC]; exact Froz.ptr rfl (by intro v hv; simp only [List.mem_cons, List.not_mem_nil, or_false] at hv; rcases hv with rfl | rfl | rfl | rfl | rfl | rfl | rfl <;> rfl) (.cons (.low rfl) (.cons (.low rfl) (.cons (.low rfl) (.cons (.low rfl) (.cons (.low (lowWy _)) (.cons (.low (lowRk _)) (.cons (froz_tru (ds := [t0.2.map ownP, t1.2.map ownP, t2.2.map ownP, (t3.2.map ownP).set p (false, [((0 : Int), s.last)])]) rfl rfl rfl (fun x hx => by simp only [List.mem_cons, List.not_mem_nil, or_false] at hx; rcases hx with rfl | rfl | rfl | rfl <;> rfl) (.cons (Froz.grow rfl (by simp only [List.length_map, List.length_set]) (lowSps _)) (.cons (Froz.grow rfl (by simp only [List.length_map, List.length_set]) (lowSps _)) (.cons (Froz.grow rfl (by simp only [List.length_map, List.length_set]) (lowSps _)) (.cons (Froz.grow rfl (by simp only [List.length_map, List.length_set]) (lowSps _)) .nil))))) .nil))))))))⟩, trivial⟩ ?_
        exact drierRest s hb ok 3 p 8 w3 hil hpl hw3
end GA
end
