/- Part 7 of a proof: F43, F65, F37, F75, F19, Abs43, F76. -/
import Derived.Test.YtinbgkoefajhbaaP6
section
namespace GA
open Go Go.RowKit Go.Proofs
set_option pp.deepTerms true
set_option maxRecDepth 8000
set_option linter.unusedVariables false
set_option linter.unusedSimpArgs false

theorem clone_zi (xs : List Int) (hx : xs.length ≤ 100000) : Comp Try.prog 40 [.sl false (ints xs)] (.sl false (ints xs)) := by
  have e1 : ((ints xs).length : Int) = xs.length := by rw [ints_len]
  refine Comp.body (T := tab) (res := [.tmp 2]) tab_ok [5] Try.func40 rfl (by kernel_rfl) Try.ntmps40 rfl (by simp only [List.length_cons, List.length_nil]; decide) (by simp only [lowL, AV.low, lowI]; rfl) ?_; conv => whnf
  repeat' first | ((with_reducible first | apply XBr.tt | apply XBr.ff | apply Chk.go | apply ChkA.go | apply ChkF.go | apply ChkB.go | apply XArr.pim0 | apply XArr.pim1); conv => whnf) | (with_reducible apply XBr.not) | ((with_reducible apply XBr.dec) <;> (intro h; first | (exfalso; omega) | ((try simp only [List.length_map] at h); first | (exfalso; omega) | (conv => whnf)))) | ((with_reducible first | apply XBr.beq | apply XBr.bne) <;> (intro h; first | (exfalso; omega) | (conv => whnf))) | ((with_reducible refine XInt.i64 (by omega) (by omega) ?_); conv => whnf) | ((with_reducible refine XHold.mk ?_ ?_); (first | omega | rfl | decide | exact ⟨rfl, by decide, rfl⟩ | exact wideI _ | exact widePr _ | exact wideSk _ | (unfold Room; constructor <;> ((try simp) <;> omega)) | exact ⟨rfl, by simp only [List.length_map], by unfold Room; constructor <;> ((try simp) <;> omega)⟩ | exact ⟨by omega, by omega, by unfold Room; constructor <;> ((try simp) <;> omega)⟩); conv => whnf) | ((first | ((with_reducible refine XIx.nat ?_ ?_ ?_); omega; (intro _; rfl)) | ((with_reducible refine XIx.map ?_ ?_ ?_ ?_); omega; omega; (intro _; rfl))); conv => whnf) | (with_reducible apply XAnd.mk) | (exact XSame.mk rfl rfl) | (exact XSame.mk (by first | rfl | (simp only [List.map_append, List.length_append, List.length_map]; done) | (simp only [List.map_append, List.length_append, List.length_map]; rfl)) (by first | rfl | (simp only [List.map_append]; done) | (simp only [List.map_append]; rfl))) | (with_reducible exact trivial) | ((first | (with_reducible refine xdrop_app (by rw [List.length_map]; omega) ?_) | (with_reducible refine XDrop.desk (by assumption) ?_) | (with_reducible first | refine XArr.ints (by omega) (by omega) (by omega) ?_ | refine XArr.intsA (by omega) (by omega) (by omega) ?_) | ((with_reducible first | refine XArr.nats ?_ ?_ ?_ | refine XArr.natsA ?_ ?_ ?_ | refine XArr.ptr ?_ ?_ ?_); omega; omega) | (with_reducible apply XNext.mk)); conv => whnf) | ((with_reducible apply XBr.mk') <;> (intro h; conv => whnf))
  exact ⟨Froz.grow rfl (by simp) (lowI xs)⟩
theorem wTab_row {s : Sn} (ok : SnOk s) {p m : Nat} (hp : (p : Int) < s.places) (hm : (m : Int) ≤ s.last) : ((wTab s).drop (976 * p + 16 * m)).take (allN s + 1) = zvs (allN s + 1) fun l => worthZ s ⟨p, m, l⟩ := by
  have hal := allN_lt ok; have p2 := ok.p2; have l2 := ok.l2
  apply List.ext_getElem?
  intro l
  rw [List.getElem?_take]
  by_cases h : l < allN s + 1
  · rw [if_pos h, List.getElem?_drop, wTab_at s ok ⟨hp, hm, by show l ≤ allN s; omega⟩]
    unfold zvs
    rw [List.getElem?_map, vecF_get?, if_pos h]; rfl
  · rw [if_neg h, List.getElem?_eq_none (by rw [zvs_len]; omega)]
def wrR (s : Sn) (p m : Nat) : AV := rwA (false, vecF (allN s + 1) fun l => worthZ s ⟨p, m, l⟩)
def wrP (s : Sn) (M p : Nat) : AV := .sl false (vecF M (wrR s p))
def wrE (s : Sn) (M p q : Nat) : AV := if q < p then wrP s M q else .sl true []
theorem wrE_one (s : Sn) (M p : Nat) (P : Nat) : ∀ x ∈ vecF P (wrE s M p), x.one = true := fun x hx => by
  obtain ⟨q, -, rfl⟩ := vecF_mem.1 hx
  unfold wrE; split <;> rfl
theorem wrR_low {n : Nat} (s : Sn) (p m : Nat) : (wrR s p m).low n = true := rwL _
theorem wrP_low {n : Nat} (s : Sn) (M p : Nat) : (wrP s M p).low n = true := by
  show lowL n (vecF M (wrR s p)) = true
  rw [lowL_iff]; intro x hx
  obtain ⟨q, -, rfl⟩ := vecF_mem.1 hx
  exact wrR_low s p q
theorem wrE_low {n : Nat} (s : Sn) (M p P : Nat) : lowL n (vecF P (wrE s M p)) = true := by
  rw [lowL_iff]; intro x hx
  obtain ⟨q, -, rfl⟩ := vecF_mem.1 hx
  unfold wrE; split
  · exact wrP_low s M q
  · rfl
theorem wrE_at {s : Sn} {M p P : Nat} (h : p < P) : (vecF P (wrE s M p))[p]? = some (.sl true []) := by
  rw [vecF_get?, if_pos h]; unfold wrE; rw [if_neg (by omega)]
theorem wrE_next {s : Sn} {M p P : Nat} (h : p < P) : (vecF P (wrE s M p)).set p (wrP s M p) = vecF P (wrE s M (p + 1)) := by
  rw [vecF_set]
  refine vecF_congr fun q hq => ?_
  unfold updV wrE
  by_cases e : q = p
  · rw [if_pos e, e, if_pos (by omega)]
  · rw [if_neg e]
    by_cases e2 : q < p
    · rw [if_pos e2, if_pos (by omega)]
    · rw [if_neg e2, if_neg (by omega)]
theorem wrE_0 (s : Sn) (M P : Nat) : vecF P (wrE s M 0) = List.replicate P (.sl true []) := by
  rw [← vecF_replicate]
  refine vecF_congr fun q _ => ?_
  unfold wrE; rw [if_neg (by omega)]
theorem wrE_all (s : Sn) (M P : Nat) (hM : M = (s.last + 1).toNat) (hP : P = s.places.toNat) : vecF P (wrE s M P) = (wrT s).map rsT := by
  unfold wrT mkT
  rw [vecF_map, ← hM, ← hP]
  refine vecF_congr fun p hp => ?_
  unfold wrE
  rw [if_pos hp]
  show AV.sl false _ = AV.sl false _
  rw [vecF_map]; rfl
theorem XCall.as {P : Program} {f : FuncId} {rs rs' : List AV} {H : List Blk} {k : AV → List Blk → Prop} (e : rs' = rs) (x : XCall P f rs' H k) : XCall P f rs H k := e ▸ x
theorem fMade_ok (s : Sn) (hb : SnB s) (ok : SnOk s) : Comp Try.prog 10 [snA s] (.tup [.sl false ((wrT s).map rsT), .int .i64 0]) := by
  have p1 := ok.p1; have p2 := ok.p2; have l1 := ok.l1; have l2 := ok.l2
  have hal := allN_lt ok
  have ho := fdOpened_c s hb ok
  have hw := worths_c s ok
  have hac := fall_c s ok
  obtain ⟨P0, hP0⟩ : ∃ P0 : Nat, s.places = P0 := ⟨s.places.toNat, by omega⟩
  obtain ⟨L0, hL0⟩ : ∃ L0 : Nat, s.last = L0 := ⟨s.last.toNat, by omega⟩
  refine Comp.body (T := tab) (res := [.tmp 2, .tmp 3]) tab_ok [] Try.func10 rfl (by kernel_rfl) Try.ntmps10 rfl (by simp only [List.length_cons, List.length_nil]; decide) (by simp only [lowL, snL]; rfl) ?_; conv => whnf
  repeat' first | ((with_reducible first | apply XBr.tt | apply XBr.ff | apply Chk.go | apply ChkA.go | apply ChkF.go | apply ChkB.go | apply XArr.pim0 | apply XArr.pim1); conv => whnf) | (with_reducible apply XBr.not) | ((with_reducible apply XBr.dec) <;> (intro h; first | (exfalso; omega) | ((try simp only [List.length_map] at h); first | (exfalso; omega) | (conv => whnf)))) | ((with_reducible first | apply XBr.beq | apply XBr.bne) <;> (intro h; first | (exfalso; omega) | (conv => whnf))) | ((with_reducible refine XInt.i64 (by omega) (by omega) ?_); conv => whnf) | ((with_reducible refine XHold.mk ?_ ?_); (first | omega | rfl | decide | exact ⟨rfl, by decide, rfl⟩ | exact wideI _ | exact widePr _ | exact wideSk _ | (unfold Room; constructor <;> ((try simp) <;> omega)) | exact ⟨rfl, by simp only [List.length_map], by unfold Room; constructor <;> ((try simp) <;> omega)⟩ | exact ⟨by omega, by omega, by unfold Room; constructor <;> ((try simp) <;> omega)⟩); conv => whnf) | ((first | ((with_reducible refine XIx.nat ?_ ?_ ?_); omega; (intro _; rfl)) | ((with_reducible refine XIx.map ?_ ?_ ?_ ?_); omega; omega; (intro _; rfl))); conv => whnf) | (with_reducible apply XAnd.mk) | (exact XSame.mk rfl rfl) | (exact XSame.mk (by first | rfl | (simp only [List.map_append, List.length_append, List.length_map]; done) | (simp only [List.map_append, List.length_append, List.length_map]; rfl)) (by first | rfl | (simp only [List.map_append]; done) | (simp only [List.map_append]; rfl))) | (with_reducible exact trivial) | ((first | (with_reducible refine xdrop_app (by rw [List.length_map]; omega) ?_) | (with_reducible refine XDrop.desk (by assumption) ?_) | (with_reducible first | refine XArr.ints (by omega) (by omega) (by omega) ?_ | refine XArr.intsA (by omega) (by omega) (by omega) ?_) | ((with_reducible first | refine XArr.nats ?_ ?_ ?_ | refine XArr.natsA ?_ ?_ ?_ | refine XArr.ptr ?_ ?_ ?_); omega; omega)); conv => whnf) | (apply Walk.drawN (id := 12) tab_ok mixed_ok [] [18, 20] (hsC [_, _, _]) [_, _, _, _, _, _, _, _, _, _, _, _, _, _, _, _, _, _, _, _, _] (by kernel_rfl) rfl) | ((first | (with_reducible apply XNext.mk) | (refine XCall.ret ho ?_) | (refine XCall.ret hw ?_)); conv => whnf) | ((refine XHold.mk ⟨by omega, by omega, by unfold Room; constructor <;> omega⟩ ?_); conv => whnf) | ((refine XHold.mk List.length_replicate ?_); conv => whnf) | ((with_reducible apply XBr.mk') <;> (intro h; conv => whnf))
  refine Walk.loopGK tab_ok [] [(1, _), (2, _), (3, _), (4, _), (6, _), (24, _)] ⟨rfl, rfl, rfl, rfl, rfl, rfl, trivial⟩ (fun p : Nat => p ≤ P0) (fun p => [(7, .gr 0 P0), (25, natA p)]) (fun p => [.grow 24 false (vecF P0 (wrE s (L0 + 1) p))]) (fun p => P0 - p) 0 (Nat.zero_le _) (by rw [wrE_0]; show [Blk.grow _ _ (List.replicate P0 _)] = [Blk.grow _ _ (List.replicate s.places.toNat _)]; rw [hP0, Int.toNat_natCast]) ⟨(by show some (AV.gr 0 s.places.toNat) = some (AV.gr 0 P0); rw [hP0, Int.toNat_natCast]), rfl, trivial⟩ ?_ (fun _ _ => (show (1 : Nat) ≤ 1 from Nat.le_refl 1)) ?_
  · intro p _
    refine ⟨fun z hz => ?_, fun z hz => ?_⟩
    · rw [List.mem_singleton] at hz; subst hz; exact wrE_low _ _ _ _
    · simp only [List.cons_append, List.nil_append, List.mem_cons, List.not_mem_nil, or_false] at hz
      rcases hz with rfl | rfl | rfl | rfl | rfl | rfl | rfl | rfl <;> first | rfl | exact snCL s | exact dskFL s | exact worsL s
  intro p hp
  have hnx : p < P0 → (vecF P0 (wrE s (L0 + 1) p)).set p (wrP s (L0 + 1) p) = vecF P0 (wrE s (L0 + 1) (p + 1)) := wrE_next
  have hone := wrE_one s (L0 + 1) p P0
  have hat : p < P0 → (vecF P0 (wrE s (L0 + 1) p))[p]? = some (.sl true []) := wrE_at
  have hel := wrE_low (n := 0) s (L0 + 1) p P0
  have hlen : (vecF P0 (wrE s (L0 + 1) p)).length = P0 := vecF_len _ _
  have hall : p = P0 → vecF P0 (wrE s (L0 + 1) p) = (wrT s).map rsT := fun h => by rw [h]; exact wrE_all s _ _ (by omega) (by omega)
  generalize vecF P0 (wrE s (L0 + 1) p) = els at hnx hone hat hel hlen hall
  conv => whnf
  by_cases hlt : p < P0
  · have hlt' : p < els.length := by omega
    have hsl : ∀ v, (els.set p v).length = P0 := fun v => by rw [List.length_set]; exact hlen
    repeat' first | ((with_reducible first | apply XBr.tt | apply XBr.ff | apply Chk.go | apply ChkA.go | apply ChkF.go | apply ChkB.go | apply XArr.pim0 | apply XArr.pim1); conv => whnf) | (with_reducible apply XBr.not) | ((with_reducible apply XBr.dec) <;> (intro h; first | (exfalso; omega) | ((try simp only [List.length_map] at h); first | (exfalso; omega) | (conv => whnf)))) | ((with_reducible first | apply XBr.beq | apply XBr.bne) <;> (intro h; first | (exfalso; omega) | (conv => whnf))) | ((with_reducible refine XInt.i64 (by omega) (by omega) ?_); conv => whnf) | ((with_reducible refine XHold.mk ?_ ?_); (first | omega | rfl | decide | exact ⟨rfl, by decide, rfl⟩ | exact wideI _ | exact widePr _ | exact wideSk _ | (unfold Room; constructor <;> ((try simp) <;> omega)) | exact ⟨rfl, by simp only [List.length_map], by unfold Room; constructor <;> ((try simp) <;> omega)⟩ | exact ⟨by omega, by omega, by unfold Room; constructor <;> ((try simp) <;> omega)⟩); conv => whnf) | ((first | ((with_reducible refine XIx.nat ?_ ?_ ?_); omega; (intro _; rfl)) | ((with_reducible refine XIx.map ?_ ?_ ?_ ?_); omega; omega; (intro _; rfl))); conv => whnf) | (with_reducible apply XAnd.mk) | (exact XSame.mk rfl rfl) | (exact XSame.mk (by first | rfl | (simp only [List.map_append, List.length_append, List.length_map]; done) | (simp only [List.map_append, List.length_append, List.length_map]; rfl)) (by first | rfl | (simp only [List.map_append]; done) | (simp only [List.map_append]; rfl))) | (with_reducible exact trivial) | ((first | (with_reducible refine xdrop_app (by rw [List.length_map]; omega) ?_) | (with_reducible refine XDrop.desk (by assumption) ?_) | (with_reducible first | refine XArr.ints (by omega) (by omega) (by omega) ?_ | refine XArr.intsA (by omega) (by omega) (by omega) ?_) | ((with_reducible first | refine XArr.nats ?_ ?_ ?_ | refine XArr.natsA ?_ ?_ ?_ | refine XArr.ptr ?_ ?_ ?_); omega; omega)); conv => whnf) | (apply Walk.drawN (id := 12) tab_ok mixed_ok [] [18, 20] (hsC [_, _, _]) [_, _, _, _, _, _, _, _, _, _, _, _, _, _, _, _, _, _, _, _, _] (by kernel_rfl) rfl) | ((with_reducible apply XNext.mk); conv => whnf) | ((with_reducible apply XBr.mk') <;> (intro h; conv => whnf))
    refine Walk.nilRowIn 0 p 43 rfl hone (hat hlt) ?_
    refine Walk.thenDo ?_
    refine Walk.loopGK tab_ok [] [(1, _), (2, _), (3, _), (4, _), (6, _), (7, _), (8, _), (24, _), (25, _), (30, _)] ⟨rfl, rfl, rfl, rfl, rfl, rfl, rfl, rfl, rfl, rfl, trivial⟩ (fun m : Nat => m ≤ L0 + 1) (fun m => [(31, natA m)]) (fun m => [.grow 24 false (els.set p (.gr 1 m)), .grow 43 (vecF m (wrR s p)).isEmpty (vecF m (wrR s p))]) (fun m => L0 + 1 - m) 0 (Nat.zero_le _) (by rw [show vecF 0 (wrR s p) = [] by rw [vecF_eq]; rfl]; rfl) ⟨rfl, trivial⟩ ?_ (fun _ _ => (show (2 : Nat) ≤ 2 from Nat.le_refl 2)) ?_
    · intro m _
      refine ⟨fun z hz => ?_, fun z hz => ?_⟩
      · simp only [List.mem_cons, List.not_mem_nil, or_false] at hz
        rcases hz with rfl | rfl
        · show lowL 2 (els.set p (.gr 1 m)) = true
          rw [lowL_iff]
          intro y hy
          rcases List.mem_or_eq_of_mem_set hy with hy | rfl
          · exact AV.low_mono (Nat.zero_le _) ((lowL_iff.1 hel) y hy)
          · rfl
        · show lowL 2 (vecF m (wrR s p)) = true
          rw [lowL_iff]; intro y hy
          obtain ⟨q, -, rfl⟩ := vecF_mem.1 hy
          exact wrR_low s p q
      · simp only [List.cons_append, List.nil_append, List.mem_cons, List.not_mem_nil, or_false] at hz
        rcases hz with rfl | rfl | rfl | rfl | rfl | rfl | rfl | rfl | rfl | rfl | rfl <;> first | rfl | exact snCL s | exact dskFL s | exact worsL s
    intro m hm
    have hRs := vecF_succ m (wrR s p)
    have hRl : (vecF m (wrR s p)).length = m := vecF_len _ _
    have hRP : m = L0 + 1 → AV.sl false (vecF m (wrR s p)) = wrP s (L0 + 1) p := fun h => by rw [h]; rfl
    have hRe : m = L0 + 1 → (vecF m (wrR s p)).isEmpty = false := fun h => by
      cases hh : vecF m (wrR s p) with
      | nil => rw [hh] at hRl; simp at hRl; omega
      | cons _ _ => rfl
    generalize vecF m (wrR s p) = R at hRs hRl hRP hRe
    conv => whnf
    by_cases hlt2 : m < L0 + 1
    · have hrow : List.take (((allN s : Nat) : Int) + 1 - 0).toNat (List.drop (Int.toNat 0) (List.drop ((m : Int).toNat * 16) (List.drop ((p : Int).toNat * 976) (wTab s)))) = ints (vecF (allN s + 1) fun l => worthZ s ⟨p, m, l⟩) := by
        have h := wTab_row ok (p := p) (m := m) (by omega) (by omega)
        rw [zvs_ints] at h
        rw [← h, List.drop_drop, List.drop_drop]
        congr 2 <;> omega
      have hcl := clone_zi (vecF (allN s + 1) fun l => worthZ s ⟨p, m, l⟩) (by rw [vecF_len]; omega)
      have hwl : (wTab s).length = 4880 := zvs_len _ _
      repeat' first | ((with_reducible first | apply XBr.tt | apply XBr.ff | apply Chk.go | apply ChkA.go | apply ChkF.go | apply ChkB.go | apply XArr.pim0 | apply XArr.pim1); conv => whnf) | (with_reducible apply XBr.not) | ((with_reducible apply XBr.dec) <;> (intro h; first | (exfalso; omega) | ((try simp only [List.length_map] at h); first | (exfalso; omega) | (conv => whnf)))) | ((with_reducible first | apply XBr.beq | apply XBr.bne) <;> (intro h; first | (exfalso; omega) | (conv => whnf))) | ((with_reducible refine XInt.i64 (by omega) (by omega) ?_); conv => whnf) | ((with_reducible refine XHold.mk ?_ ?_); (first | omega | rfl | decide | exact ⟨rfl, by decide, rfl⟩ | exact wideI _ | exact widePr _ | exact wideSk _ | (unfold Room; constructor <;> ((try simp) <;> omega)) | exact ⟨rfl, by simp only [List.length_map], by unfold Room; constructor <;> ((try simp) <;> omega)⟩ | exact ⟨by omega, by omega, by unfold Room; constructor <;> ((try simp) <;> omega)⟩); conv => whnf) | ((first | ((with_reducible refine XIx.nat ?_ ?_ ?_); omega; (intro _; rfl)) | ((with_reducible refine XIx.map ?_ ?_ ?_ ?_); omega; omega; (intro _; rfl))); conv => whnf) | (with_reducible apply XAnd.mk) | (exact XSame.mk rfl rfl) | (exact XSame.mk (by first | rfl | (simp only [List.map_append, List.length_append, List.length_map]; done) | (simp only [List.map_append, List.length_append, List.length_map]; rfl)) (by first | rfl | (simp only [List.map_append]; done) | (simp only [List.map_append]; rfl))) | (with_reducible exact trivial) | ((first | (with_reducible refine xdrop_app (by rw [List.length_map]; omega) ?_) | (with_reducible refine XDrop.desk (by assumption) ?_) | (with_reducible first | refine XArr.ints (by omega) (by omega) (by omega) ?_ | refine XArr.intsA (by omega) (by omega) (by omega) ?_) | ((with_reducible first | refine XArr.nats ?_ ?_ ?_ | refine XArr.natsA ?_ ?_ ?_ | refine XArr.ptr ?_ ?_ ?_); omega; omega) | (with_reducible apply XNext.mk)); conv => whnf) | ((with_reducible apply XBr.mk') <;> (intro h; conv => whnf))
      apply Walk.drawX tab_ok mixed_ok [] [18, 20] (hsC [_, _, _]) [_, _, _, _, _, _, _, _, _, _, _, _, _, _, _, _, _, _, _, _, _] (by kernel_rfl) rfl
      · skip
        repeat' first | ((with_reducible first | apply XBr.tt | apply XBr.ff | apply Chk.go | apply ChkA.go | apply ChkF.go | apply ChkB.go | apply XArr.pim0 | apply XArr.pim1); conv => whnf) | (with_reducible apply XBr.not) | ((with_reducible apply XBr.dec) <;> (intro h; first | (exfalso; omega) | ((try simp only [List.length_map] at h); first | (exfalso; omega) | (conv => whnf)))) | ((with_reducible first | apply XBr.beq | apply XBr.bne) <;> (intro h; first | (exfalso; omega) | (conv => whnf))) | ((with_reducible refine XInt.i64 (by omega) (by omega) ?_); conv => whnf) | ((with_reducible refine XHold.mk ?_ ?_); (first | omega | rfl | decide | exact ⟨rfl, by decide, rfl⟩ | exact wideI _ | exact widePr _ | exact wideSk _ | (unfold Room; constructor <;> ((try simp) <;> omega)) | exact ⟨rfl, by simp only [List.length_map], by unfold Room; constructor <;> ((try simp) <;> omega)⟩ | exact ⟨by omega, by omega, by unfold Room; constructor <;> ((try simp) <;> omega)⟩); conv => whnf) | ((first | ((with_reducible refine XIx.nat ?_ ?_ ?_); omega; (intro _; rfl)) | ((with_reducible refine XIx.map ?_ ?_ ?_ ?_); omega; omega; (intro _; rfl))); conv => whnf) | (with_reducible apply XAnd.mk) | (exact XSame.mk rfl rfl) | (exact XSame.mk (by first | rfl | (simp only [List.map_append, List.length_append, List.length_map]; done) | (simp only [List.map_append, List.length_append, List.length_map]; rfl)) (by first | rfl | (simp only [List.map_append]; done) | (simp only [List.map_append]; rfl))) | (with_reducible exact trivial) | ((first | (with_reducible refine xdrop_app (by rw [List.length_map]; omega) ?_) | (with_reducible refine XDrop.desk (by assumption) ?_) | (with_reducible first | refine XArr.ints (by omega) (by omega) (by omega) ?_ | refine XArr.intsA (by omega) (by omega) (by omega) ?_) | ((with_reducible first | refine XArr.nats ?_ ?_ ?_ | refine XArr.natsA ?_ ?_ ?_ | refine XArr.ptr ?_ ?_ ?_); omega; omega)); conv => whnf) | (apply Walk.drawN (id := 12) tab_ok mixed_ok [] [18, 20] (hsC [_, _, _]) [_, _, _, _, _, _, _, _, _, _, _, _, _, _, _, _, _, _, _, _, _] (by kernel_rfl) rfl) | ((first | (with_reducible apply XNext.mk) | (refine XGet.set rfl hlt' hlen.symm ?_) | (refine XArr.pim (by omega) (by omega) ?_) | (refine XCall.ret hac ?_) | ((refine XHold.mk ⟨?_, by omega, by omega, by omega⟩ ?_); (simp only [List.length_drop, hwl]; omega)) | (refine XHold.mk ⟨hsl _, rfl, by omega, by omega⟩ ?_) | ((refine XCall.as (congrArg (fun l => [AV.sl false l]) hrow.symm) ?_); (refine XCall.ret hcl ?_))); conv => whnf) | ((refine XHold.mk ⟨rfl, hRl, by unfold Room; constructor <;> ((try simp) <;> omega)⟩ ?_); conv => whnf) | ((refine XPut.set rfl hlt' hlen.symm ?_); conv => whnf) | ((with_reducible apply XBr.mk') <;> (intro h; conv => whnf))
      · skip
        repeat' first | ((with_reducible first | apply XBr.tt | apply XBr.ff | apply Chk.go | apply ChkA.go | apply ChkF.go | apply ChkB.go | apply XArr.pim0 | apply XArr.pim1); conv => whnf) | (with_reducible apply XBr.not) | ((with_reducible apply XBr.dec) <;> (intro h; first | (exfalso; omega) | ((try simp only [List.length_map] at h); first | (exfalso; omega) | (conv => whnf)))) | ((with_reducible first | apply XBr.beq | apply XBr.bne) <;> (intro h; first | (exfalso; omega) | (conv => whnf))) | ((with_reducible refine XInt.i64 (by omega) (by omega) ?_); conv => whnf) | ((with_reducible refine XHold.mk ?_ ?_); (first | omega | rfl | decide | exact ⟨rfl, by decide, rfl⟩ | exact wideI _ | exact widePr _ | exact wideSk _ | (unfold Room; constructor <;> ((try simp) <;> omega)) | exact ⟨rfl, by simp only [List.length_map], by unfold Room; constructor <;> ((try simp) <;> omega)⟩ | exact ⟨by omega, by omega, by unfold Room; constructor <;> ((try simp) <;> omega)⟩); conv => whnf) | ((first | ((with_reducible refine XIx.nat ?_ ?_ ?_); omega; (intro _; rfl)) | ((with_reducible refine XIx.map ?_ ?_ ?_ ?_); omega; omega; (intro _; rfl))); conv => whnf) | (with_reducible apply XAnd.mk) | (exact XSame.mk rfl rfl) | (exact XSame.mk (by first | rfl | (simp only [List.map_append, List.length_append, List.length_map]; done) | (simp only [List.map_append, List.length_append, List.length_map]; rfl)) (by first | rfl | (simp only [List.map_append]; done) | (simp only [List.map_append]; rfl))) | (with_reducible exact trivial) | ((first | (with_reducible refine xdrop_app (by rw [List.length_map]; omega) ?_) | (with_reducible refine XDrop.desk (by assumption) ?_) | (with_reducible first | refine XArr.ints (by omega) (by omega) (by omega) ?_ | refine XArr.intsA (by omega) (by omega) (by omega) ?_) | ((with_reducible first | refine XArr.nats ?_ ?_ ?_ | refine XArr.natsA ?_ ?_ ?_ | refine XArr.ptr ?_ ?_ ?_); omega; omega)); conv => whnf) | (apply Walk.drawN (id := 12) tab_ok mixed_ok [] [18, 20] (hsC [_, _, _]) [_, _, _, _, _, _, _, _, _, _, _, _, _, _, _, _, _, _, _, _, _] (by kernel_rfl) rfl) | ((first | (with_reducible apply XNext.mk) | (refine XGet.set rfl hlt' hlen.symm ?_) | (refine XArr.pim (by omega) (by omega) ?_) | (refine XCall.ret hac ?_) | ((refine XHold.mk ⟨?_, by omega, by omega, by omega⟩ ?_); (simp only [List.length_drop, hwl]; omega)) | (refine XHold.mk ⟨hsl _, rfl, by omega, by omega⟩ ?_) | ((refine XCall.as (congrArg (fun l => [AV.sl false l]) hrow.symm) ?_); (refine XCall.ret hcl ?_))); conv => whnf) | ((refine XHold.mk ⟨rfl, hRl, by unfold Room; constructor <;> ((try simp) <;> omega)⟩ ?_); conv => whnf) | ((refine XPut.set rfl hlt' hlen.symm ?_); conv => whnf) | ((with_reducible apply XBr.mk') <;> (intro h; conv => whnf))
      conv => whnf
      repeat' first | ((with_reducible first | apply XBr.tt | apply XBr.ff | apply Chk.go | apply ChkA.go | apply ChkF.go | apply ChkB.go | apply XArr.pim0 | apply XArr.pim1); conv => whnf) | (with_reducible apply XBr.not) | ((with_reducible apply XBr.dec) <;> (intro h; first | (exfalso; omega) | ((try simp only [List.length_map] at h); first | (exfalso; omega) | (conv => whnf)))) | ((with_reducible first | apply XBr.beq | apply XBr.bne) <;> (intro h; first | (exfalso; omega) | (conv => whnf))) | ((with_reducible refine XInt.i64 (by omega) (by omega) ?_); conv => whnf) | ((with_reducible refine XHold.mk ?_ ?_); (first | omega | rfl | decide | exact ⟨rfl, by decide, rfl⟩ | exact wideI _ | exact widePr _ | exact wideSk _ | (unfold Room; constructor <;> ((try simp) <;> omega)) | exact ⟨rfl, by simp only [List.length_map], by unfold Room; constructor <;> ((try simp) <;> omega)⟩ | exact ⟨by omega, by omega, by unfold Room; constructor <;> ((try simp) <;> omega)⟩); conv => whnf) | ((first | ((with_reducible refine XIx.nat ?_ ?_ ?_); omega; (intro _; rfl)) | ((with_reducible refine XIx.map ?_ ?_ ?_ ?_); omega; omega; (intro _; rfl))); conv => whnf) | (with_reducible apply XAnd.mk) | (exact XSame.mk rfl rfl) | (exact XSame.mk (by first | rfl | (simp only [List.map_append, List.length_append, List.length_map]; done) | (simp only [List.map_append, List.length_append, List.length_map]; rfl)) (by first | rfl | (simp only [List.map_append]; done) | (simp only [List.map_append]; rfl))) | (with_reducible exact trivial) | ((first | (with_reducible refine xdrop_app (by rw [List.length_map]; omega) ?_) | (with_reducible refine XDrop.desk (by assumption) ?_) | (with_reducible first | refine XArr.ints (by omega) (by omega) (by omega) ?_ | refine XArr.intsA (by omega) (by omega) (by omega) ?_) | ((with_reducible first | refine XArr.nats ?_ ?_ ?_ | refine XArr.natsA ?_ ?_ ?_ | refine XArr.ptr ?_ ?_ ?_); omega; omega)); conv => whnf) | (apply Walk.drawN (id := 12) tab_ok mixed_ok [] [18, 20] (hsC [_, _, _]) [_, _, _, _, _, _, _, _, _, _, _, _, _, _, _, _, _, _, _, _, _] (by kernel_rfl) rfl) | ((with_reducible apply XNext.mk); conv => whnf) | ((with_reducible apply XBr.mk') <;> (intro h; conv => whnf))
      refine XAgainG.go (m + 1) [] (by omega) (by omega) ?_ ⟨rfl, rfl, rfl, rfl, rfl, rfl, rfl, rfl, rfl, rfl, rfl, trivial⟩
      show [Blk.grow _ false (els.set p (.gr 1 (m + 1))), Blk.grow _ (vecF (m + 1) (wrR s p)).isEmpty (vecF (m + 1) (wrR s p))] ++ [] = _
      rw [hRs, isEmpty_app]; rfl
    obtain rfl : m = L0 + 1 := by omega
    repeat' first | ((with_reducible first | apply XBr.tt | apply XBr.ff | apply Chk.go | apply ChkA.go | apply ChkF.go | apply ChkB.go | apply XArr.pim0 | apply XArr.pim1); conv => whnf) | (with_reducible apply XBr.not) | ((with_reducible apply XBr.dec) <;> (intro h; first | (exfalso; omega) | ((try simp only [List.length_map] at h); first | (exfalso; omega) | (conv => whnf)))) | ((with_reducible first | apply XBr.beq | apply XBr.bne) <;> (intro h; first | (exfalso; omega) | (conv => whnf))) | ((with_reducible refine XInt.i64 (by omega) (by omega) ?_); conv => whnf) | ((with_reducible refine XHold.mk ?_ ?_); (first | omega | rfl | decide | exact ⟨rfl, by decide, rfl⟩ | exact wideI _ | exact widePr _ | exact wideSk _ | (unfold Room; constructor <;> ((try simp) <;> omega)) | exact ⟨rfl, by simp only [List.length_map], by unfold Room; constructor <;> ((try simp) <;> omega)⟩ | exact ⟨by omega, by omega, by unfold Room; constructor <;> ((try simp) <;> omega)⟩); conv => whnf) | ((first | ((with_reducible refine XIx.nat ?_ ?_ ?_); omega; (intro _; rfl)) | ((with_reducible refine XIx.map ?_ ?_ ?_ ?_); omega; omega; (intro _; rfl))); conv => whnf) | (with_reducible apply XAnd.mk) | (exact XSame.mk rfl rfl) | (exact XSame.mk (by first | rfl | (simp only [List.map_append, List.length_append, List.length_map]; done) | (simp only [List.map_append, List.length_append, List.length_map]; rfl)) (by first | rfl | (simp only [List.map_append]; done) | (simp only [List.map_append]; rfl))) | (with_reducible exact trivial) | ((first | (with_reducible refine xdrop_app (by rw [List.length_map]; omega) ?_) | (with_reducible refine XDrop.desk (by assumption) ?_) | (with_reducible first | refine XArr.ints (by omega) (by omega) (by omega) ?_ | refine XArr.intsA (by omega) (by omega) (by omega) ?_) | ((with_reducible first | refine XArr.nats ?_ ?_ ?_ | refine XArr.natsA ?_ ?_ ?_ | refine XArr.ptr ?_ ?_ ?_); omega; omega)); conv => whnf) | (apply Walk.drawN (id := 12) tab_ok mixed_ok [] [18, 20] (hsC [_, _, _]) [_, _, _, _, _, _, _, _, _, _, _, _, _, _, _, _, _, _, _, _, _] (by kernel_rfl) rfl) | ((with_reducible apply XNext.mk); conv => whnf) | ((with_reducible apply XBr.mk') <;> (intro h; conv => whnf))
    refine XDo.freezeRow 0 p 1 (L0 + 1) rfl ?_ ?_ rfl (by decide) hRl (XDo.run ?_)
    · intro z hz
      rcases List.mem_or_eq_of_mem_set hz with hz | rfl
      · exact hone z hz
      · rfl
    · exact List.getElem?_set_self hlt'
    conv => whnf
    repeat' first | ((with_reducible first | apply XBr.tt | apply XBr.ff | apply Chk.go | apply ChkA.go | apply ChkF.go | apply ChkB.go | apply XArr.pim0 | apply XArr.pim1); conv => whnf) | (with_reducible apply XBr.not) | ((with_reducible apply XBr.dec) <;> (intro h; first | (exfalso; omega) | ((try simp only [List.length_map] at h); first | (exfalso; omega) | (conv => whnf)))) | ((with_reducible first | apply XBr.beq | apply XBr.bne) <;> (intro h; first | (exfalso; omega) | (conv => whnf))) | ((with_reducible refine XInt.i64 (by omega) (by omega) ?_); conv => whnf) | ((with_reducible refine XHold.mk ?_ ?_); (first | omega | rfl | decide | exact ⟨rfl, by decide, rfl⟩ | exact wideI _ | exact widePr _ | exact wideSk _ | (unfold Room; constructor <;> ((try simp) <;> omega)) | exact ⟨rfl, by simp only [List.length_map], by unfold Room; constructor <;> ((try simp) <;> omega)⟩ | exact ⟨by omega, by omega, by unfold Room; constructor <;> ((try simp) <;> omega)⟩); conv => whnf) | ((first | ((with_reducible refine XIx.nat ?_ ?_ ?_); omega; (intro _; rfl)) | ((with_reducible refine XIx.map ?_ ?_ ?_ ?_); omega; omega; (intro _; rfl))); conv => whnf) | (with_reducible apply XAnd.mk) | (exact XSame.mk rfl rfl) | (exact XSame.mk (by first | rfl | (simp only [List.map_append, List.length_append, List.length_map]; done) | (simp only [List.map_append, List.length_append, List.length_map]; rfl)) (by first | rfl | (simp only [List.map_append]; done) | (simp only [List.map_append]; rfl))) | (with_reducible exact trivial) | ((first | (with_reducible refine xdrop_app (by rw [List.length_map]; omega) ?_) | (with_reducible refine XDrop.desk (by assumption) ?_) | (with_reducible first | refine XArr.ints (by omega) (by omega) (by omega) ?_ | refine XArr.intsA (by omega) (by omega) (by omega) ?_) | ((with_reducible first | refine XArr.nats ?_ ?_ ?_ | refine XArr.natsA ?_ ?_ ?_ | refine XArr.ptr ?_ ?_ ?_); omega; omega)); conv => whnf) | (apply Walk.drawN (id := 12) tab_ok mixed_ok [] [18, 20] (hsC [_, _, _]) [_, _, _, _, _, _, _, _, _, _, _, _, _, _, _, _, _, _, _, _, _] (by kernel_rfl) rfl) | ((with_reducible apply XNext.mk); conv => whnf) | ((with_reducible apply XBr.mk') <;> (intro h; conv => whnf))
    refine XAgainG.go (p + 1) [.dead] (by omega) (by omega) ?_ ⟨rfl, rfl, rfl, rfl, rfl, rfl, rfl, rfl, trivial⟩
    show [Blk.grow _ false (vecF P0 (wrE s (L0 + 1) (p + 1)))] ++ [Blk.dead] = [Blk.grow _ false ((els.set p _).set p (.sl R.isEmpty R)), .dead]
    rw [List.set_set, hRe rfl, hRP rfl, hnx hlt]; rfl
  obtain rfl : p = P0 := by omega
  obtain rfl := hall rfl
  repeat' first | ((with_reducible first | apply XBr.tt | apply XBr.ff | apply Chk.go | apply ChkA.go | apply ChkF.go | apply ChkB.go | apply XArr.pim0 | apply XArr.pim1); conv => whnf) | (with_reducible apply XBr.not) | ((with_reducible apply XBr.dec) <;> (intro h; first | (exfalso; omega) | ((try simp only [List.length_map] at h); first | (exfalso; omega) | (conv => whnf)))) | ((with_reducible first | apply XBr.beq | apply XBr.bne) <;> (intro h; first | (exfalso; omega) | (conv => whnf))) | ((with_reducible refine XInt.i64 (by omega) (by omega) ?_); conv => whnf) | ((with_reducible refine XHold.mk ?_ ?_); (first | omega | rfl | decide | exact ⟨rfl, by decide, rfl⟩ | exact wideI _ | exact widePr _ | exact wideSk _ | (unfold Room; constructor <;> ((try simp) <;> omega)) | exact ⟨rfl, by simp only [List.length_map], by unfold Room; constructor <;> ((try simp) <;> omega)⟩ | exact ⟨by omega, by omega, by unfold Room; constructor <;> ((try simp) <;> omega)⟩); conv => whnf) | ((first | ((with_reducible refine XIx.nat ?_ ?_ ?_); omega; (intro _; rfl)) | ((with_reducible refine XIx.map ?_ ?_ ?_ ?_); omega; omega; (intro _; rfl))); conv => whnf) | (with_reducible apply XAnd.mk) | (exact XSame.mk rfl rfl) | (exact XSame.mk (by first | rfl | (simp only [List.map_append, List.length_append, List.length_map]; done) | (simp only [List.map_append, List.length_append, List.length_map]; rfl)) (by first | rfl | (simp only [List.map_append]; done) | (simp only [List.map_append]; rfl))) | (with_reducible exact trivial) | ((first | (with_reducible refine xdrop_app (by rw [List.length_map]; omega) ?_) | (with_reducible refine XDrop.desk (by assumption) ?_) | (with_reducible first | refine XArr.ints (by omega) (by omega) (by omega) ?_ | refine XArr.intsA (by omega) (by omega) (by omega) ?_) | ((with_reducible first | refine XArr.nats ?_ ?_ ?_ | refine XArr.natsA ?_ ?_ ?_ | refine XArr.ptr ?_ ?_ ?_); omega; omega)); conv => whnf) | (apply Walk.drawN (id := 12) tab_ok mixed_ok [] [18, 20] (hsC [_, _, _]) [_, _, _, _, _, _, _, _, _, _, _, _, _, _, _, _, _, _, _, _, _] (by kernel_rfl) rfl) | ((with_reducible apply XNext.mk); conv => whnf) | ((with_reducible apply XBr.mk') <;> (intro h; conv => whnf))
  exact ⟨Froz.tup (.cons (Froz.grow rfl hlen hel) (.cons (.low rfl) .nil))⟩
end GA
end

section
namespace GA
open Go Go.RowKit Go.Proofs
set_option pp.deepTerms true
set_option maxRecDepth 8000
set_option linter.unusedVariables false
set_option linter.unusedSimpArgs false

def orK (A : List Sta) : Nat → Nat
  | 0 => 0
  | i + 1 => orK A i ||| (A.getD i default).l
structure AftOk (s : Sn) (x : Sta) (t : Int × Int) (A : List Sta) : Prop where
  h : ∀ i, i < A.length → (A.getD i default).p = t.1.toNat ∧ (A.getD i default).m = (x.m + t.2).toNat ∧ (A.getD i default).l ≠ 0 ∧ (A.getD i default).l ≤ allN s ∧ lowB (A.getD i default).l < s.looks.length
  dry : ∀ i, i < A.length → iandn .i64 ((A.getD i default).l : Int) (drN s t.1.toNat (x.m + t.2).toNat : Int) = 0
  dis : ∀ i, i < A.length → orK A i &&& (A.getD i default).l = 0
  lk : ∀ i, 0 < i → i < A.length → lookZ s (lowB (A.getD (i - 1) default).l) t.1.toNat < lookZ s (lowB (A.getD i default).l) t.1.toNat
  all : orK A A.length = x.l
  le : ∀ i, i ≤ A.length → orK A i ≤ allN s
theorem all_sub {s : Sn} {a : Nat} (h : a ≤ allN s) : ∀ i, a.testBit i = true → i < s.truths.length := fun i hi => by
  have h1 : a < 2 ^ s.truths.length := by
    have : 1 ≤ 2 ^ s.truths.length := Nat.one_le_two_pow
    have e : allN s = 2 ^ s.truths.length - 1 := rfl
    omega
  refine Classical.byContradiction fun hn => ?_
  rw [Nat.testBit_lt_two_pow (Nat.lt_of_lt_of_le h1 (Nat.pow_le_pow_right (by omega) (Nat.le_of_not_lt hn)))] at hi
  cases hi
end GA
end

section
namespace GA
open Go Go.RowKit Go.Proofs
set_option pp.deepTerms true
set_option maxRecDepth 8000
set_option linter.unusedVariables false
set_option linter.unusedSimpArgs false

def ruleA (g : FuncId) (nt : Bool) (T : List Rs) : AV := .agg [.fn g [.pim [.sl nt (T.map rsT)]]]
theorem ruleL {n : Nat} (g : FuncId) (nt : Bool) (T : List Rs) : (ruleA g nt T).low n = true := by
  unfold ruleA; simp only [lowL, AV.low, lowRs]; rfl
theorem hold1_c (s : Sn) (nt : Bool) (T : List Rs) (h : TbOk s T) (y : Sta) (hy : vld s y) (b : Int) : Comp Try.prog 53 [staA y, .int .i64 b, .pim [.sl nt (T.map rsT)]] (.bool (decide (tbN T y ≤ b))) := by
  obtain ⟨h1, h2, h3, h4, h5⟩ := h.at hy
  have e1 : ((T.map rsT).length : Int) = T.length := by rw [List.length_map]
  have e2 : (((T.getD y.p default).2.map rwA).length : Int) = (T.getD y.p default).2.length := by rw [List.length_map]
  have e3 : ((ints ((T.getD y.p default).2.getD y.m default).2).length : Int) = ((T.getD y.p default).2.getD y.m default).2.length := by rw [ints_len]
  refine Comp.body (T := tab) (res := [.tmp 5]) tab_ok [] Try.func53 rfl (by kernel_rfl) Try.ntmps53 rfl (by simp only [List.length_cons, List.length_nil]; decide) (by simp only [lowL, AV.low, staL, lowRs]; rfl) ?_; conv => whnf
  repeat' first | (((with_reducible refine XIx.nat ?_ ?_ ?_); omega; (intro _; rfl)); conv => whnf) | (with_reducible apply XAnd.mk) | ((first | (with_reducible apply Chk.go) | (with_reducible apply ChkA.go) | (with_reducible apply ChkF.go) | (with_reducible apply ChkB.go)); conv => whnf) | (exact XSame.mk rfl rfl) | (with_reducible exact trivial) | (apply Walk.drawN (id := 1) tab_ok mixed_ok [] [] (hsU _) [_, _, _, _, _, _, _, _, _, _, _, _, _, _, _, _] (by kernel_rfl) rfl) | ((with_reducible apply XNext.mk); conv => whnf) | fail
  exact XOut.bool rfl
theorem kept_hold (s : Sn) (ok : SnOk s) (nt : Bool) (T : List Rs) (hT : TbOk s T) (B : Bool) (hB : B = true ↔ ∀ y, vld s y → tbN T y ≤ bestZ s (tbN T) y) :
    Comp Try.prog 52 [dskFA s, .sl nt (T.map rsT), ruleA 53 nt T] (.bool B) := by
  have p1 := ok.p1; have p2 := ok.p2; have l1 := ok.l1; have l2 := ok.l2
  have hal := allN_lt ok
  have hac := fall_c s ok
  obtain ⟨P0, hP0⟩ : ∃ P0 : Nat, s.places = P0 := ⟨s.places.toNat, by omega⟩
  obtain ⟨L0, hL0⟩ : ∃ L0 : Nat, s.last = L0 := ⟨s.last.toNat, by omega⟩
  refine Comp.body (T := tab) (res := [.tmp 6]) tab_ok [] Try.func52 rfl (by kernel_rfl) Try.ntmps52 rfl (by simp only [List.length_cons, List.length_nil]; decide) (by simp only [lowL, AV.low, dskFL, lowRs, ruleL]; rfl) ?_; conv => whnf
  skip
  refine Walk.loopK tab_ok [] [(0, _), (5, _), (7, _), (17, _)] ⟨rfl, rfl, rfl, rfl, trivial⟩ (fun p : Nat => p ≤ P0 ∧ ∀ y : Sta, vld s y → y.p < p → tbN T y ≤ bestZ s (tbN T) y) (fun p => [(18, natA p)]) (fun _ => []) (fun p => P0 - p) 0 ⟨Nat.zero_le _, fun y hy h => by omega⟩ rfl ⟨rfl, trivial⟩ ?_
  rintro p ⟨hp, hI⟩
  conv => whnf
  by_cases hlt : p < P0
  · skip
    repeat' first | ((with_reducible apply XBr.dec) <;> (intro h; first | (exfalso; omega) | ((try simp only [List.length_map] at h); first | (exfalso; omega) | (conv => whnf)))) | ((with_reducible refine XInt.i64 (by omega) (by omega) ?_); conv => whnf) | fail
    refine Walk.loopK tab_ok [] [(0, _), (5, _), (7, _), (8, _), (17, _), (18, _), (26, _)] ⟨rfl, rfl, rfl, rfl, rfl, rfl, rfl, trivial⟩ (fun m : Nat => m ≤ L0 + 1 ∧ ∀ y : Sta, vld s y → y.p < p ∨ (y.p = p ∧ y.m < m) → tbN T y ≤ bestZ s (tbN T) y) (fun m => [(27, natA m)]) (fun _ => []) (fun m => L0 + 1 - m) 0 ⟨Nat.zero_le _, fun y hy h => hI y hy (by omega)⟩ rfl ⟨rfl, trivial⟩ ?_
    rintro m ⟨hm, hI⟩
    conv => whnf
    by_cases hlt2 : m < L0 + 1
    · skip
      repeat' first | ((with_reducible apply XBr.dec) <;> (intro h; first | (exfalso; omega) | ((try simp only [List.length_map] at h); first | (exfalso; omega) | (conv => whnf)))) | ((first | (with_reducible refine XInt.i64 (by omega) (by omega) ?_) | (refine XCall.ret hac ?_)); conv => whnf) | fail
      refine Walk.loopGK tab_ok [] [(0, _), (5, _), (7, _), (8, _), (9, _), (17, _), (18, _), (26, _), (27, _), (32, _)] ⟨rfl, rfl, rfl, rfl, rfl, rfl, rfl, rfl, rfl, rfl, trivial⟩ (fun l : Nat => l ≤ allN s + 1 ∧ ∀ y : Sta, vld s y → y.p < p ∨ (y.p = p ∧ (y.m < m ∨ (y.m = m ∧ y.l < l))) → tbN T y ≤ bestZ s (tbN T) y) (fun l => [(33, natA l)]) (fun _ => []) (fun l => allN s + 1 - l) 0 ⟨Nat.zero_le _, fun y hy h => hI y hy (by omega)⟩ rfl ⟨rfl, trivial⟩ ?_ (fun _ _ => (show (0 : Nat) ≤ 0 from Nat.le_refl 0)) ?_
      · intro k _
        refine ⟨by simp, fun z hz => ?_⟩
        simp only [List.cons_append, List.nil_append, List.mem_cons, List.not_mem_nil, or_false] at hz
        rcases hz with rfl | rfl | rfl | rfl | rfl | rfl | rfl | rfl | rfl | rfl | rfl <;> first | rfl | exact dskFL s | (simp only [lowL, AV.low, lowRs]; rfl)
      rintro l ⟨hl, hI⟩
      conv => whnf
      by_cases hlt3 : l < allN s + 1
      · have hv : vld s ⟨p, m, l⟩ := ⟨by show (p : Int) < s.places; omega, by show (m : Int) ≤ s.last; omega, by show l ≤ allN s; omega⟩
        have hbe := best_tb nt T s ok (tbN T) ⟨p, m, l⟩ ⟨by show (p : Int) < s.places; omega, by show (m : Int) ≤ s.last; omega, by show l ≤ _; omega⟩ (by simp only [lowL, AV.low, lowRs]; rfl) (fun t y hy => number_c s nt T hT y (afterS_vld ok hy)) (fun t y hy => by have := (hT.at (afterS_vld ok hy)).2.2.2; omega)
        have hst : staA ⟨p, m, l⟩ = .agg [natA p, natA m, natA l] := rfl
        have hru := hold1_c s nt T hT ⟨p, m, l⟩ hv
        rw [hst] at hbe hru
        generalize hbz : bestZ s (tbN T) ⟨p, m, l⟩ = bz at hbe
        have hru := hru bz
        cases hd : (decide (tbN T ⟨p, m, l⟩ ≤ bz)) with
        | true =>
          rw [hd] at hru
          repeat' first | ((with_reducible apply XBr.tt); conv => whnf) | (with_reducible apply XBr.not) | ((with_reducible apply XBr.dec) <;> (intro h; first | (exfalso; omega) | ((try simp only [List.length_map] at h); first | (exfalso; omega) | (conv => whnf)))) | ((with_reducible refine XInt.i64 (by omega) (by omega) ?_); conv => whnf) | (with_reducible apply XAnd.mk) | ((first | (with_reducible apply Chk.go) | (with_reducible apply ChkA.go) | (with_reducible apply ChkF.go) | (with_reducible apply ChkB.go)); conv => whnf) | (exact XSame.mk rfl rfl) | (with_reducible exact trivial) | (apply Walk.drawN (id := 12) tab_ok mixed_ok [] [] (hsU _) [_, _, _, _, _, _, _, _, _] (by kernel_rfl) rfl) | ((first | (with_reducible apply XNext.mk) | (refine XCall.ret hbe ?_) | (refine XCall.ret hru ?_)); conv => whnf) | fail
          refine XAgainG.go (l + 1) [.cells [natA p, natA m, natA l]] ⟨by omega, fun y hy h => ?_⟩ (by omega) rfl ⟨rfl, rfl, rfl, rfl, rfl, rfl, rfl, rfl, rfl, rfl, rfl, trivial⟩
          by_cases e : y = ⟨p, m, l⟩
          · subst e; rw [hbz]; exact of_decide_eq_true hd
          · refine hI y hy ?_
            have : ¬ (y.p = p ∧ y.m = m ∧ y.l = l) := fun ⟨a, b, c⟩ => e (by cases y; simp_all)
            omega
        | false =>
          rw [hd] at hru
          have hBf : B = false := by
            rw [← Bool.not_eq_true, hB]
            intro h'
            have := h' _ hv
            rw [hbz] at this
            exact absurd (decide_eq_true this) (by rw [hd]; simp)
          repeat' first | ((with_reducible apply XBr.ff); conv => whnf) | (with_reducible apply XBr.not) | ((with_reducible apply XBr.dec) <;> (intro h; first | (exfalso; omega) | ((try simp only [List.length_map] at h); first | (exfalso; omega) | (conv => whnf)))) | (with_reducible apply XAnd.mk) | ((first | (with_reducible apply Chk.go) | (with_reducible apply ChkA.go) | (with_reducible apply ChkF.go) | (with_reducible apply ChkB.go)); conv => whnf) | (exact XSame.mk rfl rfl) | (with_reducible exact trivial) | (apply Walk.drawN (id := 12) tab_ok mixed_ok [] [] (hsU _) [_, _, _, _, _, _, _, _, _] (by kernel_rfl) rfl) | ((first | (with_reducible apply XNext.mk) | (refine XCall.ret hbe ?_) | (refine XCall.ret hru ?_)); conv => whnf) | fail
          exact XOut.bool hBf.symm
      obtain rfl : l = allN s + 1 := by omega
      repeat' first | ((with_reducible apply XBr.dec) <;> (intro h; first | (exfalso; omega) | ((try simp only [List.length_map] at h); first | (exfalso; omega) | (conv => whnf)))) | ((with_reducible refine XInt.i64 (by omega) (by omega) ?_); conv => whnf) | fail
      refine XAgain.go (m + 1) ⟨by omega, fun y hy h => hI y hy ?_⟩ (by omega) rfl ⟨rfl, rfl, rfl, rfl, rfl, rfl, rfl, rfl, trivial⟩
      have := hy.2.2
      omega
    obtain rfl : m = L0 + 1 := by omega
    repeat' first | ((with_reducible apply XBr.dec) <;> (intro h; first | (exfalso; omega) | ((try simp only [List.length_map] at h); first | (exfalso; omega) | (conv => whnf)))) | ((with_reducible refine XInt.i64 (by omega) (by omega) ?_); conv => whnf) | fail
    refine XAgain.go (p + 1) ⟨by omega, fun y hy h => hI y hy ?_⟩ (by omega) rfl ⟨rfl, rfl, rfl, rfl, rfl, trivial⟩
    have := hy.2.1
    omega
  obtain rfl : p = P0 := by omega
  have hBt : B = true := hB.2 fun y hy => hI y hy (by have := hy.1; omega)
  repeat' first | ((with_reducible apply XBr.dec) <;> (intro h; first | (exfalso; omega) | ((try simp only [List.length_map] at h); first | (exfalso; omega) | (conv => whnf)))) | fail
  exact XOut.bool hBt.symm
theorem clos1_c (s : Sn) (nt : Bool) (T : List Rs) (h : TbOk s T) (y : Sta) (hy : vld s y) (b : Int) : Comp Try.prog 54 [staA y, .int .i64 b, .pim [.sl nt (T.map rsT)]] (.bool (decide (tbN T y ≥ b))) := by
  obtain ⟨h1, h2, h3, h4, h5⟩ := h.at hy
  have e1 : ((T.map rsT).length : Int) = T.length := by rw [List.length_map]
  have e2 : (((T.getD y.p default).2.map rwA).length : Int) = (T.getD y.p default).2.length := by rw [List.length_map]
  have e3 : ((ints ((T.getD y.p default).2.getD y.m default).2).length : Int) = ((T.getD y.p default).2.getD y.m default).2.length := by rw [ints_len]
  refine Comp.body (T := tab) (res := [.tmp 5]) tab_ok [] Try.func54 rfl (by kernel_rfl) Try.ntmps54 rfl (by simp only [List.length_cons, List.length_nil]; decide) (by simp only [lowL, AV.low, staL, lowRs]; rfl) ?_; conv => whnf
  repeat' first | (((with_reducible refine XIx.nat ?_ ?_ ?_); omega; (intro _; rfl)); conv => whnf) | (with_reducible apply XAnd.mk) | ((first | (with_reducible apply Chk.go) | (with_reducible apply ChkA.go) | (with_reducible apply ChkF.go) | (with_reducible apply ChkB.go)); conv => whnf) | (exact XSame.mk rfl rfl) | (with_reducible exact trivial) | (apply Walk.drawN (id := 1) tab_ok mixed_ok [] [] (hsU _) [_, _, _, _, _, _, _, _, _, _, _, _, _, _, _, _] (by kernel_rfl) rfl) | ((with_reducible apply XNext.mk); conv => whnf) | fail
  exact XOut.bool rfl
theorem kept_clos (s : Sn) (ok : SnOk s) (nt : Bool) (T : List Rs) (hT : TbOk s T) (B : Bool) (hB : B = true ↔ ∀ y, vld s y → tbN T y ≥ bestZ s (tbN T) y) :
    Comp Try.prog 52 [dskFA s, .sl nt (T.map rsT), ruleA 54 nt T] (.bool B) := by
  have p1 := ok.p1; have p2 := ok.p2; have l1 := ok.l1; have l2 := ok.l2
  have hal := allN_lt ok
  have hac := fall_c s ok
  obtain ⟨P0, hP0⟩ : ∃ P0 : Nat, s.places = P0 := ⟨s.places.toNat, by omega⟩
  obtain ⟨L0, hL0⟩ : ∃ L0 : Nat, s.last = L0 := ⟨s.last.toNat, by omega⟩
  refine Comp.body (T := tab) (res := [.tmp 6]) tab_ok [] Try.func52 rfl (by kernel_rfl) Try.ntmps52 rfl (by simp only [List.length_cons, List.length_nil]; decide) (by simp only [lowL, AV.low, dskFL, lowRs, ruleL]; rfl) ?_; conv => whnf
  skip
  refine Walk.loopK tab_ok [] [(0, _), (5, _), (7, _), (17, _)] ⟨rfl, rfl, rfl, rfl, trivial⟩ (fun p : Nat => p ≤ P0 ∧ ∀ y : Sta, vld s y → y.p < p → tbN T y ≥ bestZ s (tbN T) y) (fun p => [(18, natA p)]) (fun _ => []) (fun p => P0 - p) 0 ⟨Nat.zero_le _, fun y hy h => by omega⟩ rfl ⟨rfl, trivial⟩ ?_
  rintro p ⟨hp, hI⟩
  conv => whnf
  by_cases hlt : p < P0
  · skip
    repeat' first | ((with_reducible apply XBr.dec) <;> (intro h; first | (exfalso; omega) | ((try simp only [List.length_map] at h); first | (exfalso; omega) | (conv => whnf)))) | ((with_reducible refine XInt.i64 (by omega) (by omega) ?_); conv => whnf) | fail
    refine Walk.loopK tab_ok [] [(0, _), (5, _), (7, _), (8, _), (17, _), (18, _), (26, _)] ⟨rfl, rfl, rfl, rfl, rfl, rfl, rfl, trivial⟩ (fun m : Nat => m ≤ L0 + 1 ∧ ∀ y : Sta, vld s y → y.p < p ∨ (y.p = p ∧ y.m < m) → tbN T y ≥ bestZ s (tbN T) y) (fun m => [(27, natA m)]) (fun _ => []) (fun m => L0 + 1 - m) 0 ⟨Nat.zero_le _, fun y hy h => hI y hy (by omega)⟩ rfl ⟨rfl, trivial⟩ ?_
    rintro m ⟨hm, hI⟩
    conv => whnf
    by_cases hlt2 : m < L0 + 1
    · skip
      repeat' first | ((with_reducible apply XBr.dec) <;> (intro h; first | (exfalso; omega) | ((try simp only [List.length_map] at h); first | (exfalso; omega) | (conv => whnf)))) | ((first | (with_reducible refine XInt.i64 (by omega) (by omega) ?_) | (refine XCall.ret hac ?_)); conv => whnf) | fail
      refine Walk.loopGK tab_ok [] [(0, _), (5, _), (7, _), (8, _), (9, _), (17, _), (18, _), (26, _), (27, _), (32, _)] ⟨rfl, rfl, rfl, rfl, rfl, rfl, rfl, rfl, rfl, rfl, trivial⟩ (fun l : Nat => l ≤ allN s + 1 ∧ ∀ y : Sta, vld s y → y.p < p ∨ (y.p = p ∧ (y.m < m ∨ (y.m = m ∧ y.l < l))) → tbN T y ≥ bestZ s (tbN T) y) (fun l => [(33, natA l)]) (fun _ => []) (fun l => allN s + 1 - l) 0 ⟨Nat.zero_le _, fun y hy h => hI y hy (by omega)⟩ rfl ⟨rfl, trivial⟩ ?_ (fun _ _ => (show (0 : Nat) ≤ 0 from Nat.le_refl 0)) ?_
      · intro k _
        refine ⟨by simp, fun z hz => ?_⟩
        simp only [List.cons_append, List.nil_append, List.mem_cons, List.not_mem_nil, or_false] at hz
        rcases hz with rfl | rfl | rfl | rfl | rfl | rfl | rfl | rfl | rfl | rfl | rfl <;> first | rfl | exact dskFL s | (simp only [lowL, AV.low, lowRs]; rfl)
      rintro l ⟨hl, hI⟩
      conv => whnf
      by_cases hlt3 : l < allN s + 1
      · have hv : vld s ⟨p, m, l⟩ := ⟨by show (p : Int) < s.places; omega, by show (m : Int) ≤ s.last; omega, by show l ≤ allN s; omega⟩
        have hbe := best_tb nt T s ok (tbN T) ⟨p, m, l⟩ ⟨by show (p : Int) < s.places; omega, by show (m : Int) ≤ s.last; omega, by show l ≤ _; omega⟩ (by simp only [lowL, AV.low, lowRs]; rfl) (fun t y hy => number_c s nt T hT y (afterS_vld ok hy)) (fun t y hy => by have := (hT.at (afterS_vld ok hy)).2.2.2; omega)
        have hst : staA ⟨p, m, l⟩ = .agg [natA p, natA m, natA l] := rfl
        have hru := clos1_c s nt T hT ⟨p, m, l⟩ hv
        rw [hst] at hbe hru
        generalize hbz : bestZ s (tbN T) ⟨p, m, l⟩ = bz at hbe
        have hru := hru bz
        cases hd : (decide (tbN T ⟨p, m, l⟩ ≥ bz)) with
        | true =>
          rw [hd] at hru
          repeat' first | ((with_reducible apply XBr.tt); conv => whnf) | (with_reducible apply XBr.not) | ((with_reducible apply XBr.dec) <;> (intro h; first | (exfalso; omega) | ((try simp only [List.length_map] at h); first | (exfalso; omega) | (conv => whnf)))) | ((with_reducible refine XInt.i64 (by omega) (by omega) ?_); conv => whnf) | (with_reducible apply XAnd.mk) | ((first | (with_reducible apply Chk.go) | (with_reducible apply ChkA.go) | (with_reducible apply ChkF.go) | (with_reducible apply ChkB.go)); conv => whnf) | (exact XSame.mk rfl rfl) | (with_reducible exact trivial) | (apply Walk.drawN (id := 12) tab_ok mixed_ok [] [] (hsU _) [_, _, _, _, _, _, _, _, _] (by kernel_rfl) rfl) | ((first | (with_reducible apply XNext.mk) | (refine XCall.ret hbe ?_) | (refine XCall.ret hru ?_)); conv => whnf) | fail
          refine XAgainG.go (l + 1) [.cells [natA p, natA m, natA l]] ⟨by omega, fun y hy h => ?_⟩ (by omega) rfl ⟨rfl, rfl, rfl, rfl, rfl, rfl, rfl, rfl, rfl, rfl, rfl, trivial⟩
          by_cases e : y = ⟨p, m, l⟩
          · subst e; rw [hbz]; exact of_decide_eq_true hd
          · refine hI y hy ?_
            have : ¬ (y.p = p ∧ y.m = m ∧ y.l = l) := fun ⟨a, b, c⟩ => e (by cases y; simp_all)
            omega
        | false =>
          rw [hd] at hru
          have hBf : B = false := by
            rw [← Bool.not_eq_true, hB]
            intro h'
            have := h' _ hv
            rw [hbz] at this
            exact absurd (decide_eq_true this) (by rw [hd]; simp)
          repeat' first | ((with_reducible apply XBr.ff); conv => whnf) | (with_reducible apply XBr.not) | ((with_reducible apply XBr.dec) <;> (intro h; first | (exfalso; omega) | ((try simp only [List.length_map] at h); first | (exfalso; omega) | (conv => whnf)))) | (with_reducible apply XAnd.mk) | ((first | (with_reducible apply Chk.go) | (with_reducible apply ChkA.go) | (with_reducible apply ChkF.go) | (with_reducible apply ChkB.go)); conv => whnf) | (exact XSame.mk rfl rfl) | (with_reducible exact trivial) | (apply Walk.drawN (id := 12) tab_ok mixed_ok [] [] (hsU _) [_, _, _, _, _, _, _, _, _] (by kernel_rfl) rfl) | ((first | (with_reducible apply XNext.mk) | (refine XCall.ret hbe ?_) | (refine XCall.ret hru ?_)); conv => whnf) | fail
          exact XOut.bool hBf.symm
      obtain rfl : l = allN s + 1 := by omega
      repeat' first | ((with_reducible apply XBr.dec) <;> (intro h; first | (exfalso; omega) | ((try simp only [List.length_map] at h); first | (exfalso; omega) | (conv => whnf)))) | ((with_reducible refine XInt.i64 (by omega) (by omega) ?_); conv => whnf) | fail
      refine XAgain.go (m + 1) ⟨by omega, fun y hy h => hI y hy ?_⟩ (by omega) rfl ⟨rfl, rfl, rfl, rfl, rfl, rfl, rfl, rfl, trivial⟩
      have := hy.2.2
      omega
    obtain rfl : m = L0 + 1 := by omega
    repeat' first | ((with_reducible apply XBr.dec) <;> (intro h; first | (exfalso; omega) | ((try simp only [List.length_map] at h); first | (exfalso; omega) | (conv => whnf)))) | ((with_reducible refine XInt.i64 (by omega) (by omega) ?_); conv => whnf) | fail
    refine XAgain.go (p + 1) ⟨by omega, fun y hy h => hI y hy ?_⟩ (by omega) rfl ⟨rfl, rfl, rfl, rfl, rfl, trivial⟩
    have := hy.2.1
    omega
  obtain rfl : p = P0 := by omega
  have hBt : B = true := hB.2 fun y hy => hI y hy (by have := hy.1; omega)
  repeat' first | ((with_reducible apply XBr.dec) <;> (intro h; first | (exfalso; omega) | ((try simp only [List.length_map] at h); first | (exfalso; omega) | (conv => whnf)))) | fail
  exact XOut.bool hBt.symm
theorem fhold_ok (s : Sn) (hb : SnB s) (nt : Bool) (T : List Rs) (hT : TbB T) (h : tabE s T = 0) (B : Bool) (hB : B = true ↔ ∀ y, vld s y → tbN T y ≤ bestZ s (tbN T) y) : Comp Try.prog 17 [snA s, .sl nt (T.map rsT)] (.tup [.bool B, .int .i64 0]) := by
  have ht := tabled_ok s hb nt T hT h
  obtain ⟨ok, hM, hV⟩ := tabE_iff.1 h
  have hk := kept_hold s ok nt T (tab_ok_of hM hV) B hB
  refine Comp.body (T := tab) (res := [.tmp 4, .tmp 5]) tab_ok [] Try.func17 rfl (by kernel_rfl) Try.ntmps17 rfl (by simp only [List.length_cons, List.length_nil]; decide) (by simp only [lowL, AV.low, snL, lowRs]; rfl) ?_; conv => whnf
  repeat' first | ((with_reducible apply XBr.bne) <;> (intro h; first | (exfalso; omega) | (conv => whnf))) | ((first | (refine XCall.ret ht ?_) | (refine XCall.ret hk ?_)); conv => whnf) | fail
  exact ⟨.low rfl⟩
theorem fclos_ok (s : Sn) (hb : SnB s) (nt : Bool) (T : List Rs) (hT : TbB T) (h : tabE s T = 0) (B : Bool) (hB : B = true ↔ ∀ y, vld s y → tbN T y ≥ bestZ s (tbN T) y) : Comp Try.prog 18 [snA s, .sl nt (T.map rsT)] (.tup [.bool B, .int .i64 0]) := by
  have ht := tabled_ok s hb nt T hT h
  obtain ⟨ok, hM, hV⟩ := tabE_iff.1 h
  have hk := kept_clos s ok nt T (tab_ok_of hM hV) B hB
  refine Comp.body (T := tab) (res := [.tmp 4, .tmp 5]) tab_ok [] Try.func18 rfl (by kernel_rfl) Try.ntmps18 rfl (by simp only [List.length_cons, List.length_nil]; decide) (by simp only [lowL, AV.low, snL, lowRs]; rfl) ?_; conv => whnf
  repeat' first | ((with_reducible apply XBr.bne) <;> (intro h; first | (exfalso; omega) | (conv => whnf))) | ((first | (refine XCall.ret ht ?_) | (refine XCall.ret hk ?_)); conv => whnf) | fail
  exact ⟨.low rfl⟩
end GA
end

section
namespace GA
open Go Go.RowKit Go.Proofs
set_option pp.deepTerms true
set_option maxRecDepth 8000
set_option linter.unusedVariables false
set_option linter.unusedSimpArgs false

theorem XInt.shlN {i O : Nat} {k : AV → Prop} (hO : O = 2 ^ i) (hi : i ≤ 62) (h : k (natA O)) : XInt .i64 (1 * 2 ^ min (i : Int).toNat IntKind.i64.bits) k := XInt.shl hi (hO ▸ h)
theorem mk_mem {P M N : Nat} {W : T3 Int} {l : Rs} (h : l ∈ mkT P M N W) : ∃ p, p < P ∧ l = (false, vecF M fun m => (false, vecF N fun l => W p m l)) := by
  unfold mkT at h
  obtain ⟨p, hp, e⟩ := vecF_mem.1 h
  exact ⟨p, hp, e.symm⟩
theorem mk_B {P M N : Nat} {W : T3 Int} (hP : P ≤ 1000) (hM : M ≤ 1000) (hN : N ≤ 1000) : TbB (mkT P M N W) := by
  refine ⟨by rw [mkT_len]; omega, fun l hl => ?_, fun l hl r hr => ?_⟩
  · obtain ⟨p, -, rfl⟩ := mk_mem hl
    show (vecF _ _).length ≤ 1000
    rw [vecF_len]; omega
  · obtain ⟨p, -, rfl⟩ := mk_mem hl
    obtain ⟨m, -, rfl⟩ := vecF_mem.1 (show r ∈ vecF _ _ from hr)
    show (vecF _ _).length ≤ 1000
    rw [vecF_len]; omega
theorem mk_E {s : Sn} (ok : SnOk s) {P M N : Nat} {W : T3 Int} (hP : (P : Int) = s.places) (hM : (M : Int) = s.last + 1) (hN : N = allN s + 1) (hW : ∀ p m l, p < P → m < M → l < N → -1 ≤ W p m l ∧ W p m l ≤ 60) : tabE s (mkT P M N W) = 0 := by
  refine tabE_iff.2 ⟨ok, ?_, ?_⟩
  · unfold tabM
    rw [Bool.and_eq_true, decide_eq_true_eq, List.all_eq_true]
    refine ⟨by rw [mkT_len]; omega, fun l hl => ?_⟩
    obtain ⟨p, -, rfl⟩ := mk_mem hl
    rw [Bool.and_eq_true, decide_eq_true_eq, List.all_eq_true]
    refine ⟨by show ((vecF _ _).length : Int) = _; rw [vecF_len]; omega, fun r hr => ?_⟩
    obtain ⟨m, -, rfl⟩ := vecF_mem.1 (show r ∈ vecF _ _ from hr)
    rw [decide_eq_true_eq]
    show ((vecF _ _).length : Int) = _
    rw [vecF_len]; omega
  · unfold tabV
    rw [List.all_eq_true]
    intro l hl
    obtain ⟨p, hp, rfl⟩ := mk_mem hl
    rw [List.all_eq_true]
    intro r hr
    obtain ⟨m, hm, rfl⟩ := vecF_mem.1 (show r ∈ vecF _ _ from hr)
    rw [List.all_eq_true]
    intro n hn
    obtain ⟨k, hk, rfl⟩ := vecF_mem.1 (show n ∈ vecF _ _ from hn)
    exact inZ_iff.2 (hW p m k hp hm hk)
theorem wider_refl (s : Sn) : Wider s s := ⟨rfl, rfl, rfl, rfl, rfl, rfl, fun _ _ _ h => h, fun _ _ _ _ _ h => h⟩
theorem less_sub {s : Sn} (ok : SnOk s) {p m l i : Nat} (hv : vld s ⟨p, m, l⟩) (h : diff l (2 ^ i) ≠ 0) : worthZ s ⟨p, m, l⟩ ≤ worthZ s ⟨p, m, diff l (2 ^ i)⟩ :=
  (wider_refl s).worth ok ok hv.2.1 hv.1 h (fun j hj => all_sub hv.2.2 j hj) fun j hj => by
    rw [diff_bit, Bool.and_eq_true] at hj
    exact hj.1
theorem less_safe {s : Sn} (ok : SnOk s) {p m l : Nat} (hv : vld s ⟨p, m, l⟩) (h : worthZ s ⟨p, m, l⟩ ≠ -1) : l ≠ 0 ∧ diff l (drN s p m) = 0 := by
  have h2 := worthZ_safe ok hv.2.1 h
  unfold safeB at h2
  rw [Bool.and_eq_true, beq_iff_eq, bne_iff_ne] at h2
  exact ⟨h2.2, h2.1⟩
theorem less_hold {s : Sn} (ok : SnOk s) {P M N : Nat} {W : T3 Int} (hP : (P : Int) = s.places) (hM : (M : Int) = s.last + 1) (hN : N = allN s + 1) (hW : ∀ p m l, p < P → m < M → l < N → -1 ≤ W p m l ∧ W p m l ≤ 60)
    (h : ∀ y, vld s y → tbN (mkT P M N W) y ≤ bestZ s (tbN (mkT P M N W)) y) {p m l : Nat} (hp : p < P) (hm : m < M) (hl : l < N) : W p m l ≤ worthZ s ⟨p, m, l⟩ := by
  have hv : vld s ⟨p, m, l⟩ := ⟨by show (p : Int) < s.places; omega, by show (m : Int) ≤ s.last; omega, by show l ≤ allN s; omega⟩
  have e := holds_le ok (T := tbN (mkT P M N W)) (fun y hy => by
    rw [mkT_at (by have := hy.1; omega) (by have := hy.2.1; omega) (by have := hy.2.2; omega)]
    exact (hW _ _ _ (by have := hy.1; omega) (by have := hy.2.1; omega) (by have := hy.2.2; omega)).1) h (fun x t y hy => afterS_vld ok hy) _ _ (Nat.le_refl _) hv
  rwa [mkT_at (y := ⟨p, m, l⟩) hp hm hl] at e
theorem less_clos {s : Sn} (ok : SnOk s) {P M N : Nat} {W : T3 Int} (hP : (P : Int) = s.places) (hM : (M : Int) = s.last + 1) (hN : N = allN s + 1)
    (h : ∀ y, vld s y → tbN (mkT P M N W) y ≥ bestZ s (tbN (mkT P M N W)) y) {p m l : Nat} (hp : p < P) (hm : m < M) (hl : l < N) : worthZ s ⟨p, m, l⟩ ≤ W p m l := by
  have hv : vld s ⟨p, m, l⟩ := ⟨by show (p : Int) < s.places; omega, by show (m : Int) ≤ s.last; omega, by show l ≤ allN s; omega⟩
  have e := closed_ge ok (T := tbN (mkT P M N W)) h (fun x t y hy => afterS_vld ok hy) _ _ (Nat.le_refl _) hv
  rwa [mkT_at (y := ⟨p, m, l⟩) hp hm hl] at e
structure ChW (s : Sn) (c : Nat) (W : T3 Int) : Prop where
  w : ∀ p m l : Nat, (p : Int) < s.places → (m : Int) ≤ s.last → l ≤ allN s → -1 ≤ W p m l ∧ W p m l ≤ s.last + 2 * c
theorem ChW.beg {s : Sn} : ChW s 0 fun p m l => worthZ s ⟨p, m, l⟩ := ⟨fun p m l _ hm _ => by
  have h1 := worthZ_ge s ⟨p, m, l⟩
  have h2 : worthZ s ⟨p, m, l⟩ ≤ s.last - m := worthZ_lt s ⟨p, m, l⟩ hm
  omega⟩
theorem ChW.next {s : Sn} {c p m l : Nat} {W : T3 Int} {v : Int} (h : ChW s c W) (h1 : -1 ≤ v) (h2 : v ≤ s.last + 2 * (c + 1 : Nat)) : ChW s (c + 1) (upd3 W p m l v) := by
  refine ⟨fun p' m' l' hp hm hl => ?_⟩
  by_cases e : p' = p ∧ m' = m ∧ l' = l
  · obtain ⟨rfl, rfl, rfl⟩ := e
    rw [upd3_at]; exact ⟨h1, h2⟩
  · rw [upd3_ne _ _ e]
    have := h.w p' m' l' hp hm hl
    omega
end GA
end

section
namespace GA
open Go Go.RowKit Go.Proofs
set_option pp.deepTerms true
set_option maxRecDepth 8000
set_option linter.unusedVariables false
set_option linter.unusedSimpArgs false

theorem equal_sg (n1 n2 : Bool) (xs : List (Int × Int)) (hx : xs.length ≤ 100000) : Comp Try.prog 88 [.sl n1 (xs.map (sgA)), .sl n2 (xs.map (sgA))] (.bool true) := by
  refine Comp.body (T := tab) (res := [.tmp 4]) tab_ok [] Try.func88 rfl (by kernel_rfl) Try.ntmps88 rfl (by simp only [List.length_cons, List.length_nil]; decide) (by simp only [lowL, AV.low, lowSg]; rfl) ?_; conv => whnf
  repeat' first | ((with_reducible first | apply XBr.tt | apply XBr.ff | apply Chk.go | apply ChkA.go | apply ChkF.go | apply ChkB.go | apply XArr.pim0 | apply XArr.pim1); conv => whnf) | (with_reducible apply XBr.not) | ((with_reducible apply XBr.dec) <;> (intro h; first | (exfalso; omega) | ((try simp only [List.length_map] at h); first | (exfalso; omega) | (conv => whnf)))) | ((with_reducible first | apply XBr.beq | apply XBr.bne) <;> (intro h; first | (exfalso; omega) | (conv => whnf))) | ((with_reducible refine XInt.i64 (by omega) (by omega) ?_); conv => whnf) | ((with_reducible refine XHold.mk ?_ ?_); (first | omega | rfl | decide | exact ⟨rfl, by decide, rfl⟩ | exact wideI _ | exact widePr _ | exact wideSk _ | (unfold Room; constructor <;> ((try simp) <;> omega)) | exact ⟨rfl, by simp only [List.length_map], by unfold Room; constructor <;> ((try simp) <;> omega)⟩ | exact ⟨by omega, by omega, by unfold Room; constructor <;> ((try simp) <;> omega)⟩); conv => whnf) | ((first | ((with_reducible refine XIx.nat ?_ ?_ ?_); omega; (intro _; rfl)) | ((with_reducible refine XIx.map ?_ ?_ ?_ ?_); omega; omega; (intro _; rfl))); conv => whnf) | (with_reducible apply XAnd.mk) | (exact XSame.mk rfl rfl) | (exact XSame.mk (by first | rfl | (simp only [List.map_append, List.length_append, List.length_map]; done) | (simp only [List.map_append, List.length_append, List.length_map]; rfl)) (by first | rfl | (simp only [List.map_append]; done) | (simp only [List.map_append]; rfl))) | (with_reducible exact trivial) | ((first | (with_reducible refine xdrop_app (by rw [List.length_map]; omega) ?_) | (with_reducible refine XDrop.desk (by assumption) ?_) | (with_reducible first | refine XArr.ints (by omega) (by omega) (by omega) ?_ | refine XArr.intsA (by omega) (by omega) (by omega) ?_) | ((with_reducible first | refine XArr.nats ?_ ?_ ?_ | refine XArr.natsA ?_ ?_ ?_ | refine XArr.ptr ?_ ?_ ?_); omega; omega)); conv => whnf) | (apply Walk.drawN (id := 6) tab_ok mixed_ok [] [] (hsU _) [_, _, _, _, _, _, _, _, _] (by kernel_rfl) rfl) | ((with_reducible apply XNext.mk); conv => whnf) | ((with_reducible apply XBr.mk') <;> (intro h; conv => whnf))
  refine Walk.loopK tab_ok [] [(0, _), (1, _), (12, _)] ⟨rfl, rfl, rfl, trivial⟩ (fun i : Nat => i ≤ xs.length) (fun i => [(13, natA i)]) (fun _ => []) (fun i => xs.length - i) 0 (Nat.zero_le _) rfl ⟨rfl, trivial⟩ ?_
  intro i hi
  conv => whnf
  have e1 : ((xs.map (sgA)).length : Int) = xs.length := by rw [List.length_map]
  by_cases hlt : i < xs.length
  · skip
    repeat' first | ((with_reducible first | apply XBr.tt | apply XBr.ff | apply Chk.go | apply ChkA.go | apply ChkF.go | apply ChkB.go | apply XArr.pim0 | apply XArr.pim1); conv => whnf) | (with_reducible apply XBr.not) | ((with_reducible apply XBr.dec) <;> (intro h; first | (exfalso; omega) | ((try simp only [List.length_map] at h); first | (exfalso; omega) | (conv => whnf)))) | ((with_reducible first | apply XBr.beq | apply XBr.bne) <;> (intro h; first | (exfalso; omega) | (conv => whnf))) | ((with_reducible refine XInt.i64 (by omega) (by omega) ?_); conv => whnf) | ((with_reducible refine XHold.mk ?_ ?_); (first | omega | rfl | decide | exact ⟨rfl, by decide, rfl⟩ | exact wideI _ | exact widePr _ | exact wideSk _ | (unfold Room; constructor <;> ((try simp) <;> omega)) | exact ⟨rfl, by simp only [List.length_map], by unfold Room; constructor <;> ((try simp) <;> omega)⟩ | exact ⟨by omega, by omega, by unfold Room; constructor <;> ((try simp) <;> omega)⟩); conv => whnf) | ((first | ((with_reducible refine XIx.nat ?_ ?_ ?_); omega; (intro _; rfl)) | ((with_reducible refine XIx.map ?_ ?_ ?_ ?_); omega; omega; (intro _; rfl))); conv => whnf) | (with_reducible apply XAnd.mk) | (exact XSame.mk rfl rfl) | (exact XSame.mk (by first | rfl | (simp only [List.map_append, List.length_append, List.length_map]; done) | (simp only [List.map_append, List.length_append, List.length_map]; rfl)) (by first | rfl | (simp only [List.map_append]; done) | (simp only [List.map_append]; rfl))) | (with_reducible exact trivial) | ((first | (with_reducible refine xdrop_app (by rw [List.length_map]; omega) ?_) | (with_reducible refine XDrop.desk (by assumption) ?_) | (with_reducible first | refine XArr.ints (by omega) (by omega) (by omega) ?_ | refine XArr.intsA (by omega) (by omega) (by omega) ?_) | ((with_reducible first | refine XArr.nats ?_ ?_ ?_ | refine XArr.natsA ?_ ?_ ?_ | refine XArr.ptr ?_ ?_ ?_); omega; omega)); conv => whnf) | (apply Walk.drawN (id := 6) tab_ok mixed_ok [] [] (hsU _) [_, _, _, _, _, _, _, _, _] (by kernel_rfl) rfl) | ((with_reducible apply XNext.mk); conv => whnf) | ((refine XEqA.mk ⟨[(xs.getD i default).1, (xs.getD i default).2], [(xs.getD i default).1, (xs.getD i default).2], rfl, rfl, rfl, rfl, ?_⟩); exact XSame.mk (show AV.bool (!(_ == _)) = AV.bool false by simp) rfl) | ((with_reducible apply XBr.mk') <;> (intro h; conv => whnf))
    exact XAgain.go (i + 1) (by omega) (by omega) rfl ⟨rfl, rfl, rfl, rfl, trivial⟩
  obtain rfl : i = xs.length := by omega
  repeat' first | ((with_reducible first | apply XBr.tt | apply XBr.ff | apply Chk.go | apply ChkA.go | apply ChkF.go | apply ChkB.go | apply XArr.pim0 | apply XArr.pim1); conv => whnf) | (with_reducible apply XBr.not) | ((with_reducible apply XBr.dec) <;> (intro h; first | (exfalso; omega) | ((try simp only [List.length_map] at h); first | (exfalso; omega) | (conv => whnf)))) | ((with_reducible first | apply XBr.beq | apply XBr.bne) <;> (intro h; first | (exfalso; omega) | (conv => whnf))) | ((with_reducible refine XInt.i64 (by omega) (by omega) ?_); conv => whnf) | ((with_reducible refine XHold.mk ?_ ?_); (first | omega | rfl | decide | exact ⟨rfl, by decide, rfl⟩ | exact wideI _ | exact widePr _ | exact wideSk _ | (unfold Room; constructor <;> ((try simp) <;> omega)) | exact ⟨rfl, by simp only [List.length_map], by unfold Room; constructor <;> ((try simp) <;> omega)⟩ | exact ⟨by omega, by omega, by unfold Room; constructor <;> ((try simp) <;> omega)⟩); conv => whnf) | ((first | ((with_reducible refine XIx.nat ?_ ?_ ?_); omega; (intro _; rfl)) | ((with_reducible refine XIx.map ?_ ?_ ?_ ?_); omega; omega; (intro _; rfl))); conv => whnf) | (with_reducible apply XAnd.mk) | (exact XSame.mk rfl rfl) | (exact XSame.mk (by first | rfl | (simp only [List.map_append, List.length_append, List.length_map]; done) | (simp only [List.map_append, List.length_append, List.length_map]; rfl)) (by first | rfl | (simp only [List.map_append]; done) | (simp only [List.map_append]; rfl))) | (with_reducible exact trivial) | ((first | (with_reducible refine xdrop_app (by rw [List.length_map]; omega) ?_) | (with_reducible refine XDrop.desk (by assumption) ?_) | (with_reducible first | refine XArr.ints (by omega) (by omega) (by omega) ?_ | refine XArr.intsA (by omega) (by omega) (by omega) ?_) | ((with_reducible first | refine XArr.nats ?_ ?_ ?_ | refine XArr.natsA ?_ ?_ ?_ | refine XArr.ptr ?_ ?_ ?_); omega; omega)); conv => whnf) | (apply Walk.drawN (id := 6) tab_ok mixed_ok [] [] (hsU _) [_, _, _, _, _, _, _, _, _] (by kernel_rfl) rfl) | ((with_reducible apply XNext.mk); conv => whnf) | ((with_reducible apply XBr.mk') <;> (intro h; conv => whnf))
  exact XOut.bool rfl
theorem eq_sg (n1 n2 : Bool) (xs : List (Int × Int)) (hx : xs.length ≤ 100000) : Comp Try.prog 48 [.sl n1 (xs.map (sgA)), .sl n2 (xs.map (sgA))] (.bool true) := by
  refine Comp.body (T := tab) (res := [.tmp 4]) tab_ok [] Try.func48 rfl (by kernel_rfl) Try.ntmps48 rfl (by simp only [List.length_cons, List.length_nil]; decide) (by simp only [lowL, AV.low, lowSg]; rfl) ?_; conv => whnf
  repeat' first | ((with_reducible first | apply XBr.tt | apply XBr.ff | apply Chk.go | apply ChkA.go | apply ChkF.go | apply ChkB.go | apply XArr.pim0 | apply XArr.pim1); conv => whnf) | (with_reducible apply XBr.not) | ((with_reducible apply XBr.dec) <;> (intro h; first | (exfalso; omega) | ((try simp only [List.length_map] at h); first | (exfalso; omega) | (conv => whnf)))) | ((with_reducible first | apply XBr.beq | apply XBr.bne) <;> (intro h; first | (exfalso; omega) | (conv => whnf))) | ((with_reducible refine XInt.i64 (by omega) (by omega) ?_); conv => whnf) | ((with_reducible refine XHold.mk ?_ ?_); (first | omega | rfl | decide | exact ⟨rfl, by decide, rfl⟩ | exact wideI _ | exact widePr _ | exact wideSk _ | (unfold Room; constructor <;> ((try simp) <;> omega)) | exact ⟨rfl, by simp only [List.length_map], by unfold Room; constructor <;> ((try simp) <;> omega)⟩ | exact ⟨by omega, by omega, by unfold Room; constructor <;> ((try simp) <;> omega)⟩); conv => whnf) | ((first | ((with_reducible refine XIx.nat ?_ ?_ ?_); omega; (intro _; rfl)) | ((with_reducible refine XIx.map ?_ ?_ ?_ ?_); omega; omega; (intro _; rfl))); conv => whnf) | (with_reducible apply XAnd.mk) | (exact XSame.mk rfl rfl) | (exact XSame.mk (by first | rfl | (simp only [List.map_append, List.length_append, List.length_map]; done) | (simp only [List.map_append, List.length_append, List.length_map]; rfl)) (by first | rfl | (simp only [List.map_append]; done) | (simp only [List.map_append]; rfl))) | (with_reducible exact trivial) | ((first | (with_reducible refine xdrop_app (by rw [List.length_map]; omega) ?_) | (with_reducible refine XDrop.desk (by assumption) ?_) | (with_reducible first | refine XArr.ints (by omega) (by omega) (by omega) ?_ | refine XArr.intsA (by omega) (by omega) (by omega) ?_) | ((with_reducible first | refine XArr.nats ?_ ?_ ?_ | refine XArr.natsA ?_ ?_ ?_ | refine XArr.ptr ?_ ?_ ?_); omega; omega) | (with_reducible apply XNext.mk) | (refine XCall.ret (equal_sg n1 n2 xs hx) ?_)); conv => whnf) | ((with_reducible apply XBr.mk') <;> (intro h; conv => whnf))
  exact XOut.bool rfl
def threeS : Sn := ⟨3, 0, 2, 12, false, [(0, 1, 2), (1, 2, 2)], false, [(false, [0, 0, 0]), (false, [0, 0, 0])], false, [(false, [(false, [(0, 12)]), (false, [(0, 9)]), (false, [(0, 7)])]), (false, [(false, [(0, 12)]), (false, [(0, 6)]), (false, [(0, 5)])])]⟩
theorem three1_c (nl : Bool) (hi : List Int) (hh : hi.length ≤ 100) : Comp Try.prog 83 [.sl nl (ints hi)] (trA (hi.isEmpty, hi.map fun n => (false, [((0 : Int), n)]))) := by
  have e1 : ((ints hi).length : Int) = hi.length := by rw [ints_len]
  refine Comp.body (T := tab) (res := [.cell 2 37]) tab_ok [] Try.func83 rfl (by kernel_rfl) Try.ntmps83 rfl (by simp only [List.length_cons, List.length_nil]; decide) (by simp only [lowL, AV.low, lowI]; rfl) ?_; conv => whnf
  repeat' first | ((with_reducible first | apply XBr.tt | apply XBr.ff | apply Chk.go | apply ChkA.go | apply ChkF.go | apply ChkB.go | apply XArr.pim0 | apply XArr.pim1); conv => whnf) | (with_reducible apply XBr.not) | ((with_reducible apply XBr.dec) <;> (intro h; first | (exfalso; omega) | ((try simp only [List.length_map] at h); first | (exfalso; omega) | (conv => whnf)))) | ((with_reducible first | apply XBr.beq | apply XBr.bne) <;> (intro h; first | (exfalso; omega) | (conv => whnf))) | ((with_reducible refine XInt.i64 (by omega) (by omega) ?_); conv => whnf) | ((with_reducible refine XHold.mk ?_ ?_); (first | omega | rfl | decide | exact ⟨rfl, by decide, rfl⟩ | exact wideI _ | exact widePr _ | exact wideSk _ | (unfold Room; constructor <;> ((try simp) <;> omega)) | exact ⟨rfl, by simp only [List.length_map], by unfold Room; constructor <;> ((try simp) <;> omega)⟩ | exact ⟨by omega, by omega, by unfold Room; constructor <;> ((try simp) <;> omega)⟩); conv => whnf) | ((first | ((with_reducible refine XIx.nat ?_ ?_ ?_); omega; (intro _; rfl)) | ((with_reducible refine XIx.map ?_ ?_ ?_ ?_); omega; omega; (intro _; rfl))); conv => whnf) | (with_reducible apply XAnd.mk) | (exact XSame.mk rfl rfl) | (exact XSame.mk (by first | rfl | (simp only [List.map_append, List.length_append, List.length_map]; done) | (simp only [List.map_append, List.length_append, List.length_map]; rfl)) (by first | rfl | (simp only [List.map_append]; done) | (simp only [List.map_append]; rfl))) | (with_reducible exact trivial) | ((first | (with_reducible refine xdrop_app (by rw [List.length_map]; omega) ?_) | (with_reducible refine XDrop.desk (by assumption) ?_) | (with_reducible first | refine XArr.ints (by omega) (by omega) (by omega) ?_ | refine XArr.intsA (by omega) (by omega) (by omega) ?_) | ((with_reducible first | refine XArr.nats ?_ ?_ ?_ | refine XArr.natsA ?_ ?_ ?_ | refine XArr.ptr ?_ ?_ ?_); omega; omega) | (with_reducible apply XNext.mk)); conv => whnf) | ((with_reducible apply XBr.mk') <;> (intro h; conv => whnf))
  refine Walk.nilcell 1 0 34 rfl rfl ?_
  refine Walk.loopGK tab_ok [] [(2, _), (3, _), (6, _), (7, _)] ⟨rfl, rfl, rfl, rfl, trivial⟩ (fun k : Nat => k ≤ hi.length) (fun k => [(8, natA k)]) (fun k => [.cells [.sl true []], .cells [.gr 2 k], .grow 34 (hi.take k).isEmpty (((hi.take k).map fun n => ((false, [((0 : Int), n)]) : Sps)).map spsA)]) (fun k => hi.length - k) 0 (Nat.zero_le _) rfl ⟨rfl, trivial⟩ ?_ (fun _ _ => (show (3 : Nat) ≤ 3 from Nat.le_refl 3)) ?_
  · intro k _
    refine ⟨fun z hz => ?_, fun z hz => ?_⟩
    · simp only [List.mem_cons, List.not_mem_nil, or_false] at hz
      rcases hz with rfl | rfl | rfl <;> first | rfl | exact lowSps _
    · simp only [List.cons_append, List.nil_append, List.mem_cons, List.not_mem_nil, or_false] at hz
      rcases hz with rfl | rfl | rfl | rfl | rfl <;> first | rfl | exact lowI _
  intro k hk
  have hnx := fun h => take_next (xs := hi) (i := k) h
  have hall : k = hi.length → hi.take k = hi := fun h => by rw [h, List.take_length]
  have hkl : (hi.take k).length = k := by rw [List.length_take]; omega
  generalize hi.take k = R at hnx hall hkl
  have hRl : ((R.map fun n => ((false, [((0 : Int), n)]) : Sps)).map spsA).length = k := by rw [List.length_map, List.length_map]; exact hkl
  conv => whnf
  by_cases hlt : k < hi.length
  · skip
    repeat' first | ((with_reducible first | apply XBr.tt | apply XBr.ff | apply Chk.go | apply ChkA.go | apply ChkF.go | apply ChkB.go | apply XArr.pim0 | apply XArr.pim1); conv => whnf) | (with_reducible apply XBr.not) | ((with_reducible apply XBr.dec) <;> (intro h; first | (exfalso; omega) | ((try simp only [List.length_map] at h); first | (exfalso; omega) | (conv => whnf)))) | ((with_reducible first | apply XBr.beq | apply XBr.bne) <;> (intro h; first | (exfalso; omega) | (conv => whnf))) | ((with_reducible refine XInt.i64 (by omega) (by omega) ?_); conv => whnf) | ((with_reducible refine XHold.mk ?_ ?_); (first | omega | rfl | decide | exact ⟨rfl, by decide, rfl⟩ | exact wideI _ | exact widePr _ | exact wideSk _ | (unfold Room; constructor <;> ((try simp) <;> omega)) | exact ⟨rfl, by simp only [List.length_map], by unfold Room; constructor <;> ((try simp) <;> omega)⟩ | exact ⟨by omega, by omega, by unfold Room; constructor <;> ((try simp) <;> omega)⟩); conv => whnf) | ((first | ((with_reducible refine XIx.nat ?_ ?_ ?_); omega; (intro _; rfl)) | ((with_reducible refine XIx.map ?_ ?_ ?_ ?_); omega; omega; (intro _; rfl))); conv => whnf) | (with_reducible apply XAnd.mk) | (exact XSame.mk rfl rfl) | (exact XSame.mk (by first | rfl | (simp only [List.map_append, List.length_append, List.length_map]; done) | (simp only [List.map_append, List.length_append, List.length_map]; rfl)) (by first | rfl | (simp only [List.map_append]; done) | (simp only [List.map_append]; rfl))) | (with_reducible exact trivial) | ((first | (with_reducible refine xdrop_app (by rw [List.length_map]; omega) ?_) | (with_reducible refine XDrop.desk (by assumption) ?_) | (with_reducible first | refine XArr.ints (by omega) (by omega) (by omega) ?_ | refine XArr.intsA (by omega) (by omega) (by omega) ?_) | ((with_reducible first | refine XArr.nats ?_ ?_ ?_ | refine XArr.natsA ?_ ?_ ?_ | refine XArr.ptr ?_ ?_ ?_); omega; omega) | (with_reducible apply XNext.mk)); conv => whnf) | ((refine XHold.mk ⟨rfl, hRl, by unfold Room; constructor <;> ((try simp) <;> omega)⟩ ?_); conv => whnf) | ((with_reducible apply XBr.mk') <;> (intro h; conv => whnf))
    refine XAgainG.go (k + 1) [] (by omega) (by omega) ?_ ⟨rfl, rfl, rfl, rfl, rfl, trivial⟩
    show [Blk.cells _, Blk.cells _, Blk.grow _ (hi.take (k + 1)).isEmpty (((hi.take (k + 1)).map fun n => ((false, [((0 : Int), n)]) : Sps)).map spsA)] ++ [] = _
    rw [hnx hlt, isEmpty_app, List.map_append, List.map_append]; rfl
  obtain rfl : k = hi.length := by omega
  obtain rfl := hall rfl
  repeat' first | ((with_reducible first | apply XBr.tt | apply XBr.ff | apply Chk.go | apply ChkA.go | apply ChkF.go | apply ChkB.go | apply XArr.pim0 | apply XArr.pim1); conv => whnf) | (with_reducible apply XBr.not) | ((with_reducible apply XBr.dec) <;> (intro h; first | (exfalso; omega) | ((try simp only [List.length_map] at h); first | (exfalso; omega) | (conv => whnf)))) | ((with_reducible first | apply XBr.beq | apply XBr.bne) <;> (intro h; first | (exfalso; omega) | (conv => whnf))) | ((with_reducible refine XInt.i64 (by omega) (by omega) ?_); conv => whnf) | ((with_reducible refine XHold.mk ?_ ?_); (first | omega | rfl | decide | exact ⟨rfl, by decide, rfl⟩ | exact wideI _ | exact widePr _ | exact wideSk _ | (unfold Room; constructor <;> ((try simp) <;> omega)) | exact ⟨rfl, by simp only [List.length_map], by unfold Room; constructor <;> ((try simp) <;> omega)⟩ | exact ⟨by omega, by omega, by unfold Room; constructor <;> ((try simp) <;> omega)⟩); conv => whnf) | ((first | ((with_reducible refine XIx.nat ?_ ?_ ?_); omega; (intro _; rfl)) | ((with_reducible refine XIx.map ?_ ?_ ?_ ?_); omega; omega; (intro _; rfl))); conv => whnf) | (with_reducible apply XAnd.mk) | (exact XSame.mk rfl rfl) | (exact XSame.mk (by first | rfl | (simp only [List.map_append, List.length_append, List.length_map]; done) | (simp only [List.map_append, List.length_append, List.length_map]; rfl)) (by first | rfl | (simp only [List.map_append]; done) | (simp only [List.map_append]; rfl))) | (with_reducible exact trivial) | ((first | (with_reducible refine xdrop_app (by rw [List.length_map]; omega) ?_) | (with_reducible refine XDrop.desk (by assumption) ?_) | (with_reducible first | refine XArr.ints (by omega) (by omega) (by omega) ?_ | refine XArr.intsA (by omega) (by omega) (by omega) ?_) | ((with_reducible first | refine XArr.nats ?_ ?_ ?_ | refine XArr.natsA ?_ ?_ ?_ | refine XArr.ptr ?_ ?_ ?_); omega; omega) | (with_reducible apply XNext.mk)); conv => whnf) | ((with_reducible apply XBr.mk') <;> (intro h; conv => whnf))
  exact ⟨Froz.agg (one1 rfl) (.cons (Froz.grow rfl hRl (lowSps _)) .nil)⟩
theorem three_c : Comp Try.prog 44 [] (snA threeS) := by
  have h1 := three1_c false [12, 9, 7] (by decide)
  have h2 := three1_c false [12, 6, 5] (by decide)
  refine Comp.body (T := tab) (res := [.cell 0 27]) tab_ok [] Try.func44 rfl (by kernel_rfl) Try.ntmps44 rfl (by simp only [List.length_cons, List.length_nil]; decide) (by rfl) ?_; conv => whnf
  repeat' first | ((with_reducible first | apply XBr.tt | apply XBr.ff | apply Chk.go | apply ChkA.go | apply ChkF.go | apply ChkB.go | apply XArr.pim0 | apply XArr.pim1); conv => whnf) | (with_reducible apply XBr.not) | ((with_reducible apply XBr.dec) <;> (intro h; first | (exfalso; omega) | ((try simp only [List.length_map] at h); first | (exfalso; omega) | (conv => whnf)))) | ((with_reducible first | apply XBr.beq | apply XBr.bne) <;> (intro h; first | (exfalso; omega) | (conv => whnf))) | ((with_reducible refine XInt.i64 (by omega) (by omega) ?_); conv => whnf) | ((with_reducible refine XHold.mk ?_ ?_); (first | omega | rfl | decide | exact ⟨rfl, by decide, rfl⟩ | exact wideI _ | exact widePr _ | exact wideSk _ | (unfold Room; constructor <;> ((try simp) <;> omega)) | exact ⟨rfl, by simp only [List.length_map], by unfold Room; constructor <;> ((try simp) <;> omega)⟩ | exact ⟨by omega, by omega, by unfold Room; constructor <;> ((try simp) <;> omega)⟩); conv => whnf) | ((first | ((with_reducible refine XIx.nat ?_ ?_ ?_); omega; (intro _; rfl)) | ((with_reducible refine XIx.map ?_ ?_ ?_ ?_); omega; omega; (intro _; rfl))); conv => whnf) | (with_reducible apply XAnd.mk) | (exact XSame.mk rfl rfl) | (exact XSame.mk (by first | rfl | (simp only [List.map_append, List.length_append, List.length_map]; done) | (simp only [List.map_append, List.length_append, List.length_map]; rfl)) (by first | rfl | (simp only [List.map_append]; done) | (simp only [List.map_append]; rfl))) | (with_reducible exact trivial) | ((first | (with_reducible refine xdrop_app (by rw [List.length_map]; omega) ?_) | (with_reducible refine XDrop.desk (by assumption) ?_) | (with_reducible first | refine XArr.ints (by omega) (by omega) (by omega) ?_ | refine XArr.intsA (by omega) (by omega) (by omega) ?_) | ((with_reducible first | refine XArr.nats ?_ ?_ ?_ | refine XArr.natsA ?_ ?_ ?_ | refine XArr.ptr ?_ ?_ ?_); omega; omega) | (with_reducible apply XNext.mk) | (refine XCall.ret h1 ?_) | (refine XCall.ret h2 ?_)); conv => whnf) | ((with_reducible apply XBr.mk') <;> (intro h; conv => whnf))
  exact ⟨Froz.low (snL threeS)⟩
theorem threeB : SnB threeS := ⟨by decide, by decide, by decide, by decide, by decide, by decide⟩
theorem threeOk : SnOk threeS := snE_iff.1 (by decide +kernel)
theorem awake02_c : Comp Try.prog 12 [] (.bool true) := by
  have h0 := three_c
  have h1 := fTurn_ok threeS threeB 1 threeOk (by decide) (by decide +kernel)
  have t1 : turnN threeS 1 = 7 := by decide +kernel
  rw [t1] at h1
  have h2 := fDry_c threeS threeB 1 7
  rw [show dryE threeS 1 7 = 0 by decide +kernel, show (if (0 : Int) = 0 then drN threeS (1 : Int).toNat (7 : Int).toNat else 0) = 1 by decide +kernel] at h2
  have h3 := fSteps_ok threeS threeB 1 2 3 (by decide +kernel)
  rw [show stepsS threeS (stN 1 2 3) = [(0, 2), (1, 1), (2, 2)] by decide +kernel] at h3
  have h4 := fFixed_ok threeS threeB threeOk 0 (by decide) false [(1, 2), (2, 2), (2, 1), (1, 2), (0, 2)] (by decide)
  rw [show fixR threeS ((0 : Nat) : Int) [(1, 2), (2, 2), (2, 1), (1, 2), (0, 2)] = (1, 1) by decide +kernel, if_neg (by decide +kernel)] at h4
  have h5 := eq_sg false false [(0, 2), (1, 1), (2, 2)] (by decide)
  refine Comp.body (T := tab) (res := [.tmp 0]) tab_ok [] Try.func12 rfl (by kernel_rfl) Try.ntmps12 rfl (by simp only [List.length_cons, List.length_nil]; decide) (by rfl) ?_; conv => whnf
  repeat' first | ((with_reducible first | apply XBr.tt | apply XBr.ff | apply Chk.go | apply ChkA.go | apply ChkF.go | apply ChkB.go | apply XArr.pim0 | apply XArr.pim1); conv => whnf) | (with_reducible apply XBr.not) | ((with_reducible apply XBr.dec) <;> (intro h; first | (exfalso; omega) | ((try simp only [List.length_map] at h); first | (exfalso; omega) | (conv => whnf)))) | ((with_reducible first | apply XBr.beq | apply XBr.bne) <;> (intro h; first | (exfalso; omega) | (conv => whnf))) | ((with_reducible refine XInt.i64 (by omega) (by omega) ?_); conv => whnf) | ((with_reducible refine XHold.mk ?_ ?_); (first | omega | rfl | decide | exact ⟨rfl, by decide, rfl⟩ | exact wideI _ | exact widePr _ | exact wideSk _ | (unfold Room; constructor <;> ((try simp) <;> omega)) | exact ⟨rfl, by simp only [List.length_map], by unfold Room; constructor <;> ((try simp) <;> omega)⟩ | exact ⟨by omega, by omega, by unfold Room; constructor <;> ((try simp) <;> omega)⟩); conv => whnf) | ((first | ((with_reducible refine XIx.nat ?_ ?_ ?_); omega; (intro _; rfl)) | ((with_reducible refine XIx.map ?_ ?_ ?_ ?_); omega; omega; (intro _; rfl))); conv => whnf) | (with_reducible apply XAnd.mk) | (exact XSame.mk rfl rfl) | (exact XSame.mk (by first | rfl | (simp only [List.map_append, List.length_append, List.length_map]; done) | (simp only [List.map_append, List.length_append, List.length_map]; rfl)) (by first | rfl | (simp only [List.map_append]; done) | (simp only [List.map_append]; rfl))) | (with_reducible exact trivial) | ((first | (with_reducible refine xdrop_app (by rw [List.length_map]; omega) ?_) | (with_reducible refine XDrop.desk (by assumption) ?_) | (with_reducible first | refine XArr.ints (by omega) (by omega) (by omega) ?_ | refine XArr.intsA (by omega) (by omega) (by omega) ?_) | ((with_reducible first | refine XArr.nats ?_ ?_ ?_ | refine XArr.natsA ?_ ?_ ?_ | refine XArr.ptr ?_ ?_ ?_); omega; omega) | (with_reducible apply XNext.mk) | (refine XCall.ret h0 ?_) | (refine XCall.ret h1 ?_) | (refine XCall.ret h2 ?_) | (refine XCall.ret h3 ?_) | (refine XCall.ret h4 ?_) | (refine XCall.ret h5 ?_)); conv => whnf) | ((with_reducible apply XBr.mk') <;> (intro h; conv => whnf))
  refine Walk.norm tab_ok [] [(1, _), (2, _), (3, _), (4, _), (5, _), (6, _), (7, _), (8, _), (9, _)] ⟨rfl, rfl, rfl, rfl, rfl, rfl, rfl, rfl, rfl, trivial⟩ ?_
  conv => whnf
  repeat' first | ((with_reducible first | apply XBr.tt | apply XBr.ff | apply Chk.go | apply ChkA.go | apply ChkF.go | apply ChkB.go | apply XArr.pim0 | apply XArr.pim1); conv => whnf) | (with_reducible apply XBr.not) | ((with_reducible apply XBr.dec) <;> (intro h; first | (exfalso; omega) | ((try simp only [List.length_map] at h); first | (exfalso; omega) | (conv => whnf)))) | ((with_reducible first | apply XBr.beq | apply XBr.bne) <;> (intro h; first | (exfalso; omega) | (conv => whnf))) | ((with_reducible refine XInt.i64 (by omega) (by omega) ?_); conv => whnf) | ((with_reducible refine XHold.mk ?_ ?_); (first | omega | rfl | decide | exact ⟨rfl, by decide, rfl⟩ | exact wideI _ | exact widePr _ | exact wideSk _ | (unfold Room; constructor <;> ((try simp) <;> omega)) | exact ⟨rfl, by simp only [List.length_map], by unfold Room; constructor <;> ((try simp) <;> omega)⟩ | exact ⟨by omega, by omega, by unfold Room; constructor <;> ((try simp) <;> omega)⟩); conv => whnf) | ((first | ((with_reducible refine XIx.nat ?_ ?_ ?_); omega; (intro _; rfl)) | ((with_reducible refine XIx.map ?_ ?_ ?_ ?_); omega; omega; (intro _; rfl))); conv => whnf) | (with_reducible apply XAnd.mk) | (exact XSame.mk rfl rfl) | (exact XSame.mk (by first | rfl | (simp only [List.map_append, List.length_append, List.length_map]; done) | (simp only [List.map_append, List.length_append, List.length_map]; rfl)) (by first | rfl | (simp only [List.map_append]; done) | (simp only [List.map_append]; rfl))) | (with_reducible exact trivial) | ((first | (with_reducible refine xdrop_app (by rw [List.length_map]; omega) ?_) | (with_reducible refine XDrop.desk (by assumption) ?_) | (with_reducible first | refine XArr.ints (by omega) (by omega) (by omega) ?_ | refine XArr.intsA (by omega) (by omega) (by omega) ?_) | ((with_reducible first | refine XArr.nats ?_ ?_ ?_ | refine XArr.natsA ?_ ?_ ?_ | refine XArr.ptr ?_ ?_ ?_); omega; omega) | (with_reducible apply XNext.mk) | (refine XCall.ret h5 ?_)); conv => whnf) | ((with_reducible apply XBr.mk') <;> (intro h; conv => whnf))
  exact ⟨.low rfl⟩
end GA
end

section
namespace GA
open Go Go.RowKit
set_option linter.unusedVariables false
set_option linter.unusedSimpArgs false

def lexP (A : Array Oper) : Nat → List Oper → Bool
  | _, [] => true
  | k, o :: l => o.after.toList.all (fun e => !Region.binds .any e || Nat.blt e.on k) && l.all (fun oj => oj.after.toList.any (fun e => Region.binds .any e && Nat.beq e.on k) || o.apart A oj) && lexP A (k + 1) l
theorem lex_from {ops : List Oper} : ∀ (l : List Oper) (k : Nat) (listed : Array Bool), (∀ j, l[j]? = ops[k + j]?) → k + l.length = ops.length → listed.size = ops.length → (∀ j, listed.getD j true = decide (j < k ∨ ops.length ≤ j)) → lexP ops.toArray k l = true → Region.lexFrom .any ops.toArray l.length k listed = true
  | [], k, listed, hl, hk, hs, hL, h => by
    rw [List.length_nil, Region.lexFrom, List.isEmpty_iff]
    refine List.eq_nil_iff_forall_not_mem.2 fun j hj => ?_
    obtain ⟨h1, o, ho, -⟩ := mem_ready.1 hj
    have hlt : j < ops.length := by simpa using (Array.getElem?_eq_some_iff.1 ho).1
    rw [hL, decide_eq_false_iff_not] at h1
    rw [List.length_nil] at hk
    omega
  | o :: l, k, listed, hl, hk, hs, hL, h => by
    simp only [lexP, Bool.and_eq_true] at h
    obtain ⟨⟨h1, h2⟩, h3⟩ := h
    have h0 : ops[k]? = some o := by have := hl 0; simpa using this.symm
    have hkl : k < ops.length := (List.getElem?_eq_some_iff.1 h0).1
    rw [List.length_cons] at hk
    simp only [List.length_cons, Region.lexFrom, Bool.and_eq_true]
    refine ⟨⟨?_, ?_⟩, ?_⟩
    · rw [List.contains_iff_mem]
      refine mem_ready.2 ⟨by rw [hL, decide_eq_false_iff_not]; omega, o, by simpa using h0, fun e he hb => ?_⟩
      have h4 := List.all_eq_true.1 h1 e (by simpa using he)
      rw [hb] at h4
      simp only [Bool.not_true, Bool.false_or] at h4
      have h5 : e.on < k := Nat.blt_eq.mp h4
      have h6 := hL e.on
      rw [decide_eq_true (.inl h5)] at h6
      have h7 : e.on < listed.size := by omega
      simp only [Array.getD, h7, dite_true] at h6 ⊢
      exact h6
    · unfold Region.free
      rw [show ops.toArray[k]? = some o by simpa using h0]
      dsimp only
      rw [List.all_eq_true]
      intro j hj
      have hjl : j < ops.length := by simpa using hj
      by_cases hjk : j < k ∨ ops.length ≤ j
      · rw [hL, decide_eq_true hjk]; simp
      · by_cases he : j = k
        · rw [he]; simp
        · have hj2 : l[j - k - 1]? = ops[j]? := by
            have := hl (j - k)
            rw [show k + (j - k) = j by omega] at this
            rw [← this, show j - k = (j - k - 1) + 1 by omega, List.getElem?_cons_succ]
            simp
          have hoj : ops[j]? = some ops[j] := List.getElem?_eq_getElem hjl
          rw [hoj] at hj2
          have hm := List.mem_of_getElem? hj2
          have h4 := List.all_eq_true.1 h2 _ hm
          rw [show ops.toArray[j]? = some ops[j] by simp [hjl]]
          dsimp only
          rw [Bool.or_eq_true] at h4
          rcases h4 with h4 | h4
          · obtain ⟨e, he1, he2⟩ := List.any_eq_true.1 h4
            have h5 : (ops[j].after.any fun e => Region.binds .any e && e.on == k) = true := by
              rw [Array.any_eq_true']
              refine ⟨e, by simpa using he1, ?_⟩
              rw [Bool.and_eq_true] at he2 ⊢
              exact ⟨he2.1, by rw [beq_iff_eq]; exact Nat.eq_of_beq_eq_true he2.2⟩
            rw [h5]; simp
          · rw [h4]; simp
    · refine lex_from l (k + 1) _ (fun j => ?_) (by omega) (by simpa using hs) (fun j => ?_) h3
      · have := hl (j + 1)
        rw [List.getElem?_cons_succ] at this
        rw [this]; congr 1; omega
      · by_cases hjk : k = j
        · subst hjk
          have h7 : k < listed.size := by omega
          rw [decide_eq_true (.inl (by omega))]
          simp [h7]
        · rw [getD_set_ne true hjk, hL]
          congr 1
          simp only [eq_iff_iff]
          omega
theorem lex_of {ops : List Oper} (h : (Region.noSelect ops.toArray && lexP ops.toArray 0 ops) = true) : Region.lexB .any ops.toArray = true := by
  rw [Bool.and_eq_true] at h
  simp only [Region.lexB, Bool.and_eq_true]
  refine ⟨h.1, ?_⟩
  have := lex_from (ops := ops) ops 0 (Array.replicate ops.toArray.size false) (fun j => by rw [Nat.zero_add]) (by simp) (by simp) (fun j => ?_) h.2
  · simpa using this
  · by_cases hj : j < ops.length
    · rw [decide_eq_false (by omega)]
      simp [hj]
    · rw [decide_eq_true (.inr (by omega))]
      simp [hj]
end GA
end

section
namespace GA
open Go Go.RowKit Go.Proofs
set_option pp.deepTerms true
set_option maxRecDepth 8000
set_option linter.unusedVariables false
set_option linter.unusedSimpArgs false

structure WrG (s : Sn) (P M N : Nat) (T : List Rs) : Prop where
  l : T.length = P
  r : ∀ q : Nat, q < P → (T.getD q default).2.length = M
  c : ∀ q m : Nat, q < P → m < M → ((T.getD q default).2.getD m default).2.length = N
  v : ∀ q m l : Nat, q < P → m < M → l < N → (((T.getD q default).2.getD m default).2).getD l default = worthZ s ⟨q, m, l⟩
  e : ∀ q : Nat, q < P → T.getD q default = (false, vecF M fun m => (false, vecF N fun l => worthZ s ⟨q, m, l⟩))
theorem wr_G {s : Sn} (ok : SnOk s) {P M N : Nat} (hP : s.places = P) (hM : s.last + 1 = M) (hN : allN s + 1 = N) : WrG s P M N (wrT s) := by
  have e : wrT s = mkT P M N fun p m l => worthZ s ⟨p, m, l⟩ := by
    unfold wrT
    rw [show s.places.toNat = P by omega, show (s.last + 1).toNat = M by omega, hN]
  rw [e]
  refine ⟨mkT_len _ _ _ _, fun q hq => ?_, fun q m hq hm => ?_, fun q m l hq hm hl => mkT_at (y := ⟨q, m, l⟩) hq hm hl, fun q hq => mkT_p hq⟩
  · rw [mkT_p hq]; exact vecF_len _ _
  · rw [mkT_m hq hm]; exact vecF_len _ _
set_option maxHeartbeats 8000000 in
theorem fordLess_c (n1 n2 : Bool) (xs ys : List Int) (w3 : Int) (hx : xs.length < 9223372036854775808) (hy : ys.length < 9223372036854775808) (hw3 : 0 ≤ w3 ∧ w3 ≤ 255) :
    Comp Try.prog 4 [.sl n1 (bytes xs), .sl n2 (bytes ys), .int .u8 w3] (.bool true) := by
  have hmk := fordMade_c (hp0 n1 xs) 16 (hpB_ok hx) (by omega) (by omega)
  have hq0 := hpB_ok (nl := n2) hy
  refine Comp.body (T := tab) (res := [.tmp 6]) tab_ok [] Try.func4 rfl (by kernel_rfl) Try.ntmps4 rfl (by simp only [List.length_cons, List.length_nil]; decide) (by simp only [lowL, AV.low, lowBy]; rfl) ?_; conv => whnf
  repeat' first | (refine XCall.inl (T := tab) (res := [.tmp 2]) tab_ok [5] Try.func8 rfl (by kernel_rfl) Try.ntmps8 rfl (by simp only [List.length_append, List.length_cons, List.length_nil]; decide) ?_; conv => whnf) | fail
  refine XCall.hpE (j := 0) hmk rfl ?_
  rintro _ u1 ⟨s, rfl, mk, ou1⟩
  have ok := mk.ok
  have hb := mk.b
  have h1 := ok.h1; have b1 := ok.b1; have p2 := ok.p2; have l1 := ok.l1; have l2 := ok.l2; have t1 := ok.t1; have t2 := ok.t2; have k1 := ok.k1
  have hh := mk.h; have hp2 := mk.p; have hl16 := mk.l2
  have hpw : 2 ^ s.truths.length ≤ 2 ^ 4 := Nat.pow_le_pow_right (by omega) ok.t2
  have hpw1 : 2 ^ 1 ≤ 2 ^ s.truths.length := Nat.pow_le_pow_right (by omega) ok.t1
  have hall : allN s = 2 ^ s.truths.length - 1 := rfl
  obtain ⟨N2, hN2⟩ : ∃ N2 : Nat, N2 = 2 ^ s.truths.length := ⟨_, rfl⟩
  rw [← hN2] at hpw hpw1 hall
  have e3 : ((s.truths.map trA).length : Int) = s.truths.length := by rw [List.length_map]
  obtain ⟨P0, hP0⟩ : ∃ P0 : Nat, s.places = P0 := ⟨s.places.toNat, by omega⟩
  obtain ⟨M0, hM0⟩ : ∃ M0 : Nat, s.last + 1 = M0 := ⟨(s.last + 1).toNat, by omega⟩
  have hN0 : allN s + 1 = N2 := by omega
  have hTG := wr_G ok hP0 hM0 hN0
  have hMs := fMade_ok s hb ok
  generalize wrT s = T at hMs hTG
  have hTl := hTG.l
  have eT : (((T.map rsT).length : Nat) : Int) = P0 := by rw [List.length_map]; omega
  obtain ⟨i, hii, hil⟩ : ∃ i : Nat, w3.tmod ((s.truths.map trA).length : Int) = (i : Int) ∧ i < s.truths.length := ⟨(w3.tmod ((s.truths.map trA).length : Int)).toNat, by
    have := Int.tmod_nonneg ((s.truths.map trA).length : Int) hw3.1
    omega, by
    have := Int.tmod_nonneg ((s.truths.map trA).length : Int) hw3.1
    have := Int.tmod_lt_of_pos w3 (show 0 < ((s.truths.map trA).length : Int) by omega)
    omega⟩
  have hOw : 2 ^ i ≤ 2 ^ 4 := Nat.pow_le_pow_right (by omega) (by omega)
  obtain ⟨O, hO⟩ : ∃ O : Nat, O = 2 ^ i := ⟨_, rfl⟩
  rw [← hO] at hOw
  conv => whnf
  repeat' first | ((with_reducible apply XBr.ff); conv => whnf) | ((with_reducible apply XBr.bne) <;> (intro h; first | (exfalso; omega) | (conv => whnf))) | ((with_reducible refine XInt.i64 (by omega) (by omega) ?_); conv => whnf) | ((with_reducible refine XHold.mk ?_ ?_); (first | omega | rfl | decide | exact ⟨rfl, by decide, rfl⟩ | exact wideI _ | exact widePr _ | exact wideSk _ | (unfold Room; constructor <;> ((try simp) <;> omega)) | exact ⟨rfl, by simp only [List.length_map], by unfold Room; constructor <;> ((try simp) <;> omega)⟩ | exact ⟨by omega, by omega, by unfold Room; constructor <;> ((try simp) <;> omega)⟩); conv => whnf) | (refine XCall.inl (T := tab) (res := [.tmp 2]) tab_ok [5] Try.func8 rfl (by kernel_rfl) Try.ntmps8 rfl (by simp only [List.length_append, List.length_cons, List.length_nil]; decide) ?_; conv => whnf) | ((refine XCall.ret hMs ?_); conv => whnf) | (rw [hii]; conv => whnf) | ((refine XInt.shlN hO (by omega) ?_); conv => whnf) | fail
  refine Walk.heapE [hpC u1, .cells (snC s), hpC (hp0 n2 ys)] rfl ?_
  refine Walk.loopK tab_ok [] [(7, _), (8, _), (9, _), (11, _), (59, _), (60, _)] ⟨rfl, rfl, rfl, rfl, rfl, rfl, trivial⟩ (fun q : Nat => q ≤ P0) (fun q => [(61, natA q)]) (fun _ => [hpC u1, .cells (snC s), hpC (hp0 n2 ys)]) (fun q => P0 - q) 0 (Nat.zero_le _) rfl ⟨rfl, trivial⟩ ?_
  intro q hq
  conv => whnf
  by_cases hql : q < P0
  · have r2 := hTG.r q hql
    have rT : (((T.getD q default).2.map rwA).length : Int) = M0 := by rw [List.length_map]; omega
    repeat' first | ((with_reducible apply XBr.dec) <;> (intro h; first | (exfalso; omega) | ((try simp only [List.length_map] at h); first | (exfalso; omega) | (conv => whnf)))) | ((with_reducible apply XBr.bne) <;> (intro h; first | (exfalso; omega) | (conv => whnf))) | ((first | (with_reducible refine XInt.i64 (by omega) (by omega) ?_) | ((with_reducible refine XIx.nat ?_ ?_ ?_); omega; (intro _; rfl))); conv => whnf) | fail
    refine Walk.loopK tab_ok [] [(7, _), (8, _), (9, _), (11, _), (12, _), (59, _), (60, _), (61, _), (72, _), (73, _)] ⟨rfl, rfl, rfl, rfl, rfl, rfl, rfl, rfl, rfl, rfl, trivial⟩ (fun m : Nat => m ≤ M0) (fun m => [(74, natA m)]) (fun _ => [hpC u1, .cells (snC s), hpC (hp0 n2 ys)]) (fun m => M0 - m) 0 (Nat.zero_le _) rfl ⟨rfl, trivial⟩ ?_
    intro m hm
    conv => whnf
    by_cases hml : m < M0
    · have c2 := hTG.c q m hql hml
      have cT : ((ints ((T.getD q default).2.getD m default).2).length : Int) = N2 := by rw [ints_len]; omega
      repeat' first | ((with_reducible apply XBr.dec) <;> (intro h; first | (exfalso; omega) | ((try simp only [List.length_map] at h); first | (exfalso; omega) | (conv => whnf)))) | ((with_reducible apply XBr.bne) <;> (intro h; first | (exfalso; omega) | (conv => whnf))) | ((with_reducible refine XHold.mk ?_ ?_); (first | omega | rfl | decide | exact ⟨rfl, by decide, rfl⟩ | exact wideI _ | exact widePr _ | exact wideSk _ | (unfold Room; constructor <;> ((try simp) <;> omega)) | exact ⟨rfl, by simp only [List.length_map], by unfold Room; constructor <;> ((try simp) <;> omega)⟩ | exact ⟨by omega, by omega, by unfold Room; constructor <;> ((try simp) <;> omega)⟩); conv => whnf) | ((first | ((with_reducible refine XIx.nat ?_ ?_ ?_); omega; (intro _; rfl)) | (refine XInt.shlL hN2 (by omega) ?_)); conv => whnf) | fail
      refine Walk.loopK tab_ok [] [(7, _), (8, _), (9, _), (11, _), (12, _), (14, _), (15, _), (59, _), (60, _), (61, _), (72, _), (73, _), (74, _), (86, _), (87, _)] ⟨rfl, rfl, rfl, rfl, rfl, rfl, rfl, rfl, rfl, rfl, rfl, rfl, rfl, rfl, rfl, trivial⟩ (fun l : Nat => l ≤ N2) (fun l => [(88, natA l)]) (fun _ => [hpC u1, .cells (snC s), hpC (hp0 n2 ys)]) (fun l => N2 - l) 0 (Nat.zero_le _) rfl ⟨rfl, trivial⟩ ?_
      intro l hl
      conv => whnf
      by_cases hll : l < N2
      · have hv : vld s ⟨q, m, l⟩ := ⟨by show (q : Int) < s.places; omega, by show (m : Int) ≤ s.last; omega, by show l ≤ allN s; omega⟩
        have hD : iandn .i64 (l : Int) (O : Int) = ((diff l O : Nat) : Int) := iandn_nat (by omega) (by omega)
        have hdl := drN_lt ok q m
        have hE : iandn .i64 (l : Int) (drN s q m : Int) = ((diff l (drN s q m) : Nat) : Int) := iandn_nat (by omega) (by omega)
        have hDl := diff_le l O
        have hEl := diff_le l (drN s q m)
        have vT := hTG.v q m l hql hml hll
        have vD := hTG.v q m (diff l O) hql hml (by omega)
        have g1 := worthZ_ge s ⟨q, m, l⟩
        have g2 : worthZ s ⟨q, m, l⟩ ≤ s.last - m := worthZ_lt s ⟨q, m, l⟩ hv.2.1
        have g3 := less_sub ok (i := i) hv
        have g4 := less_safe ok hv
        have hld := lawDry_c s hb ok q m (by omega)
        rw [← hO] at g3
        rw [← vT] at g1 g2 g3 g4
        rw [← vD] at g3
        generalize diff l O = Dd at hD hDl g3 vD
        have eD : Dd = (iandn .i64 (l : Int) (O : Int)).toNat := by rw [hD]; exact (Int.toNat_natCast _).symm
        have hD0 : 0 ≤ iandn .i64 (l : Int) (O : Int) ∧ iandn .i64 (l : Int) (O : Int) ≤ l := by rw [hD]; omega
        have hE0 : (((T.getD q default).2.getD m default).2).getD l default ≠ -1 → l ≠ 0 ∧ iandn .i64 (l : Int) (drN s q m : Int) = 0 := fun h => ⟨(g4 h).1, by rw [hE, (g4 h).2]; rfl⟩
        have hD3 : iandn .i64 (l : Int) (O : Int) ≠ 0 → (((T.getD q default).2.getD m default).2).getD l default ≤ (((T.getD q default).2.getD m default).2).getD (iandn .i64 (l : Int) (O : Int)).toNat default := fun h => by
          rw [← eD]; exact g3 (by omega)
        clear hE g4 hEl vD g3 eD hD
        generalize drN s q m = Rr at hE0 hld hdl
        repeat' first | ((with_reducible apply XBr.dec) <;> (intro h; first | (exfalso; omega) | ((try simp only [List.length_map] at h); first | (exfalso; omega) | (conv => whnf)))) | (((with_reducible refine XIx.nat ?_ ?_ ?_); omega; (intro _; rfl)); conv => whnf) | fail
        refine Walk.norm tab_ok [] [(7, _), (8, _), (9, _), (11, _), (12, _), (14, _), (15, _), (16, _), (17, _), (59, _), (60, _), (61, _), (72, _), (73, _), (74, _), (86, _), (87, _), (88, _)] ⟨rfl, rfl, rfl, rfl, rfl, rfl, rfl, rfl, rfl, rfl, rfl, rfl, rfl, rfl, rfl, rfl, rfl, rfl, trivial⟩ ?_
        conv => whnf
        repeat' first | ((first | (with_reducible apply XBr.tt) | (with_reducible apply XBr.ff)); conv => whnf) | ((with_reducible apply XBr.dec) <;> (intro h; first | (exfalso; omega) | ((try simp only [List.length_map] at h); first | (exfalso; omega) | (conv => whnf)))) | ((with_reducible apply XBr.beq) <;> (intro h; first | (exfalso; omega) | (conv => whnf))) | ((with_reducible apply XBr.bne) <;> (intro h; first | (exfalso; omega) | (conv => whnf))) | ((first | (with_reducible refine XInt.i64 (by omega) (by omega) ?_) | ((with_reducible refine XIx.map ?_ ?_ ?_ ?_); omega; omega; (intro _; rfl)) | (refine XCall.ret hld ?_)); conv => whnf) | fail
        all_goals first | exact XAgain.go (l + 1) (by omega) (by omega) rfl ⟨rfl, rfl, rfl, rfl, rfl, rfl, rfl, rfl, rfl, rfl, rfl, rfl, rfl, rfl, rfl, rfl, trivial⟩ | (exfalso; omega) | skip
      repeat' first | ((with_reducible apply XBr.dec) <;> (intro h; first | (exfalso; omega) | ((try simp only [List.length_map] at h); first | (exfalso; omega) | (conv => whnf)))) | ((with_reducible refine XInt.i64 (by omega) (by omega) ?_); conv => whnf) | fail
      exact XAgain.go (m + 1) (by omega) (by omega) rfl ⟨rfl, rfl, rfl, rfl, rfl, rfl, rfl, rfl, rfl, rfl, rfl, trivial⟩
    repeat' first | ((with_reducible apply XBr.dec) <;> (intro h; first | (exfalso; omega) | ((try simp only [List.length_map] at h); first | (exfalso; omega) | (conv => whnf)))) | ((with_reducible refine XInt.i64 (by omega) (by omega) ?_); conv => whnf) | fail
    exact XAgain.go (q + 1) (by omega) (by omega) rfl ⟨rfl, rfl, rfl, rfl, rfl, rfl, rfl, trivial⟩
  repeat' first | ((with_reducible apply XBr.dec) <;> (intro h; first | (exfalso; omega) | ((try simp only [List.length_map] at h); first | (exfalso; omega) | (conv => whnf)))) | fail
  refine Walk.loopGK tab_ok [] [(7, _), (8, _), (9, _)] ⟨rfl, rfl, rfl, trivial⟩ (fun g : Nat × Hp => g.1 ≤ 4 ∧ g.2.Ok) (fun g => [(137, natA g.1)]) (fun g => [hpC u1, .cells (snC s), hpC g.2]) (fun g => 4 - g.1) (0, hp0 n2 ys) ⟨by dsimp only; omega, hq0⟩ rfl ⟨rfl, trivial⟩ ?_ (fun _ _ => (show (3 : Nat) ≤ 3 from Nat.le_refl 3)) ?_
  · intro g _
    refine ⟨fun z hz => ?_, fun z hz => ?_⟩
    · simp only [List.mem_cons, List.not_mem_nil, or_false] at hz
      rcases hz with rfl | rfl | rfl <;> first | exact hpC_low _ | exact snCL s
    · simp only [List.cons_append, List.nil_append, List.mem_cons, List.not_mem_nil, or_false] at hz
      rcases hz with rfl | rfl | rfl | rfl <;> first | rfl | exact lowRs _
  rintro ⟨r, q⟩ ⟨hr, oq⟩
  dsimp only at hr oq ⊢
  conv => whnf
  by_cases hrl : r < 4
  rotate_left
  · skip
    repeat' first | ((with_reducible apply XBr.dec) <;> (intro h; first | (exfalso; omega) | ((try simp only [List.length_map] at h); first | (exfalso; omega) | (conv => whnf)))) | ((refine XCall.ret awake02_c ?_); conv => whnf) | fail
    exact XOut.bool rfl
  obtain ⟨Hof, hHof⟩ : ∃ Hof : Hp → T3 Int → List Blk, Hof = fun q W => [hpC u1, .cells (snC s), hpC q] ++ memS 3 M0 N2 P0 W := ⟨_, rfl⟩
  have hL1 : ∀ q W, lget (Hof q W) 1 = some (.cells (snC s)) := fun q W => by rw [hHof]; rfl
  have hL2 : ∀ q W, lget (Hof q W) 2 = some (hpC q) := fun q W => by rw [hHof]; rfl
  have hS2 : ∀ q q' W, (Hof q W).set 2 (hpC q') = Hof q' W := fun q q' W => by rw [hHof]; rfl
  have hL3 : ∀ q W, lget (Hof q W) 3 = some (.grow 24 false (vecF P0 fun p => .gr (3 + rowI M0 p) M0)) := fun q W => by
    have h := memS_t (pre := [hpC u1, .cells (snC s), hpC q]) (b := 3) (M := M0) (N := N2) (P0 := P0) (W := W) rfl
    rw [decide_eq_false (by omega)] at h
    rw [hHof]; exact h
  have hLr : ∀ q W p, p < P0 → lget (Hof q W) (3 + rowI M0 p) = some (.grow 43 false (vecF M0 fun m => .gr (3 + celI M0 p m) N2)) := fun q W p hp => by
    rw [hHof]; exact memS_r rfl hp
  have hLc : ∀ q W p m, p < P0 → m < M0 → lget (Hof q W) (3 + celI M0 p m) = some (.grow 3 false (zvs N2 fun l => W p m l)) := fun q W p m hp hm => by
    rw [hHof]; exact memS_c rfl hp hm
  have hSc : ∀ q W p m l v, p < P0 → m < M0 → (Hof q W).set (3 + celI M0 p m) (.grow 3 false (zvs N2 (updV (fun l => W p m l) l v))) = Hof q (upd3 W p m l v) := fun q W p m l v hp hm => by
    rw [hHof]; exact memS_set rfl hp hm
  have hLl : ∀ q W, (Hof q W).length = 3 + rowI M0 P0 := fun q W => by
    rw [hHof]
    show ([hpC u1, .cells (snC s), hpC q] ++ memS 3 M0 N2 P0 W).length = _
    rw [List.length_append, memS_len]; rfl
  have hFz : ∀ q W, Froz Try.prog (Hof q W) (.gr 3 P0) (.sl (decide (P0 = 0)) ((mkT P0 M0 N2 W).map rsT)) := fun q W => by
    rw [hHof]; exact memS_froz W rfl
  have hEnd : ∀ q W, [hpC u1, .cells (snC s), hpC q] ++ memS 3 M0 N2 P0 W = Hof q W := fun q W => by rw [hHof]
  obtain ⟨pre, hpre⟩ : ∃ pre, pre = [hpC u1, .cells (snC s), hpC q] := ⟨_, rfl⟩
  have hprl : pre.length = 3 := by rw [hpre]; rfl
  repeat' first | ((with_reducible apply XBr.dec) <;> (intro h; first | (exfalso; omega) | ((try simp only [List.length_map] at h); first | (exfalso; omega) | (conv => whnf)))) | fail
  refine Walk.nilgr 18 24 rfl ?_
  refine Walk.loopK tab_ok [] [(7, _), (8, _), (9, _), (137, _), (139, _), (140, _)] ⟨rfl, rfl, rfl, rfl, rfl, rfl, trivial⟩ (fun p : Nat => p ≤ P0) (fun p => [(18, .gr 3 p), (141, natA p)]) (fun p => pre ++ memS 3 M0 N2 p fun p m l => worthZ s ⟨p, m, l⟩) (fun p => P0 - p) 0 (Nat.zero_le _) (by rw [hpre, memS_init]) ⟨rfl, rfl, trivial⟩ ?_
  intro p hp
  obtain ⟨H, hH⟩ : ∃ H, H = pre ++ memS 3 M0 N2 p fun p m l => worthZ s ⟨p, m, l⟩ := ⟨_, rfl⟩
  have hHl : H.length = 3 + rowI M0 p := by rw [hH, List.length_append, memS_len, hprl]
  refine XRun.heap H hH ?_
  conv => whnf
  by_cases hlp : p < P0
  · have hRe := congrArg Prod.snd (hTG.e p hlp)
    have hRr : ∀ r ∈ (T.getD p default).2, r.2.length ≤ 1000 := fun r hr => by
      rw [hRe] at hr
      obtain ⟨m, -, rfl⟩ := vecF_mem.1 hr
      show (vecF _ _).length ≤ 1000
      rw [vecF_len]; omega
    have r2 := hTG.r p hlp
    repeat' first | ((with_reducible apply XBr.dec) <;> (intro h; first | (exfalso; omega) | ((try simp only [List.length_map] at h); first | (exfalso; omega) | (conv => whnf)))) | (((with_reducible refine XIx.nat ?_ ?_ ?_); omega; (intro _; rfl)); conv => whnf) | fail
    refine XCall.rowsS (3 + rowI M0 p) hHl (by omega) hRr ?_
    intro H1 hH1
    have h1l : 3 < H1.length := by rw [hH1, List.length_append, hHl]; unfold rowI; omega
    have h13 : lget H1 3 = some (.grow 24 (decide (p = 0)) (vecF p fun p => .gr (3 + rowI M0 p) M0)) := by
      rw [hH1, lget_eq, List.getElem?_append_left (by rw [hHl]; unfold rowI; omega), ← lget_eq, hH]; exact memS_t hprl
    conv => whnf
    repeat' first | ((with_reducible refine XHold.mk ?_ ?_); (first | omega | rfl | decide | exact ⟨rfl, by decide, rfl⟩ | exact wideI _ | exact widePr _ | exact wideSk _ | (unfold Room; constructor <;> ((try simp) <;> omega)) | exact ⟨rfl, by simp only [List.length_map], by unfold Room; constructor <;> ((try simp) <;> omega)⟩ | exact ⟨by omega, by omega, by unfold Room; constructor <;> ((try simp) <;> omega)⟩); conv => whnf) | (rw [h13]; conv => whnf) | ((refine XHold.mk ⟨rfl, vecF_len _ _, by unfold Room; constructor <;> ((try simp) <;> omega)⟩ ?_); conv => whnf) | fail
    refine hset_to (pre ++ memS 3 M0 N2 (p + 1) fun p m l => worthZ s ⟨p, m, l⟩) h1l ?_ ?_
    · rw [hH1, hH]
      show (_ : List Blk).set _ (.grow _ (_ && false) _) = _
      rw [Bool.and_false]; exact memS_next hprl hRe
    rw [← r2]
    conv => whnf
    repeat' first | ((with_reducible refine XInt.i64 (by omega) (by omega) ?_); conv => whnf) | fail
    exact XAgain.go (p + 1) (by omega) (by omega) rfl ⟨rfl, rfl, rfl, rfl, rfl, rfl, rfl, rfl, trivial⟩
  obtain rfl : P0 = p := by omega
  obtain rfl : H = Hof q fun p m l => worthZ s ⟨p, m, l⟩ := by rw [hH, hpre, hEnd]
  obtain ⟨z, q1, hz, oq1, hd1⟩ := from_e q 1 5 oq (by omega) (by omega) (by omega) (by omega)
  repeat' first | ((with_reducible apply XBr.dec) <;> (intro h; first | (exfalso; omega) | ((try simp only [List.length_map] at h); first | (exfalso; omega) | (conv => whnf)))) | ((refine XCall.hpS (j := 2) hd1 rfl (hL2 _ _) (hS2 _ _ _) ?_); conv => whnf) | fail
  refine Walk.loopK tab_ok [] [(7, _), (8, _), (9, _), (18, _), (137, _), (152, _)] ⟨rfl, rfl, rfl, rfl, rfl, rfl, trivial⟩ (fun g : Nat × Hp × T3 Int => (g.1 : Int) ≤ z ∧ g.2.1.Ok ∧ ChW s g.1 g.2.2) (fun g => [(153, natA g.1)]) (fun g => Hof g.2.1 g.2.2) (fun g => z.toNat - g.1) (0, q1, fun p m l => worthZ s ⟨p, m, l⟩) ⟨by dsimp only; omega, oq1, ChW.beg⟩ rfl ⟨rfl, trivial⟩ ?_
  clear oq1 hd1 oq hH hHl hpre
  rintro ⟨c, q2, W⟩ ⟨hc, oq, hW⟩
  dsimp only at hc oq hW ⊢
  conv => whnf
  by_cases hcz : (c : Int) < z
  · obtain ⟨a, qa, ha, oqa, hda⟩ := upto_e q2 (s.places - 1) oq (by omega) (by omega)
    obtain ⟨p, rfl⟩ : ∃ p : Nat, a = p := ⟨a.toNat, by omega⟩
    obtain ⟨b, qb, hbb, oqb, hdb⟩ := upto_e qa s.last oqa (by omega) (by omega)
    obtain ⟨m, rfl⟩ : ∃ m : Nat, b = m := ⟨b.toNat, by omega⟩
    obtain ⟨e, qc, he, oqc, hdc⟩ := upto_e qb ((N2 : Int) - 1) oqb (by omega) (by omega)
    obtain ⟨l, rfl⟩ : ∃ l : Nat, e = l := ⟨e.toNat, by omega⟩
    obtain ⟨d, qd, hd, oqd, hdd⟩ := from_e qc (-2) 2 oqc (by omega) (by omega) (by omega) (by omega)
    have hpl : p < P0 := by omega
    have hml : m < M0 := by omega
    have hll : l < N2 := by omega
    have hw := hW.w p m l (by omega) (by omega) (by omega)
    repeat' first | ((with_reducible apply XBr.dec) <;> (intro h; first | (exfalso; omega) | ((try simp only [List.length_map] at h); first | (exfalso; omega) | (conv => whnf)))) | fail
    apply Walk.drawX tab_ok mixed_ok [] [5, 11] (hsC [Hof q2 W, Hof qa W, Hof qb W]) [_, _, _, _, _, _, _, _, _, _, _, _, _, _, _] (lex_of (by kernel_rfl)) rfl
    · skip
      repeat' first | ((with_reducible refine XInt.i64 (by omega) (by omega) ?_); conv => whnf) | (with_reducible apply XAnd.mk) | ((first | (with_reducible apply Chk.go) | (with_reducible apply ChkA.go)); conv => whnf) | (exact XSame.mk rfl rfl) | (with_reducible exact trivial) | (conv in (lget (hsC _ _) _) => arg 1; whnf) | (rw [hL1]; conv => whnf) | ((first | (refine XCall.hpS (j := 2) hda rfl (hL2 _ _) (hS2 _ _ _) ?_) | (refine XCall.hpS (j := 2) hdb rfl (hL2 _ _) (hS2 _ _ _) ?_)); conv => whnf) | (rw [hL3]; conv => whnf) | (rw [hLr _ _ p hpl]; conv => whnf) | ((first | (refine XHold.mk ⟨vecF_len _ _, rfl, by omega, by omega⟩ ?_) | (refine XGet.to (.gr (3 + rowI M0 p) M0) (vecF_len _ _).symm hpl (vecF_get _ hpl) ?_) | (refine XGet.to (.gr (3 + celI M0 p m) N2) (vecF_len _ _).symm hml (vecF_get _ hml) ?_)); conv => whnf) | fail
    · skip
      repeat' first | (with_reducible apply XAnd.mk) | ((first | (with_reducible apply Chk.go) | (with_reducible apply ChkF.go) | (with_reducible apply ChkB.go)); conv => whnf) | (exact XSame.mk rfl rfl) | (with_reducible exact trivial) | (conv in (lget (hsC _ _) _) => arg 1; whnf) | (rw [hL1]; conv => whnf) | (rw [hL3]; conv => whnf) | (rw [hLr _ _ p hpl]; conv => whnf) | ((first | (refine XHold.mk ⟨vecF_len _ _, rfl, by omega, by omega⟩ ?_) | (refine XGet.to (.gr (3 + rowI M0 p) M0) (vecF_len _ _).symm hpl (vecF_get _ hpl) ?_) | (refine XGet.to (.gr (3 + celI M0 p m) N2) (vecF_len _ _).symm hml (vecF_get _ hml) ?_)); conv => whnf) | fail
    conv => whnf
    have hcl : ∀ q W, 3 + celI M0 p m < (Hof q W).length := fun q W => by rw [hLl]; have := celI_lt (M := M0) hpl hml; omega
    repeat' first | ((with_reducible refine XInt.i64 (by omega) (by omega) ?_); conv => whnf) | (conv in (lget (hsC _ _) _) => arg 1; whnf) | (rw [hLc _ _ p m hpl hml]; conv => whnf) | ((first | (refine XHold.mk (zvs_len _ _) ?_) | (refine XCall.hpS (j := 2) hdc rfl (hL2 _ _) (hS2 _ _ _) ?_)); conv => whnf) | fail
    apply Walk.drawX tab_ok mixed_ok [] [7, 11] (hsC [Hof qc W, Hof qd W, Hof qd (upd3 W p m l (max (-1) (W p m l + d)))]) [_, _, _, _, _, _, _, _, _, _, _, .tup []] (lex_of (by kernel_rfl)) rfl
    · skip
      repeat' first | ((with_reducible refine XInt.i64 (by omega) (by omega) ?_); conv => whnf) | (with_reducible apply XAnd.mk) | ((first | (with_reducible apply Chk.go) | (with_reducible apply ChkA.go)); conv => whnf) | (exact XSame.mk rfl rfl) | (with_reducible exact trivial) | (conv in (lget (hsC _ _) _) => arg 1; whnf) | ((refine XCall.hpS (j := 2) hdd rfl (hL2 _ _) (hS2 _ _ _) ?_); conv => whnf) | (rw [hLc _ _ p m hpl hml]; conv => whnf) | ((first | (refine XHold.mk ⟨zvs_len _ _, rfl, by omega, by omega⟩ ?_) | (refine XGet.to (.int .i64 (W p m l)) (zvs_len _ _).symm hll (zvs_at hll) ?_) | (refine XPut.to (zvs N2 (updV (fun l => W p m l) l (max (-1) (W p m l + d)))) (zvs_len _ _).symm hll (zvs_set _ _ _ _) ?_) | (refine hset_to (Hof qd (upd3 W p m l (max (-1) (W p m l + d)))) (hcl _ _) (hSc _ _ _ _ _ _ hpl hml) ?_)); conv => whnf) | fail
    · skip
      repeat' first | (with_reducible apply XAnd.mk) | ((first | (with_reducible apply Chk.go) | (with_reducible apply ChkF.go) | (with_reducible apply ChkB.go)); conv => whnf) | (exact XSame.mk rfl rfl) | (with_reducible exact trivial) | (conv in (lget (hsC _ _) _) => arg 1; whnf) | (rw [hLc _ _ p m hpl hml]; conv => whnf) | ((first | (refine XHold.mk ⟨zvs_len _ _, rfl, by omega, by omega⟩ ?_) | (refine XGet.to (.int .i64 (W p m l)) (zvs_len _ _).symm hll (zvs_at hll) ?_)); conv => whnf) | fail
    conv => whnf
    repeat' first | ((with_reducible refine XInt.i64 (by omega) (by omega) ?_); conv => whnf) | fail
    exact XAgain.go (c + 1, qd, upd3 W p m l (max (-1) (W p m l + d))) ⟨by dsimp only; omega, oqd, hW.next (by omega) (by omega)⟩ (by dsimp only; omega) rfl ⟨rfl, rfl, rfl, rfl, rfl, rfl, rfl, trivial⟩
  have hWb : ∀ p m l, p < P0 → m < M0 → l < N2 → -1 ≤ W p m l ∧ W p m l ≤ 60 := fun p m l hp hm hl => by
    have := hW.w p m l (by omega) (by omega) (by omega)
    omega
  have hmE := mk_E ok (P := P0) (M := M0) (N := N2) hP0.symm hM0.symm hN0.symm hWb
  have hmB := mk_B (P := P0) (M := M0) (N := N2) (W := W) (by omega) (by omega) (by omega)
  obtain ⟨B1, hB1⟩ : ∃ B : Bool, B = true ↔ ∀ y, vld s y → tbN (mkT P0 M0 N2 W) y ≤ bestZ s (tbN (mkT P0 M0 N2 W)) y := by
    classical exact ⟨decide (∀ y, vld s y → tbN (mkT P0 M0 N2 W) y ≤ bestZ s (tbN (mkT P0 M0 N2 W)) y), decide_eq_true_iff⟩
  obtain ⟨B2, hB2⟩ : ∃ B : Bool, B = true ↔ ∀ y, vld s y → tbN (mkT P0 M0 N2 W) y ≥ bestZ s (tbN (mkT P0 M0 N2 W)) y := by
    classical exact ⟨decide (∀ y, vld s y → tbN (mkT P0 M0 N2 W) y ≥ bestZ s (tbN (mkT P0 M0 N2 W)) y), decide_eq_true_iff⟩
  have hHo := fhold_ok s hb (decide (P0 = 0)) (mkT P0 M0 N2 W) hmB hmE B1 hB1
  have hCo := fclos_ok s hb (decide (P0 = 0)) (mkT P0 M0 N2 W) hmB hmE B2 hB2
  have hle : B1 = true → ∀ p m l, p < P0 → m < M0 → l < N2 → W p m l ≤ worthZ s ⟨p, m, l⟩ := fun h p m l hp hm hl => less_hold ok hP0.symm hM0.symm hN0.symm hWb (hB1.1 h) hp hm hl
  have hge : B2 = true → ∀ p m l, p < P0 → m < M0 → l < N2 → worthZ s ⟨p, m, l⟩ ≤ W p m l := fun h p m l hp hm hl => less_clos ok hP0.symm hM0.symm hN0.symm (hB2.1 h) hp hm hl
  have hfl : FrozL Try.prog (Hof q2 W) [snA s, .gr 3 P0] [snA s, .sl (decide (P0 = 0)) ((mkT P0 M0 N2 W).map rsT)] := .cons (.low (snL s)) (.cons (hFz q2 W) .nil)
  clear hB1 hB2 hmE hmB hW
  repeat' first | ((with_reducible apply XBr.ff); conv => whnf) | ((with_reducible apply XBr.dec) <;> (intro h; first | (exfalso; omega) | ((try simp only [List.length_map] at h); first | (exfalso; omega) | (conv => whnf)))) | ((with_reducible apply XBr.bne) <;> (intro h; first | (exfalso; omega) | (conv => whnf))) | (rw [hL1]; conv => whnf) | (rw [hL3]; conv => whnf) | ((first | (refine XHold.mk (vecF_len _ _) ?_) | (refine XCall.lend hHo hfl rfl ?_) | (refine XCall.lend hCo hfl rfl ?_)); conv => whnf) | fail
  refine Walk.loopK tab_ok [] [(7, _), (8, _), (9, _), (23, _), (25, _), (137, _), (204, _), (205, _)] ⟨rfl, rfl, rfl, rfl, rfl, rfl, rfl, rfl, trivial⟩ (fun p : Nat => p ≤ P0) (fun p => [(206, natA p)]) (fun _ => Hof q2 W) (fun p => P0 - p) 0 (Nat.zero_le _) rfl ⟨rfl, trivial⟩ ?_
  intro p hp
  conv => whnf
  by_cases hpl : p < P0
  rotate_left
  · skip
    repeat' first | ((with_reducible apply XBr.dec) <;> (intro h; first | (exfalso; omega) | ((try simp only [List.length_map] at h); first | (exfalso; omega) | (conv => whnf)))) | ((with_reducible refine XInt.i64 (by omega) (by omega) ?_); conv => whnf) | fail
    exact XAgainG.go (r + 1, q2) (memS 3 M0 N2 P0 W) ⟨by dsimp only; omega, oq⟩ (by dsimp only; omega) (hEnd q2 W) ⟨rfl, rfl, rfl, rfl, trivial⟩
  repeat' first | ((with_reducible apply XBr.dec) <;> (intro h; first | (exfalso; omega) | ((try simp only [List.length_map] at h); first | (exfalso; omega) | (conv => whnf)))) | (rw [hL3]; conv => whnf) | (rw [hLr _ _ p hpl]; conv => whnf) | ((first | (refine XHold.mk (vecF_len _ _) ?_) | (refine XHold.mk ⟨vecF_len _ _, rfl, by omega, by omega⟩ ?_) | (refine XGet.to (.gr (3 + rowI M0 p) M0) (vecF_len _ _).symm hpl (vecF_get _ hpl) ?_)); conv => whnf) | fail
  refine Walk.loopK tab_ok [] [(7, _), (8, _), (9, _), (23, _), (25, _), (27, _), (137, _), (204, _), (205, _), (206, _), (211, _), (212, _)] ⟨rfl, rfl, rfl, rfl, rfl, rfl, rfl, rfl, rfl, rfl, rfl, rfl, trivial⟩ (fun m : Nat => m ≤ M0) (fun m => [(213, natA m)]) (fun _ => Hof q2 W) (fun m => M0 - m) 0 (Nat.zero_le _) rfl ⟨rfl, trivial⟩ ?_
  intro m hm
  conv => whnf
  by_cases hml : m < M0
  rotate_left
  · skip
    repeat' first | ((with_reducible apply XBr.dec) <;> (intro h; first | (exfalso; omega) | ((try simp only [List.length_map] at h); first | (exfalso; omega) | (conv => whnf)))) | ((with_reducible refine XInt.i64 (by omega) (by omega) ?_); conv => whnf) | fail
    exact XAgain.go (p + 1) (by omega) (by omega) rfl ⟨rfl, rfl, rfl, rfl, rfl, rfl, rfl, rfl, rfl, trivial⟩
  repeat' first | ((with_reducible apply XBr.dec) <;> (intro h; first | (exfalso; omega) | ((try simp only [List.length_map] at h); first | (exfalso; omega) | (conv => whnf)))) | (rw [hLr _ _ p hpl]; conv => whnf) | (rw [hLc _ _ p m hpl hml]; conv => whnf) | ((first | (refine XHold.mk (zvs_len _ _) ?_) | (refine XHold.mk ⟨vecF_len _ _, rfl, by omega, by omega⟩ ?_) | (refine XGet.to (.gr (3 + celI M0 p m) N2) (vecF_len _ _).symm hml (vecF_get _ hml) ?_)); conv => whnf) | fail
  refine Walk.loopK tab_ok [] [(7, _), (8, _), (9, _), (23, _), (25, _), (27, _), (29, _), (137, _), (204, _), (205, _), (206, _), (211, _), (212, _), (213, _), (218, _), (219, _)] ⟨rfl, rfl, rfl, rfl, rfl, rfl, rfl, rfl, rfl, rfl, rfl, rfl, rfl, rfl, rfl, rfl, trivial⟩ (fun l : Nat => l ≤ N2) (fun l => [(220, natA l)]) (fun _ => Hof q2 W) (fun l => N2 - l) 0 (Nat.zero_le _) rfl ⟨rfl, trivial⟩ ?_
  intro l hl
  conv => whnf
  by_cases hll : l < N2
  rotate_left
  · skip
    repeat' first | ((with_reducible apply XBr.dec) <;> (intro h; first | (exfalso; omega) | ((try simp only [List.length_map] at h); first | (exfalso; omega) | (conv => whnf)))) | ((with_reducible refine XInt.i64 (by omega) (by omega) ?_); conv => whnf) | fail
    exact XAgain.go (m + 1) (by omega) (by omega) rfl ⟨rfl, rfl, rfl, rfl, rfl, rfl, rfl, rfl, rfl, rfl, rfl, rfl, rfl, trivial⟩
  have vT := hTG.v p m l hpl hml hll
  have r2 := hTG.r p hpl
  have c2 := hTG.c p m hpl hml
  have rT : (((T.getD p default).2.map rwA).length : Int) = M0 := by rw [List.length_map]; omega
  have cT : ((ints ((T.getD p default).2.getD m default).2).length : Int) = N2 := by rw [ints_len]; omega
  have hle := fun h => hle h p m l hpl hml hll
  have hge := fun h => hge h p m l hpl hml hll
  rw [← vT] at hle hge
  repeat' first | ((with_reducible apply XBr.dec) <;> (intro h; first | (exfalso; omega) | ((try simp only [List.length_map] at h); first | (exfalso; omega) | (conv => whnf)))) | (rw [hLc _ _ p m hpl hml]; conv => whnf) | ((first | (refine XHold.mk ⟨zvs_len _ _, rfl, by omega, by omega⟩ ?_) | (refine XGet.to (.int .i64 (W p m l)) (zvs_len _ _).symm hll (zvs_at hll) ?_)); conv => whnf) | fail
  refine Walk.norm tab_ok [] [(7, _), (8, _), (9, _), (23, _), (25, _), (27, _), (29, _), (31, _), (32, _), (137, _), (204, _), (205, _), (206, _), (211, _), (212, _), (213, _), (218, _), (219, _), (220, _)] ⟨rfl, rfl, rfl, rfl, rfl, rfl, rfl, rfl, rfl, rfl, rfl, rfl, rfl, rfl, rfl, rfl, rfl, rfl, rfl, trivial⟩ ?_
  conv => whnf
  cases B1 <;> cases B2
  all_goals
    try have hle := hle rfl
    try have hge := hge rfl
    repeat' first | ((first | (with_reducible apply XBr.tt) | (with_reducible apply XBr.ff)); conv => whnf) | ((with_reducible apply XBr.dec) <;> (intro h; first | (exfalso; omega) | ((try simp only [List.length_map] at h); first | (exfalso; omega) | (conv => whnf)))) | ((first | (with_reducible refine XInt.i64 (by omega) (by omega) ?_) | ((with_reducible refine XIx.nat ?_ ?_ ?_); omega; (intro _; rfl))); conv => whnf) | fail
    all_goals first | exact XAgain.go (l + 1) (by omega) (by omega) rfl ⟨rfl, rfl, rfl, rfl, rfl, rfl, rfl, rfl, rfl, rfl, rfl, rfl, rfl, rfl, rfl, rfl, rfl, trivial⟩ | (exfalso; omega)
end GA
end
