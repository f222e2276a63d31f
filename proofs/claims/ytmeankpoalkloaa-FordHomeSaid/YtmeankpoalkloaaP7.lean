/- Part 7 of a proof: F43, F65, F44, F67, F37, F46, F19, F68. -/
import Derived.Test.YtmeankpoalkloaaP6
section
namespace GA
open Go Go.RowKit Go.Proofs
set_option pp.deepTerms true
set_option maxRecDepth 8000
set_option linter.unusedVariables false
set_option linter.unusedSimpArgs false

theorem st_vld {s : Sn} {p m l : Int} (h : sttE s p m l = 0) : vld s (stN p m l) := by
  obtain ⟨ok, h1, h2, h3, h4⟩ := sttE_iff.1 h
  exact ⟨by show ((p.toNat : Nat) : Int) < s.places; omega, by show ((m.toNat : Nat) : Int) ≤ s.last; omega, by show l.toNat ≤ allN s; omega⟩
theorem fWorth_ok (s : Sn) (hb : SnB s) (p m l : Int) (h : sttE s p m l = 0) : Comp Try.prog 21 [snA s, xA p m l] (.tup [.int .i64 (worthZ s (stN p m l)), .int .i64 0]) := by
  have hs := stated_ok s hb p m l h
  obtain ⟨ok, h1, h2, h3, h4⟩ := sttE_iff.1 h
  have hx := xA_st h1.1 h2.1 (show 0 ≤ l by omega)
  have hw := worths_c s ok
  have hc := wof_c s ok (stN p m l) (st_vld h)
  rw [← hx] at hc
  refine Comp.body (T := tab) (res := [.tmp 4, .tmp 5]) tab_ok [] Try.func21 rfl (by kernel_rfl) Try.ntmps21 rfl (by simp only [List.length_cons, List.length_nil]; decide) (by simp only [lowL, snL, xL]; rfl) ?_; conv => whnf
  repeat' first | ((with_reducible first | apply XBr.tt | apply XBr.ff | apply Chk.go | apply ChkA.go | apply ChkF.go | apply ChkB.go | apply XArr.pim0 | apply XArr.pim1); conv => whnf) | (with_reducible apply XBr.not) | ((with_reducible apply XBr.dec) <;> (intro h; first | (exfalso; omega) | ((try simp only [List.length_map] at h); first | (exfalso; omega) | (conv => whnf)))) | ((with_reducible first | apply XBr.beq | apply XBr.bne) <;> (intro h; first | (exfalso; omega) | (conv => whnf))) | ((with_reducible refine XInt.i64 (by omega) (by omega) ?_); conv => whnf) | ((with_reducible refine XHold.mk ?_ ?_); (first | omega | rfl | decide | exact ⟨rfl, by decide, rfl⟩ | exact wideI _ | exact widePr _ | exact wideSk _ | (unfold Room; constructor <;> ((try simp) <;> omega)) | exact ⟨rfl, by simp only [List.length_map], by unfold Room; constructor <;> ((try simp) <;> omega)⟩ | exact ⟨by omega, by omega, by unfold Room; constructor <;> ((try simp) <;> omega)⟩); conv => whnf) | ((first | ((with_reducible refine XIx.nat ?_ ?_ ?_); omega; (intro _; rfl)) | ((with_reducible refine XIx.map ?_ ?_ ?_ ?_); omega; omega; (intro _; rfl))); conv => whnf) | (with_reducible apply XAnd.mk) | (exact XSame.mk rfl rfl) | (exact XSame.mk (by first | rfl | (simp only [List.map_append, List.length_append, List.length_map]; done) | (simp only [List.map_append, List.length_append, List.length_map]; rfl)) (by first | rfl | (simp only [List.map_append]; done) | (simp only [List.map_append]; rfl))) | (with_reducible exact trivial) | ((first | (with_reducible refine xdrop_app (by rw [List.length_map]; omega) ?_) | (with_reducible refine XDrop.desk (by assumption) ?_) | (with_reducible first | refine XArr.ints (by omega) (by omega) (by omega) ?_ | refine XArr.intsA (by omega) (by omega) (by omega) ?_) | ((with_reducible first | refine XArr.nats ?_ ?_ ?_ | refine XArr.natsA ?_ ?_ ?_ | refine XArr.ptr ?_ ?_ ?_); omega; omega)); conv => whnf) | (apply Walk.drawN (id := 4) tab_ok mixed_ok [] [] (hsU _) [_, _, _, _, _, _] (by kernel_rfl) rfl) | ((first | (with_reducible apply XNext.mk) | (refine XCall.ret hs ?_) | (refine XCall.ret hw ?_) | (refine XCall.ret hc ?_)); conv => whnf) | ((with_reducible apply XBr.mk') <;> (intro h; conv => whnf))
  exact ⟨.low rfl⟩
theorem clone_zi (xs : List Int) (hx : xs.length ≤ 100000) : Comp Try.prog 80 [.sl false (ints xs)] (.sl false (ints xs)) := by
  have e1 : ((ints xs).length : Int) = xs.length := by rw [ints_len]
  refine Comp.body (T := tab) (res := [.tmp 2]) tab_ok [5] Try.func80 rfl (by kernel_rfl) Try.ntmps80 rfl (by simp only [List.length_cons, List.length_nil]; decide) (by simp only [lowL, AV.low, lowI]; rfl) ?_; conv => whnf
  repeat' first | ((with_reducible first | apply XBr.tt | apply XBr.ff | apply Chk.go | apply ChkA.go | apply ChkF.go | apply ChkB.go | apply XArr.pim0 | apply XArr.pim1); conv => whnf) | (with_reducible apply XBr.not) | ((with_reducible apply XBr.dec) <;> (intro h; first | (exfalso; omega) | ((try simp only [List.length_map] at h); first | (exfalso; omega) | (conv => whnf)))) | ((with_reducible first | apply XBr.beq | apply XBr.bne) <;> (intro h; first | (exfalso; omega) | (conv => whnf))) | ((with_reducible refine XInt.i64 (by omega) (by omega) ?_); conv => whnf) | ((with_reducible refine XHold.mk ?_ ?_); (first | omega | rfl | decide | exact ⟨rfl, by decide, rfl⟩ | exact wideI _ | exact widePr _ | exact wideSk _ | (unfold Room; constructor <;> ((try simp) <;> omega)) | exact ⟨rfl, by simp only [List.length_map], by unfold Room; constructor <;> ((try simp) <;> omega)⟩ | exact ⟨by omega, by omega, by unfold Room; constructor <;> ((try simp) <;> omega)⟩); conv => whnf) | ((first | ((with_reducible refine XIx.nat ?_ ?_ ?_); omega; (intro _; rfl)) | ((with_reducible refine XIx.map ?_ ?_ ?_ ?_); omega; omega; (intro _; rfl))); conv => whnf) | (with_reducible apply XAnd.mk) | (exact XSame.mk rfl rfl) | (exact XSame.mk (by first | rfl | (simp only [List.map_append, List.length_append, List.length_map]; done) | (simp only [List.map_append, List.length_append, List.length_map]; rfl)) (by first | rfl | (simp only [List.map_append]; done) | (simp only [List.map_append]; rfl))) | (with_reducible exact trivial) | ((first | (with_reducible refine xdrop_app (by rw [List.length_map]; omega) ?_) | (with_reducible refine XDrop.desk (by assumption) ?_) | (with_reducible first | refine XArr.ints (by omega) (by omega) (by omega) ?_ | refine XArr.intsA (by omega) (by omega) (by omega) ?_) | ((with_reducible first | refine XArr.nats ?_ ?_ ?_ | refine XArr.natsA ?_ ?_ ?_ | refine XArr.ptr ?_ ?_ ?_); omega; omega) | (with_reducible apply XNext.mk)); conv => whnf) | ((with_reducible apply XBr.mk') <;> (intro h; conv => whnf))
  exact ⟨Froz.grow rfl (by simp) (lowI xs)⟩
theorem wTab_row {s : Sn} (ok : SnOk s) {p m : Nat} (hp : (p : Int) < s.places) (hm : (m : Int) ≤ s.last) : ((wTab s).drop (976 * p + 16 * m)).take (allN s + 1) = zvs (allN s + 1) fun l => worthZ s ⟨p, m, l⟩ := by
  have hal := allN_lt ok; have p2 := ok.p2; have l2 := ok.l2
  apply List.ext_getElem?
  intro l
  rw [List.getElem?_take]
  by_cases h : l < allN s + 1
  · rw [if_pos h, List.getElem?_drop, wTab_at s ok ⟨hp, hm, by show l ≤ allN s; omega⟩]
    unfold zvs
    rw [List.getElem?_map, vecF_get?, if_pos h]; rfl
  · rw [if_neg h, List.getElem?_eq_none (by rw [zvs_len]; omega)]
def wrR (s : Sn) (p m : Nat) : AV := rwA (false, vecF (allN s + 1) fun l => worthZ s ⟨p, m, l⟩)
def wrP (s : Sn) (M p : Nat) : AV := .sl false (vecF M (wrR s p))
def wrE (s : Sn) (M p q : Nat) : AV := if q < p then wrP s M q else .sl true []
theorem wrE_one (s : Sn) (M p : Nat) (P : Nat) : ∀ x ∈ vecF P (wrE s M p), x.one = true := fun x hx => by
  obtain ⟨q, -, rfl⟩ := vecF_mem.1 hx
  unfold wrE; split <;> rfl
theorem wrR_low {n : Nat} (s : Sn) (p m : Nat) : (wrR s p m).low n = true := rwL _
theorem wrP_low {n : Nat} (s : Sn) (M p : Nat) : (wrP s M p).low n = true := by
  show lowL n (vecF M (wrR s p)) = true
  rw [lowL_iff]; intro x hx
  obtain ⟨q, -, rfl⟩ := vecF_mem.1 hx
  exact wrR_low s p q
theorem wrE_low {n : Nat} (s : Sn) (M p P : Nat) : lowL n (vecF P (wrE s M p)) = true := by
  rw [lowL_iff]; intro x hx
  obtain ⟨q, -, rfl⟩ := vecF_mem.1 hx
  unfold wrE; split
  · exact wrP_low s M q
  · rfl
theorem wrE_at {s : Sn} {M p P : Nat} (h : p < P) : (vecF P (wrE s M p))[p]? = some (.sl true []) := by
  rw [vecF_get?, if_pos h]; unfold wrE; rw [if_neg (by omega)]
theorem wrE_next {s : Sn} {M p P : Nat} (h : p < P) : (vecF P (wrE s M p)).set p (wrP s M p) = vecF P (wrE s M (p + 1)) := by
  rw [vecF_set]
  refine vecF_congr fun q hq => ?_
  unfold updV wrE
  by_cases e : q = p
  · rw [if_pos e, e, if_pos (by omega)]
  · rw [if_neg e]
    by_cases e2 : q < p
    · rw [if_pos e2, if_pos (by omega)]
    · rw [if_neg e2, if_neg (by omega)]
theorem wrE_0 (s : Sn) (M P : Nat) : vecF P (wrE s M 0) = List.replicate P (.sl true []) := by
  rw [← vecF_replicate]
  refine vecF_congr fun q _ => ?_
  unfold wrE; rw [if_neg (by omega)]
theorem wrE_all (s : Sn) (M P : Nat) (hM : M = (s.last + 1).toNat) (hP : P = s.places.toNat) : vecF P (wrE s M P) = (wrT s).map rsT := by
  unfold wrT mkT
  rw [vecF_map, ← hM, ← hP]
  refine vecF_congr fun p hp => ?_
  unfold wrE
  rw [if_pos hp]
  show AV.sl false _ = AV.sl false _
  rw [vecF_map]; rfl
theorem XCall.as {P : Program} {f : FuncId} {rs rs' : List AV} {H : List Blk} {k : AV → List Blk → Prop} (e : rs' = rs) (x : XCall P f rs' H k) : XCall P f rs H k := e ▸ x
theorem fMade_ok (s : Sn) (hb : SnB s) (ok : SnOk s) : Comp Try.prog 24 [snA s] (.tup [.sl false ((wrT s).map rsT), .int .i64 0]) := by
  have p1 := ok.p1; have p2 := ok.p2; have l1 := ok.l1; have l2 := ok.l2
  have hal := allN_lt ok
  have ho := fdOpened_c s hb ok
  have hw := worths_c s ok
  have hac := fall_c s ok
  obtain ⟨P0, hP0⟩ : ∃ P0 : Nat, s.places = P0 := ⟨s.places.toNat, by omega⟩
  obtain ⟨L0, hL0⟩ : ∃ L0 : Nat, s.last = L0 := ⟨s.last.toNat, by omega⟩
  refine Comp.body (T := tab) (res := [.tmp 2, .tmp 3]) tab_ok [] Try.func24 rfl (by kernel_rfl) Try.ntmps24 rfl (by simp only [List.length_cons, List.length_nil]; decide) (by simp only [lowL, snL]; rfl) ?_; conv => whnf
  repeat' first | ((with_reducible first | apply XBr.tt | apply XBr.ff | apply Chk.go | apply ChkA.go | apply ChkF.go | apply ChkB.go | apply XArr.pim0 | apply XArr.pim1); conv => whnf) | (with_reducible apply XBr.not) | ((with_reducible apply XBr.dec) <;> (intro h; first | (exfalso; omega) | ((try simp only [List.length_map] at h); first | (exfalso; omega) | (conv => whnf)))) | ((with_reducible first | apply XBr.beq | apply XBr.bne) <;> (intro h; first | (exfalso; omega) | (conv => whnf))) | ((with_reducible refine XInt.i64 (by omega) (by omega) ?_); conv => whnf) | ((with_reducible refine XHold.mk ?_ ?_); (first | omega | rfl | decide | exact ⟨rfl, by decide, rfl⟩ | exact wideI _ | exact widePr _ | exact wideSk _ | (unfold Room; constructor <;> ((try simp) <;> omega)) | exact ⟨rfl, by simp only [List.length_map], by unfold Room; constructor <;> ((try simp) <;> omega)⟩ | exact ⟨by omega, by omega, by unfold Room; constructor <;> ((try simp) <;> omega)⟩); conv => whnf) | ((first | ((with_reducible refine XIx.nat ?_ ?_ ?_); omega; (intro _; rfl)) | ((with_reducible refine XIx.map ?_ ?_ ?_ ?_); omega; omega; (intro _; rfl))); conv => whnf) | (with_reducible apply XAnd.mk) | (exact XSame.mk rfl rfl) | (exact XSame.mk (by first | rfl | (simp only [List.map_append, List.length_append, List.length_map]; done) | (simp only [List.map_append, List.length_append, List.length_map]; rfl)) (by first | rfl | (simp only [List.map_append]; done) | (simp only [List.map_append]; rfl))) | (with_reducible exact trivial) | ((first | (with_reducible refine xdrop_app (by rw [List.length_map]; omega) ?_) | (with_reducible refine XDrop.desk (by assumption) ?_) | (with_reducible first | refine XArr.ints (by omega) (by omega) (by omega) ?_ | refine XArr.intsA (by omega) (by omega) (by omega) ?_) | ((with_reducible first | refine XArr.nats ?_ ?_ ?_ | refine XArr.natsA ?_ ?_ ?_ | refine XArr.ptr ?_ ?_ ?_); omega; omega)); conv => whnf) | (apply Walk.drawN (id := 12) tab_ok mixed_ok [] [18, 20] (hsC [_, _, _]) [_, _, _, _, _, _, _, _, _, _, _, _, _, _, _, _, _, _, _, _, _] (by kernel_rfl) rfl) | ((first | (with_reducible apply XNext.mk) | (refine XCall.ret ho ?_) | (refine XCall.ret hw ?_)); conv => whnf) | ((refine XHold.mk ⟨by omega, by omega, by unfold Room; constructor <;> omega⟩ ?_); conv => whnf) | ((refine XHold.mk List.length_replicate ?_); conv => whnf) | ((with_reducible apply XBr.mk') <;> (intro h; conv => whnf))
  refine Walk.loopGK tab_ok [] [(1, _), (2, _), (3, _), (4, _), (6, _), (24, _)] ⟨rfl, rfl, rfl, rfl, rfl, rfl, trivial⟩ (fun p : Nat => p ≤ P0) (fun p => [(7, .gr 0 P0), (25, natA p)]) (fun p => [.grow 24 false (vecF P0 (wrE s (L0 + 1) p))]) (fun p => P0 - p) 0 (Nat.zero_le _) (by rw [wrE_0]; show [Blk.grow _ _ (List.replicate P0 _)] = [Blk.grow _ _ (List.replicate s.places.toNat _)]; rw [hP0, Int.toNat_natCast]) ⟨(by show some (AV.gr 0 s.places.toNat) = some (AV.gr 0 P0); rw [hP0, Int.toNat_natCast]), rfl, trivial⟩ ?_ (fun _ _ => (show (1 : Nat) ≤ 1 from Nat.le_refl 1)) ?_
  · intro p _
    refine ⟨fun z hz => ?_, fun z hz => ?_⟩
    · rw [List.mem_singleton] at hz; subst hz; exact wrE_low _ _ _ _
    · simp only [List.cons_append, List.nil_append, List.mem_cons, List.not_mem_nil, or_false] at hz
      rcases hz with rfl | rfl | rfl | rfl | rfl | rfl | rfl | rfl <;> first | rfl | exact snCL s | exact dskFL s | exact worsL s
  intro p hp
  have hnx : p < P0 → (vecF P0 (wrE s (L0 + 1) p)).set p (wrP s (L0 + 1) p) = vecF P0 (wrE s (L0 + 1) (p + 1)) := wrE_next
  have hone := wrE_one s (L0 + 1) p P0
  have hat : p < P0 → (vecF P0 (wrE s (L0 + 1) p))[p]? = some (.sl true []) := wrE_at
  have hel := wrE_low (n := 0) s (L0 + 1) p P0
  have hlen : (vecF P0 (wrE s (L0 + 1) p)).length = P0 := vecF_len _ _
  have hall : p = P0 → vecF P0 (wrE s (L0 + 1) p) = (wrT s).map rsT := fun h => by rw [h]; exact wrE_all s _ _ (by omega) (by omega)
  generalize vecF P0 (wrE s (L0 + 1) p) = els at hnx hone hat hel hlen hall
  conv => whnf
  by_cases hlt : p < P0
  · have hlt' : p < els.length := by omega
    have hsl : ∀ v, (els.set p v).length = P0 := fun v => by rw [List.length_set]; exact hlen
    repeat' first | ((with_reducible first | apply XBr.tt | apply XBr.ff | apply Chk.go | apply ChkA.go | apply ChkF.go | apply ChkB.go | apply XArr.pim0 | apply XArr.pim1); conv => whnf) | (with_reducible apply XBr.not) | ((with_reducible apply XBr.dec) <;> (intro h; first | (exfalso; omega) | ((try simp only [List.length_map] at h); first | (exfalso; omega) | (conv => whnf)))) | ((with_reducible first | apply XBr.beq | apply XBr.bne) <;> (intro h; first | (exfalso; omega) | (conv => whnf))) | ((with_reducible refine XInt.i64 (by omega) (by omega) ?_); conv => whnf) | ((with_reducible refine XHold.mk ?_ ?_); (first | omega | rfl | decide | exact ⟨rfl, by decide, rfl⟩ | exact wideI _ | exact widePr _ | exact wideSk _ | (unfold Room; constructor <;> ((try simp) <;> omega)) | exact ⟨rfl, by simp only [List.length_map], by unfold Room; constructor <;> ((try simp) <;> omega)⟩ | exact ⟨by omega, by omega, by unfold Room; constructor <;> ((try simp) <;> omega)⟩); conv => whnf) | ((first | ((with_reducible refine XIx.nat ?_ ?_ ?_); omega; (intro _; rfl)) | ((with_reducible refine XIx.map ?_ ?_ ?_ ?_); omega; omega; (intro _; rfl))); conv => whnf) | (with_reducible apply XAnd.mk) | (exact XSame.mk rfl rfl) | (exact XSame.mk (by first | rfl | (simp only [List.map_append, List.length_append, List.length_map]; done) | (simp only [List.map_append, List.length_append, List.length_map]; rfl)) (by first | rfl | (simp only [List.map_append]; done) | (simp only [List.map_append]; rfl))) | (with_reducible exact trivial) | ((first | (with_reducible refine xdrop_app (by rw [List.length_map]; omega) ?_) | (with_reducible refine XDrop.desk (by assumption) ?_) | (with_reducible first | refine XArr.ints (by omega) (by omega) (by omega) ?_ | refine XArr.intsA (by omega) (by omega) (by omega) ?_) | ((with_reducible first | refine XArr.nats ?_ ?_ ?_ | refine XArr.natsA ?_ ?_ ?_ | refine XArr.ptr ?_ ?_ ?_); omega; omega)); conv => whnf) | (apply Walk.drawN (id := 12) tab_ok mixed_ok [] [18, 20] (hsC [_, _, _]) [_, _, _, _, _, _, _, _, _, _, _, _, _, _, _, _, _, _, _, _, _] (by kernel_rfl) rfl) | ((with_reducible apply XNext.mk); conv => whnf) | ((with_reducible apply XBr.mk') <;> (intro h; conv => whnf))
    refine Walk.nilRowIn 0 p 32 rfl hone (hat hlt) ?_
    refine Walk.thenDo ?_
    refine Walk.loopGK tab_ok [] [(1, _), (2, _), (3, _), (4, _), (6, _), (7, _), (8, _), (24, _), (25, _), (30, _)] ⟨rfl, rfl, rfl, rfl, rfl, rfl, rfl, rfl, rfl, rfl, trivial⟩ (fun m : Nat => m ≤ L0 + 1) (fun m => [(31, natA m)]) (fun m => [.grow 24 false (els.set p (.gr 1 m)), .grow 32 (vecF m (wrR s p)).isEmpty (vecF m (wrR s p))]) (fun m => L0 + 1 - m) 0 (Nat.zero_le _) (by rw [show vecF 0 (wrR s p) = [] by rw [vecF_eq]; rfl]; rfl) ⟨rfl, trivial⟩ ?_ (fun _ _ => (show (2 : Nat) ≤ 2 from Nat.le_refl 2)) ?_
    · intro m _
      refine ⟨fun z hz => ?_, fun z hz => ?_⟩
      · simp only [List.mem_cons, List.not_mem_nil, or_false] at hz
        rcases hz with rfl | rfl
        · show lowL 2 (els.set p (.gr 1 m)) = true
          rw [lowL_iff]
          intro y hy
          rcases List.mem_or_eq_of_mem_set hy with hy | rfl
          · exact AV.low_mono (Nat.zero_le _) ((lowL_iff.1 hel) y hy)
          · rfl
        · show lowL 2 (vecF m (wrR s p)) = true
          rw [lowL_iff]; intro y hy
          obtain ⟨q, -, rfl⟩ := vecF_mem.1 hy
          exact wrR_low s p q
      · simp only [List.cons_append, List.nil_append, List.mem_cons, List.not_mem_nil, or_false] at hz
        rcases hz with rfl | rfl | rfl | rfl | rfl | rfl | rfl | rfl | rfl | rfl | rfl <;> first | rfl | exact snCL s | exact dskFL s | exact worsL s
    intro m hm
    have hRs := vecF_succ m (wrR s p)
    have hRl : (vecF m (wrR s p)).length = m := vecF_len _ _
    have hRP : m = L0 + 1 → AV.sl false (vecF m (wrR s p)) = wrP s (L0 + 1) p := fun h => by rw [h]; rfl
    have hRe : m = L0 + 1 → (vecF m (wrR s p)).isEmpty = false := fun h => by
      cases hh : vecF m (wrR s p) with
      | nil => rw [hh] at hRl; simp at hRl; omega
      | cons _ _ => rfl
    generalize vecF m (wrR s p) = R at hRs hRl hRP hRe
    conv => whnf
    by_cases hlt2 : m < L0 + 1
    · have hrow : List.take (((allN s : Nat) : Int) + 1 - 0).toNat (List.drop (Int.toNat 0) (List.drop ((m : Int).toNat * 16) (List.drop ((p : Int).toNat * 976) (wTab s)))) = ints (vecF (allN s + 1) fun l => worthZ s ⟨p, m, l⟩) := by
        have h := wTab_row ok (p := p) (m := m) (by omega) (by omega)
        rw [zvs_ints] at h
        rw [← h, List.drop_drop, List.drop_drop]
        congr 2 <;> omega
      have hcl := clone_zi (vecF (allN s + 1) fun l => worthZ s ⟨p, m, l⟩) (by rw [vecF_len]; omega)
      have hwl : (wTab s).length = 4880 := zvs_len _ _
      repeat' first | ((with_reducible first | apply XBr.tt | apply XBr.ff | apply Chk.go | apply ChkA.go | apply ChkF.go | apply ChkB.go | apply XArr.pim0 | apply XArr.pim1); conv => whnf) | (with_reducible apply XBr.not) | ((with_reducible apply XBr.dec) <;> (intro h; first | (exfalso; omega) | ((try simp only [List.length_map] at h); first | (exfalso; omega) | (conv => whnf)))) | ((with_reducible first | apply XBr.beq | apply XBr.bne) <;> (intro h; first | (exfalso; omega) | (conv => whnf))) | ((with_reducible refine XInt.i64 (by omega) (by omega) ?_); conv => whnf) | ((with_reducible refine XHold.mk ?_ ?_); (first | omega | rfl | decide | exact ⟨rfl, by decide, rfl⟩ | exact wideI _ | exact widePr _ | exact wideSk _ | (unfold Room; constructor <;> ((try simp) <;> omega)) | exact ⟨rfl, by simp only [List.length_map], by unfold Room; constructor <;> ((try simp) <;> omega)⟩ | exact ⟨by omega, by omega, by unfold Room; constructor <;> ((try simp) <;> omega)⟩); conv => whnf) | ((first | ((with_reducible refine XIx.nat ?_ ?_ ?_); omega; (intro _; rfl)) | ((with_reducible refine XIx.map ?_ ?_ ?_ ?_); omega; omega; (intro _; rfl))); conv => whnf) | (with_reducible apply XAnd.mk) | (exact XSame.mk rfl rfl) | (exact XSame.mk (by first | rfl | (simp only [List.map_append, List.length_append, List.length_map]; done) | (simp only [List.map_append, List.length_append, List.length_map]; rfl)) (by first | rfl | (simp only [List.map_append]; done) | (simp only [List.map_append]; rfl))) | (with_reducible exact trivial) | ((first | (with_reducible refine xdrop_app (by rw [List.length_map]; omega) ?_) | (with_reducible refine XDrop.desk (by assumption) ?_) | (with_reducible first | refine XArr.ints (by omega) (by omega) (by omega) ?_ | refine XArr.intsA (by omega) (by omega) (by omega) ?_) | ((with_reducible first | refine XArr.nats ?_ ?_ ?_ | refine XArr.natsA ?_ ?_ ?_ | refine XArr.ptr ?_ ?_ ?_); omega; omega) | (with_reducible apply XNext.mk)); conv => whnf) | ((with_reducible apply XBr.mk') <;> (intro h; conv => whnf))
      apply Walk.drawX tab_ok mixed_ok [] [18, 20] (hsC [_, _, _]) [_, _, _, _, _, _, _, _, _, _, _, _, _, _, _, _, _, _, _, _, _] (by kernel_rfl) rfl
      · skip
        repeat' first | ((with_reducible first | apply XBr.tt | apply XBr.ff | apply Chk.go | apply ChkA.go | apply ChkF.go | apply ChkB.go | apply XArr.pim0 | apply XArr.pim1); conv => whnf) | (with_reducible apply XBr.not) | ((with_reducible apply XBr.dec) <;> (intro h; first | (exfalso; omega) | ((try simp only [List.length_map] at h); first | (exfalso; omega) | (conv => whnf)))) | ((with_reducible first | apply XBr.beq | apply XBr.bne) <;> (intro h; first | (exfalso; omega) | (conv => whnf))) | ((with_reducible refine XInt.i64 (by omega) (by omega) ?_); conv => whnf) | ((with_reducible refine XHold.mk ?_ ?_); (first | omega | rfl | decide | exact ⟨rfl, by decide, rfl⟩ | exact wideI _ | exact widePr _ | exact wideSk _ | (unfold Room; constructor <;> ((try simp) <;> omega)) | exact ⟨rfl, by simp only [List.length_map], by unfold Room; constructor <;> ((try simp) <;> omega)⟩ | exact ⟨by omega, by omega, by unfold Room; constructor <;> ((try simp) <;> omega)⟩); conv => whnf) | ((first | ((with_reducible refine XIx.nat ?_ ?_ ?_); omega; (intro _; rfl)) | ((with_reducible refine XIx.map ?_ ?_ ?_ ?_); omega; omega; (intro _; rfl))); conv => whnf) | (with_reducible apply XAnd.mk) | (exact XSame.mk rfl rfl) | (exact XSame.mk (by first | rfl | (simp only [List.map_append, List.length_append, List.length_map]; done) | (simp only [List.map_append, List.length_append, List.length_map]; rfl)) (by first | rfl | (simp only [List.map_append]; done) | (simp only [List.map_append]; rfl))) | (with_reducible exact trivial) | ((first | (with_reducible refine xdrop_app (by rw [List.length_map]; omega) ?_) | (with_reducible refine XDrop.desk (by assumption) ?_) | (with_reducible first | refine XArr.ints (by omega) (by omega) (by omega) ?_ | refine XArr.intsA (by omega) (by omega) (by omega) ?_) | ((with_reducible first | refine XArr.nats ?_ ?_ ?_ | refine XArr.natsA ?_ ?_ ?_ | refine XArr.ptr ?_ ?_ ?_); omega; omega)); conv => whnf) | (apply Walk.drawN (id := 12) tab_ok mixed_ok [] [18, 20] (hsC [_, _, _]) [_, _, _, _, _, _, _, _, _, _, _, _, _, _, _, _, _, _, _, _, _] (by kernel_rfl) rfl) | ((first | (with_reducible apply XNext.mk) | (refine XGet.set rfl hlt' hlen.symm ?_) | (refine XArr.pim (by omega) (by omega) ?_) | (refine XCall.ret hac ?_) | ((refine XHold.mk ⟨?_, by omega, by omega, by omega⟩ ?_); (simp only [List.length_drop, hwl]; omega)) | (refine XHold.mk ⟨hsl _, rfl, by omega, by omega⟩ ?_) | ((refine XCall.as (congrArg (fun l => [AV.sl false l]) hrow.symm) ?_); (refine XCall.ret hcl ?_))); conv => whnf) | ((refine XHold.mk ⟨rfl, hRl, by unfold Room; constructor <;> ((try simp) <;> omega)⟩ ?_); conv => whnf) | ((refine XPut.set rfl hlt' hlen.symm ?_); conv => whnf) | ((with_reducible apply XBr.mk') <;> (intro h; conv => whnf))
      · skip
        repeat' first | ((with_reducible first | apply XBr.tt | apply XBr.ff | apply Chk.go | apply ChkA.go | apply ChkF.go | apply ChkB.go | apply XArr.pim0 | apply XArr.pim1); conv => whnf) | (with_reducible apply XBr.not) | ((with_reducible apply XBr.dec) <;> (intro h; first | (exfalso; omega) | ((try simp only [List.length_map] at h); first | (exfalso; omega) | (conv => whnf)))) | ((with_reducible first | apply XBr.beq | apply XBr.bne) <;> (intro h; first | (exfalso; omega) | (conv => whnf))) | ((with_reducible refine XInt.i64 (by omega) (by omega) ?_); conv => whnf) | ((with_reducible refine XHold.mk ?_ ?_); (first | omega | rfl | decide | exact ⟨rfl, by decide, rfl⟩ | exact wideI _ | exact widePr _ | exact wideSk _ | (unfold Room; constructor <;> ((try simp) <;> omega)) | exact ⟨rfl, by simp only [List.length_map], by unfold Room; constructor <;> ((try simp) <;> omega)⟩ | exact ⟨by omega, by omega, by unfold Room; constructor <;> ((try simp) <;> omega)⟩); conv => whnf) | ((first | ((with_reducible refine XIx.nat ?_ ?_ ?_); omega; (intro _; rfl)) | ((with_reducible refine XIx.map ?_ ?_ ?_ ?_); omega; omega; (intro _; rfl))); conv => whnf) | (with_reducible apply XAnd.mk) | (exact XSame.mk rfl rfl) | (exact XSame.mk (by first | rfl | (simp only [List.map_append, List.length_append, List.length_map]; done) | (simp only [List.map_append, List.length_append, List.length_map]; rfl)) (by first | rfl | (simp only [List.map_append]; done) | (simp only [List.map_append]; rfl))) | (with_reducible exact trivial) | ((first | (with_reducible refine xdrop_app (by rw [List.length_map]; omega) ?_) | (with_reducible refine XDrop.desk (by assumption) ?_) | (with_reducible first | refine XArr.ints (by omega) (by omega) (by omega) ?_ | refine XArr.intsA (by omega) (by omega) (by omega) ?_) | ((with_reducible first | refine XArr.nats ?_ ?_ ?_ | refine XArr.natsA ?_ ?_ ?_ | refine XArr.ptr ?_ ?_ ?_); omega; omega)); conv => whnf) | (apply Walk.drawN (id := 12) tab_ok mixed_ok [] [18, 20] (hsC [_, _, _]) [_, _, _, _, _, _, _, _, _, _, _, _, _, _, _, _, _, _, _, _, _] (by kernel_rfl) rfl) | ((first | (with_reducible apply XNext.mk) | (refine XGet.set rfl hlt' hlen.symm ?_) | (refine XArr.pim (by omega) (by omega) ?_) | (refine XCall.ret hac ?_) | ((refine XHold.mk ⟨?_, by omega, by omega, by omega⟩ ?_); (simp only [List.length_drop, hwl]; omega)) | (refine XHold.mk ⟨hsl _, rfl, by omega, by omega⟩ ?_) | ((refine XCall.as (congrArg (fun l => [AV.sl false l]) hrow.symm) ?_); (refine XCall.ret hcl ?_))); conv => whnf) | ((refine XHold.mk ⟨rfl, hRl, by unfold Room; constructor <;> ((try simp) <;> omega)⟩ ?_); conv => whnf) | ((refine XPut.set rfl hlt' hlen.symm ?_); conv => whnf) | ((with_reducible apply XBr.mk') <;> (intro h; conv => whnf))
      conv => whnf
      repeat' first | ((with_reducible first | apply XBr.tt | apply XBr.ff | apply Chk.go | apply ChkA.go | apply ChkF.go | apply ChkB.go | apply XArr.pim0 | apply XArr.pim1); conv => whnf) | (with_reducible apply XBr.not) | ((with_reducible apply XBr.dec) <;> (intro h; first | (exfalso; omega) | ((try simp only [List.length_map] at h); first | (exfalso; omega) | (conv => whnf)))) | ((with_reducible first | apply XBr.beq | apply XBr.bne) <;> (intro h; first | (exfalso; omega) | (conv => whnf))) | ((with_reducible refine XInt.i64 (by omega) (by omega) ?_); conv => whnf) | ((with_reducible refine XHold.mk ?_ ?_); (first | omega | rfl | decide | exact ⟨rfl, by decide, rfl⟩ | exact wideI _ | exact widePr _ | exact wideSk _ | (unfold Room; constructor <;> ((try simp) <;> omega)) | exact ⟨rfl, by simp only [List.length_map], by unfold Room; constructor <;> ((try simp) <;> omega)⟩ | exact ⟨by omega, by omega, by unfold Room; constructor <;> ((try simp) <;> omega)⟩); conv => whnf) | ((first | ((with_reducible refine XIx.nat ?_ ?_ ?_); omega; (intro _; rfl)) | ((with_reducible refine XIx.map ?_ ?_ ?_ ?_); omega; omega; (intro _; rfl))); conv => whnf) | (with_reducible apply XAnd.mk) | (exact XSame.mk rfl rfl) | (exact XSame.mk (by first | rfl | (simp only [List.map_append, List.length_append, List.length_map]; done) | (simp only [List.map_append, List.length_append, List.length_map]; rfl)) (by first | rfl | (simp only [List.map_append]; done) | (simp only [List.map_append]; rfl))) | (with_reducible exact trivial) | ((first | (with_reducible refine xdrop_app (by rw [List.length_map]; omega) ?_) | (with_reducible refine XDrop.desk (by assumption) ?_) | (with_reducible first | refine XArr.ints (by omega) (by omega) (by omega) ?_ | refine XArr.intsA (by omega) (by omega) (by omega) ?_) | ((with_reducible first | refine XArr.nats ?_ ?_ ?_ | refine XArr.natsA ?_ ?_ ?_ | refine XArr.ptr ?_ ?_ ?_); omega; omega)); conv => whnf) | (apply Walk.drawN (id := 12) tab_ok mixed_ok [] [18, 20] (hsC [_, _, _]) [_, _, _, _, _, _, _, _, _, _, _, _, _, _, _, _, _, _, _, _, _] (by kernel_rfl) rfl) | ((with_reducible apply XNext.mk); conv => whnf) | ((with_reducible apply XBr.mk') <;> (intro h; conv => whnf))
      refine XAgainG.go (m + 1) [] (by omega) (by omega) ?_ ⟨rfl, rfl, rfl, rfl, rfl, rfl, rfl, rfl, rfl, rfl, rfl, trivial⟩
      show [Blk.grow _ false (els.set p (.gr 1 (m + 1))), Blk.grow _ (vecF (m + 1) (wrR s p)).isEmpty (vecF (m + 1) (wrR s p))] ++ [] = _
      rw [hRs, isEmpty_app]; rfl
    obtain rfl : m = L0 + 1 := by omega
    repeat' first | ((with_reducible first | apply XBr.tt | apply XBr.ff | apply Chk.go | apply ChkA.go | apply ChkF.go | apply ChkB.go | apply XArr.pim0 | apply XArr.pim1); conv => whnf) | (with_reducible apply XBr.not) | ((with_reducible apply XBr.dec) <;> (intro h; first | (exfalso; omega) | ((try simp only [List.length_map] at h); first | (exfalso; omega) | (conv => whnf)))) | ((with_reducible first | apply XBr.beq | apply XBr.bne) <;> (intro h; first | (exfalso; omega) | (conv => whnf))) | ((with_reducible refine XInt.i64 (by omega) (by omega) ?_); conv => whnf) | ((with_reducible refine XHold.mk ?_ ?_); (first | omega | rfl | decide | exact ⟨rfl, by decide, rfl⟩ | exact wideI _ | exact widePr _ | exact wideSk _ | (unfold Room; constructor <;> ((try simp) <;> omega)) | exact ⟨rfl, by simp only [List.length_map], by unfold Room; constructor <;> ((try simp) <;> omega)⟩ | exact ⟨by omega, by omega, by unfold Room; constructor <;> ((try simp) <;> omega)⟩); conv => whnf) | ((first | ((with_reducible refine XIx.nat ?_ ?_ ?_); omega; (intro _; rfl)) | ((with_reducible refine XIx.map ?_ ?_ ?_ ?_); omega; omega; (intro _; rfl))); conv => whnf) | (with_reducible apply XAnd.mk) | (exact XSame.mk rfl rfl) | (exact XSame.mk (by first | rfl | (simp only [List.map_append, List.length_append, List.length_map]; done) | (simp only [List.map_append, List.length_append, List.length_map]; rfl)) (by first | rfl | (simp only [List.map_append]; done) | (simp only [List.map_append]; rfl))) | (with_reducible exact trivial) | ((first | (with_reducible refine xdrop_app (by rw [List.length_map]; omega) ?_) | (with_reducible refine XDrop.desk (by assumption) ?_) | (with_reducible first | refine XArr.ints (by omega) (by omega) (by omega) ?_ | refine XArr.intsA (by omega) (by omega) (by omega) ?_) | ((with_reducible first | refine XArr.nats ?_ ?_ ?_ | refine XArr.natsA ?_ ?_ ?_ | refine XArr.ptr ?_ ?_ ?_); omega; omega)); conv => whnf) | (apply Walk.drawN (id := 12) tab_ok mixed_ok [] [18, 20] (hsC [_, _, _]) [_, _, _, _, _, _, _, _, _, _, _, _, _, _, _, _, _, _, _, _, _] (by kernel_rfl) rfl) | ((with_reducible apply XNext.mk); conv => whnf) | ((with_reducible apply XBr.mk') <;> (intro h; conv => whnf))
    refine XDo.freezeRow 0 p 1 (L0 + 1) rfl ?_ ?_ rfl (by decide) hRl (XDo.run ?_)
    · intro z hz
      rcases List.mem_or_eq_of_mem_set hz with hz | rfl
      · exact hone z hz
      · rfl
    · exact List.getElem?_set_self hlt'
    conv => whnf
    repeat' first | ((with_reducible first | apply XBr.tt | apply XBr.ff | apply Chk.go | apply ChkA.go | apply ChkF.go | apply ChkB.go | apply XArr.pim0 | apply XArr.pim1); conv => whnf) | (with_reducible apply XBr.not) | ((with_reducible apply XBr.dec) <;> (intro h; first | (exfalso; omega) | ((try simp only [List.length_map] at h); first | (exfalso; omega) | (conv => whnf)))) | ((with_reducible first | apply XBr.beq | apply XBr.bne) <;> (intro h; first | (exfalso; omega) | (conv => whnf))) | ((with_reducible refine XInt.i64 (by omega) (by omega) ?_); conv => whnf) | ((with_reducible refine XHold.mk ?_ ?_); (first | omega | rfl | decide | exact ⟨rfl, by decide, rfl⟩ | exact wideI _ | exact widePr _ | exact wideSk _ | (unfold Room; constructor <;> ((try simp) <;> omega)) | exact ⟨rfl, by simp only [List.length_map], by unfold Room; constructor <;> ((try simp) <;> omega)⟩ | exact ⟨by omega, by omega, by unfold Room; constructor <;> ((try simp) <;> omega)⟩); conv => whnf) | ((first | ((with_reducible refine XIx.nat ?_ ?_ ?_); omega; (intro _; rfl)) | ((with_reducible refine XIx.map ?_ ?_ ?_ ?_); omega; omega; (intro _; rfl))); conv => whnf) | (with_reducible apply XAnd.mk) | (exact XSame.mk rfl rfl) | (exact XSame.mk (by first | rfl | (simp only [List.map_append, List.length_append, List.length_map]; done) | (simp only [List.map_append, List.length_append, List.length_map]; rfl)) (by first | rfl | (simp only [List.map_append]; done) | (simp only [List.map_append]; rfl))) | (with_reducible exact trivial) | ((first | (with_reducible refine xdrop_app (by rw [List.length_map]; omega) ?_) | (with_reducible refine XDrop.desk (by assumption) ?_) | (with_reducible first | refine XArr.ints (by omega) (by omega) (by omega) ?_ | refine XArr.intsA (by omega) (by omega) (by omega) ?_) | ((with_reducible first | refine XArr.nats ?_ ?_ ?_ | refine XArr.natsA ?_ ?_ ?_ | refine XArr.ptr ?_ ?_ ?_); omega; omega)); conv => whnf) | (apply Walk.drawN (id := 12) tab_ok mixed_ok [] [18, 20] (hsC [_, _, _]) [_, _, _, _, _, _, _, _, _, _, _, _, _, _, _, _, _, _, _, _, _] (by kernel_rfl) rfl) | ((with_reducible apply XNext.mk); conv => whnf) | ((with_reducible apply XBr.mk') <;> (intro h; conv => whnf))
    refine XAgainG.go (p + 1) [.dead] (by omega) (by omega) ?_ ⟨rfl, rfl, rfl, rfl, rfl, rfl, rfl, rfl, trivial⟩
    show [Blk.grow _ false (vecF P0 (wrE s (L0 + 1) (p + 1)))] ++ [Blk.dead] = [Blk.grow _ false ((els.set p _).set p (.sl R.isEmpty R)), .dead]
    rw [List.set_set, hRe rfl, hRP rfl, hnx hlt]; rfl
  obtain rfl : p = P0 := by omega
  obtain rfl := hall rfl
  repeat' first | ((with_reducible first | apply XBr.tt | apply XBr.ff | apply Chk.go | apply ChkA.go | apply ChkF.go | apply ChkB.go | apply XArr.pim0 | apply XArr.pim1); conv => whnf) | (with_reducible apply XBr.not) | ((with_reducible apply XBr.dec) <;> (intro h; first | (exfalso; omega) | ((try simp only [List.length_map] at h); first | (exfalso; omega) | (conv => whnf)))) | ((with_reducible first | apply XBr.beq | apply XBr.bne) <;> (intro h; first | (exfalso; omega) | (conv => whnf))) | ((with_reducible refine XInt.i64 (by omega) (by omega) ?_); conv => whnf) | ((with_reducible refine XHold.mk ?_ ?_); (first | omega | rfl | decide | exact ⟨rfl, by decide, rfl⟩ | exact wideI _ | exact widePr _ | exact wideSk _ | (unfold Room; constructor <;> ((try simp) <;> omega)) | exact ⟨rfl, by simp only [List.length_map], by unfold Room; constructor <;> ((try simp) <;> omega)⟩ | exact ⟨by omega, by omega, by unfold Room; constructor <;> ((try simp) <;> omega)⟩); conv => whnf) | ((first | ((with_reducible refine XIx.nat ?_ ?_ ?_); omega; (intro _; rfl)) | ((with_reducible refine XIx.map ?_ ?_ ?_ ?_); omega; omega; (intro _; rfl))); conv => whnf) | (with_reducible apply XAnd.mk) | (exact XSame.mk rfl rfl) | (exact XSame.mk (by first | rfl | (simp only [List.map_append, List.length_append, List.length_map]; done) | (simp only [List.map_append, List.length_append, List.length_map]; rfl)) (by first | rfl | (simp only [List.map_append]; done) | (simp only [List.map_append]; rfl))) | (with_reducible exact trivial) | ((first | (with_reducible refine xdrop_app (by rw [List.length_map]; omega) ?_) | (with_reducible refine XDrop.desk (by assumption) ?_) | (with_reducible first | refine XArr.ints (by omega) (by omega) (by omega) ?_ | refine XArr.intsA (by omega) (by omega) (by omega) ?_) | ((with_reducible first | refine XArr.nats ?_ ?_ ?_ | refine XArr.natsA ?_ ?_ ?_ | refine XArr.ptr ?_ ?_ ?_); omega; omega)); conv => whnf) | (apply Walk.drawN (id := 12) tab_ok mixed_ok [] [18, 20] (hsC [_, _, _]) [_, _, _, _, _, _, _, _, _, _, _, _, _, _, _, _, _, _, _, _, _] (by kernel_rfl) rfl) | ((with_reducible apply XNext.mk); conv => whnf) | ((with_reducible apply XBr.mk') <;> (intro h; conv => whnf))
  exact ⟨Froz.tup (.cons (Froz.grow rfl hlen hel) (.cons (.low rfl) .nil))⟩
end GA
end

section
namespace GA
open Go Go.RowKit Go.Proofs
set_option pp.deepTerms true
set_option maxRecDepth 8000
set_option linter.unusedVariables false
set_option linter.unusedSimpArgs false

theorem subAnd {a b : Nat} (h : ∀ i, a.testBit i = true → b.testBit i = true) : a &&& b = a := by
  refine bit_ext fun i => ?_
  rw [Nat.testBit_and]
  cases e : a.testBit i with
  | false => rfl
  | true => rw [h i e]; rfl
theorem andn_sub : ∀ a b : Fin 16, a.val &&& b.val = a.val → iandn .i64 (a.val : Int) (b.val : Int) = 0 := by decide +kernel
theorem partsK_seq (s : Sn) (p left : Nat) : ∀ n, ∃ N : List Nat, partsK s p left n = N.map (partN s p left) ∧ N.Pairwise (· < ·) ∧ ∀ k ∈ N, k < n
  | 0 => ⟨[], rfl, .nil, by simp⟩
  | n + 1 => by
    obtain ⟨N, h1, h2, h3⟩ := partsK_seq s p left n
    rw [partsK, h1]
    by_cases e : partN s p left n = 0
    · rw [if_pos e, List.append_nil]
      exact ⟨N, rfl, h2, fun k hk => by have := h3 k hk; omega⟩
    · rw [if_neg e]
      refine ⟨N ++ [n], by rw [List.map_append]; rfl, List.pairwise_append.2 ⟨h2, List.pairwise_singleton _ _, fun a ha b hb => ?_⟩, fun k hk => ?_⟩
      · rw [List.mem_singleton] at hb; rw [hb]; exact h3 a ha
      · rcases List.mem_append.1 hk with hk | hk
        · have := h3 k hk; omega
        · rw [List.mem_singleton] at hk; omega
def orK (A : List Sta) : Nat → Nat
  | 0 => 0
  | i + 1 => orK A i ||| (A.getD i default).l
theorem orK_bit {A : List Sta} {j : Nat} : ∀ {i : Nat}, (orK A i).testBit j = true ↔ ∃ k, k < i ∧ (A.getD k default).l.testBit j = true
  | 0 => by
    rw [orK, Nat.zero_testBit]
    exact ⟨fun h => (by cases h), fun h => (by obtain ⟨k, hk, -⟩ := h; omega)⟩
  | i + 1 => by
    rw [orK, Nat.testBit_or, Bool.or_eq_true, orK_bit]
    constructor
    · rintro (⟨k, h1, h2⟩ | h)
      · exact ⟨k, by omega, h2⟩
      · exact ⟨i, by omega, h⟩
    · rintro ⟨k, h1, h2⟩
      by_cases e : k = i
      · rw [e] at h2; exact .inr h2
      · exact .inl ⟨k, by omega, h2⟩
structure AftOk (s : Sn) (x : Sta) (t : Int × Int) (A : List Sta) : Prop where
  h : ∀ i, i < A.length → (A.getD i default).p = t.1.toNat ∧ (A.getD i default).m = (x.m + t.2).toNat ∧ (A.getD i default).l ≠ 0 ∧ (A.getD i default).l ≤ allN s ∧ lowB (A.getD i default).l < s.looks.length
  dry : ∀ i, i < A.length → iandn .i64 ((A.getD i default).l : Int) (drN s t.1.toNat (x.m + t.2).toNat : Int) = 0
  dis : ∀ i, i < A.length → orK A i &&& (A.getD i default).l = 0
  lk : ∀ i, 0 < i → i < A.length → lookZ s (lowB (A.getD (i - 1) default).l) t.1.toNat < lookZ s (lowB (A.getD i default).l) t.1.toNat
  all : orK A A.length = x.l
  le : ∀ i, i ≤ A.length → orK A i ≤ allN s
theorem all_sub {s : Sn} {a : Nat} (h : a ≤ allN s) : ∀ i, a.testBit i = true → i < s.truths.length := fun i hi => by
  have h1 : a < 2 ^ s.truths.length := by
    have : 1 ≤ 2 ^ s.truths.length := Nat.one_le_two_pow
    have e : allN s = 2 ^ s.truths.length - 1 := rfl
    omega
  refine Classical.byContradiction fun hn => ?_
  rw [Nat.testBit_lt_two_pow (Nat.lt_of_lt_of_le h1 (Nat.pow_le_pow_right (by omega) (Nat.le_of_not_lt hn)))] at hi
  cases hi
theorem sub_all {s : Sn} {a : Nat} (h : ∀ i, a.testBit i = true → i < s.truths.length) : a ≤ allN s := by
  have e : a &&& allN s = a := subAnd fun i hi => by rw [allN_bit]; exact decide_eq_true (h i hi)
  rw [← e]; exact Nat.and_le_right
theorem aft_ok {s : Sn} (ok : SnOk s) {x : Sta} {t : Int × Int} (hx : x.l ≤ allN s) (hne : afterS s x t ≠ []) : AftOk s x t (afterS s x t) := by
  have hal := allN_lt ok
  have k1 := ok.k1
  have e : afterS s x t = outS s x t := by
    unfold afterS at hne ⊢
    split
    · rfl
    · rename_i h; rw [if_neg h] at hne; exact absurd rfl hne
  obtain ⟨y0, hy0⟩ := List.exists_mem_of_ne_nil _ hne
  obtain ⟨a1, a2, a3, a4, a5, a6⟩ := afterS_mem hy0
  have hw := waysL_pos ok a4
  have hcs : (outS s x t).all (safeB s) = true := by
    unfold afterS at hne
    split at hne
    · rename_i h; exact h.2.2.2
    · exact absurd rfl hne
  have htp : ((t.1.toNat : Nat) : Int) < s.places := by omega
  obtain ⟨N, hN, hp, hl⟩ := partsK_seq s t.1.toNat x.l 4
  have hA : outS s x t = N.map fun n => (⟨t.1.toNat, (x.m + t.2).toNat, partN s t.1.toNat x.l n⟩ : Sta) := by
    unfold outS partsL
    rw [hN, List.map_map]; rfl
  rw [e]
  have hlen : (outS s x t).length = N.length := by rw [hA, List.length_map]
  have hget : ∀ i, i < N.length → (outS s x t).getD i default = ⟨t.1.toNat, (x.m + t.2).toNat, partN s t.1.toNat x.l (N.getD i 0)⟩ := fun i hi => by
    rw [hA, List.getD_eq_getElem?_getD, List.getElem?_map, List.getElem?_eq_getElem hi, List.getD_eq_getElem?_getD, List.getElem?_eq_getElem hi]; rfl
  have hbit : ∀ i j, i < N.length → ((outS s x t).getD i default).l.testBit j = true → j < s.looks.length ∧ lookZ s j t.1.toNat = (N.getD i 0 : Nat) ∧ x.l.testBit j = true := fun i j hi h => by
    rw [hget i hi] at h
    dsimp only at h
    rw [partN_bit] at h
    simp only [Bool.and_eq_true, decide_eq_true_eq, beq_iff_eq] at h
    exact h
  have hlt : ∀ i j, i < j → j < N.length → N.getD i 0 < N.getD j 0 := fun i j hij hj => by
    rw [List.getD_eq_getElem?_getD, List.getElem?_eq_getElem (by omega), List.getD_eq_getElem?_getD, List.getElem?_eq_getElem hj]
    exact List.pairwise_iff_getElem.1 hp i j (by omega) hj hij
  have hmem : ∀ i, i < N.length → (outS s x t).getD i default ∈ outS s x t := fun i hi => getD_mem (by rw [hlen]; exact hi)
  have hne0 : ∀ i, i < N.length → ((outS s x t).getD i default).l ≠ 0 := fun i hi => by
    obtain ⟨-, -, h⟩ := outS_mem.1 (hmem i hi)
    obtain ⟨n, -, -, h⟩ := partsL_mem.1 h
    exact h
  have hle : ∀ i, i < N.length → ((outS s x t).getD i default).l ≤ allN s := fun i hi => sub_all fun j hj => by
    have := hbit i j hi hj; omega
  have hlow : ∀ i, i < N.length → ((outS s x t).getD i default).l.testBit (lowB ((outS s x t).getD i default).l) = true := fun i hi => by
    have h1 := hle i hi
    exact (lowB_bit ⟨_, Nat.lt_of_le_of_lt h1 hal⟩ (hne0 i hi)).1
  have hin : (outS s x t).length ≤ 4 := by
    have := partsL_len s t.1.toNat x.l
    unfold outS; rw [List.length_map]; exact this
  refine ⟨fun i hi => ?_, fun i hi => ?_, fun i hi => ?_, fun i h0 hi => ?_, ?_, fun i hi => ?_⟩
  · rw [hlen] at hi
    refine ⟨by rw [hget i hi], by rw [hget i hi], hne0 i hi, hle i hi, (hbit i _ hi (hlow i hi)).1⟩
  · rw [hlen] at hi
    have hsf := safeB_iff.1 (List.all_eq_true.1 hcs _ (hmem i hi))
    have hd := drN_lt ok t.1.toNat (x.m + t.2).toNat
    refine andn_sub ⟨_, Nat.lt_of_le_of_lt (hle i hi) hal⟩ ⟨_, hd⟩ (subAnd fun j hj => ?_)
    have := hsf.2 j hj
    rw [hget i hi] at this
    rw [drN_bit, Bool.and_eq_true, decide_eq_true_eq]
    exact this
  · rw [hlen] at hi
    refine bit_ext fun j => ?_
    rw [Nat.zero_testBit, Nat.testBit_and]
    cases h1 : (orK (outS s x t) i).testBit j with
    | false => rfl
    | true =>
      cases h2 : ((outS s x t).getD i default).l.testBit j with
      | false => rfl
      | true =>
        obtain ⟨k, hk, h3⟩ := orK_bit.1 h1
        have b1 := hbit k j (by omega) h3
        have b2 := hbit i j hi h2
        have b3 := hlt k i hk hi
        omega
  · rw [hlen] at hi
    have b1 := hbit (i - 1) _ (by omega) (hlow (i - 1) (by omega))
    have b2 := hbit i _ hi (hlow i hi)
    have b3 := hlt (i - 1) i (by omega) hi
    rw [b1.2.1, b2.2.1]; omega
  · refine bit_ext fun j => ?_
    rw [Bool.eq_iff_iff, orK_bit]
    constructor
    · rintro ⟨k, hk, h⟩
      exact (hbit k j (by omega) h).2.2
    · intro hj
      have hjt := all_sub hx j hj
      obtain ⟨n, hn, h1, h2, h3⟩ := parts_has ok htp (left := x.l) (i := j) (by omega) hj
      unfold partsL at h2
      have h2' : (⟨t.1.toNat, (x.m + t.2).toNat, partN s t.1.toNat x.l n⟩ : Sta) ∈ outS s x t := outS_mem.2 ⟨rfl, rfl, h2⟩
      obtain ⟨k, hk, e2⟩ := List.getElem_of_mem h2'
      refine ⟨k, hk, ?_⟩
      rw [List.getD_eq_getElem?_getD, List.getElem?_eq_getElem hk]
      show ((outS s x t)[k]).l.testBit j = true
      rw [e2]; exact h3
  · refine sub_all fun j hj => ?_
    obtain ⟨k, hk, h⟩ := orK_bit.1 hj
    have := hbit k j (by omega) h
    omega
end GA
end

section
namespace GA
open Go Go.RowKit Go.Proofs
set_option pp.deepTerms true
set_option maxRecDepth 8000
set_option linter.unusedVariables false
set_option linter.unusedSimpArgs false

theorem gained_bf (gg : FuncId) (cs : List AV) (s : Sn) (f : Sta → Int) (x : Sta) (t : Int × Int) (nl : Bool) (y0 : Sta) (l : List Sta) (hl : l.length ≤ 100) (hc : lowL 0 [(AV.bf gg cs)] = true) (hn : ∀ y ∈ y0 :: l, Comp Try.prog gg (cs ++ [staA y]) (.int .i64 (f y))) (hb : ∀ y ∈ y0 :: l, -1 ≤ f y ∧ f y ≤ 100) :
    Comp Try.prog 174 [dskFA s, staA x, sgA t, .sl nl ((y0 :: l).map staA), (AV.bf gg cs)] (.int .i64 (gainL s f x t (y0 :: l))) := by
  have hb0 := hb y0 List.mem_cons_self
  have e1 : (((y0 :: l).map staA).length : Int) = l.length + 1 := by rw [List.length_map, List.length_cons]; omega
  have hsl : List.take (((((y0 :: l).map staA).length : Nat) : Int) - 1).toNat (List.drop (Int.toNat 1) ((y0 :: l).map staA)) = l.map staA := by
    rw [e1, show ((l.length : Int) + 1 - 1).toNat = l.length by omega]
    show List.take l.length (l.map staA) = _
    rw [← List.map_take, List.take_length]
  have e2 : ((y0 :: l).length : Int) = l.length + 1 := by rw [List.length_cons]; omega
  have e3 : ((l.map staA).length : Int) = l.length := by rw [List.length_map]
  have hn0 := hn y0 List.mem_cons_self
  refine Comp.body (T := tab) (res := [.tmp 10]) tab_ok [] Try.func174 rfl (by kernel_rfl) Try.ntmps174 rfl (by simp only [List.length_cons, List.length_nil]; decide) (by simp only [lowL, AV.low, dskFL, staL, lowSta, Bool.and_true, Bool.true_and] at hc ⊢; first | exact hc | (rw [hc]; rfl)) ?_; conv => whnf
  repeat' first | ((first | ((with_reducible refine XIx.map ?_ ?_ ?_ ?_); omega; omega; (intro _; rfl)) | (refine XCall.ret hn0 ?_)); conv => whnf) | (rw [hsl]; conv => whnf) | ((refine XHold.mk ⟨by omega, by omega, by omega, .inr (wideSta _)⟩ ?_); conv => whnf) | fail
  refine Walk.loopGK tab_ok [] [(0, _), (4, _), (6, _), (7, _), (10, _), (20, _), (21, _)] ⟨rfl, rfl, rfl, rfl, rfl, rfl, rfl, trivial⟩ (fun k : Nat => k ≤ l.length) (fun k => [(11, .int .i64 ((l.take k).foldl (fun n y => min n (f y)) (f y0))), (22, natA k)]) (fun _ => []) (fun k => l.length - k) 0 (Nat.zero_le _) rfl ⟨rfl, rfl, trivial⟩ ?_ (fun _ _ => (show (0 : Nat) ≤ 0 from Nat.le_refl 0)) ?_
  · intro k _
    refine ⟨by simp, fun z hz => ?_⟩
    simp only [List.cons_append, List.nil_append, List.mem_cons, List.not_mem_nil, or_false] at hz
    rcases hz with rfl | rfl | rfl | rfl | rfl | rfl | rfl | rfl | rfl <;> first | rfl | exact dskFL s | exact lowSta _ | (simp only [lowL, Bool.and_true] at hc; exact hc)
  intro k hk
  have hfx : k < l.length → (l.take (k + 1)).foldl (fun n y => min n (f y)) (f y0) = min ((l.take k).foldl (fun n y => min n (f y)) (f y0)) (f (l.getD k default)) := fun h => by rw [take_next h, List.foldl_append]; rfl
  have hfend : k = l.length → (l.take k).foldl (fun n y => min n (f y)) (f y0) = minL f (y0 :: l) := fun h => by rw [h, List.take_length]; rfl
  generalize (l.take k).foldl (fun n y => min n (f y)) (f y0) = v at hfx hfend
  conv => whnf
  by_cases hlt : k < l.length
  · have hy : l.getD k default ∈ y0 :: l := List.mem_cons_of_mem _ (getD_mem hlt)
    have hls := fleast_c v false [f (l.getD k default)] (by simp)
    have hny := hn _ hy
    repeat' first | ((with_reducible apply XBr.dec) <;> (intro h; first | (exfalso; omega) | ((try simp only [List.length_map] at h); first | (exfalso; omega) | (conv => whnf)))) | ((with_reducible refine XInt.i64 (by omega) (by omega) ?_); conv => whnf) | ((with_reducible refine XHold.mk ?_ ?_); (first | omega | rfl | decide | exact ⟨rfl, by decide, rfl⟩ | exact wideI _ | exact widePr _ | exact wideSk _ | (unfold Room; constructor <;> ((try simp) <;> omega)) | exact ⟨rfl, by simp only [List.length_map], by unfold Room; constructor <;> ((try simp) <;> omega)⟩ | exact ⟨by omega, by omega, by unfold Room; constructor <;> ((try simp) <;> omega)⟩); conv => whnf) | ((first | ((with_reducible refine XIx.nat ?_ ?_ ?_); omega; (intro _; rfl)) | (refine XCall.ret hny ?_) | (refine XCall.ret hls ?_)); conv => whnf) | fail
    refine XAgainG.go (k + 1) [.cells (stC (l.getD k default))] (by omega) (by omega) rfl ⟨rfl, rfl, rfl, rfl, rfl, rfl, rfl, (by rw [hfx hlt]; rfl), rfl, trivial⟩
  obtain rfl : k = l.length := by omega
  have hv := hfend rfl
  have hge : -1 ≤ minL f (y0 :: l) := minL_ge (List.cons_ne_nil _ _) fun y hy => (hb y hy).1
  have hle : minL f (y0 :: l) ≤ f y0 := (minL_mem (f := f) (List.cons_ne_nil y0 l)).2 y0 List.mem_cons_self
  have hgl : gainL s f x t (y0 :: l) = if v ≠ -1 ∧ (x.p : Int) = s.bed ∧ t.1 = s.bed then v + 1 else v := by unfold gainL; rw [← hv]
  rw [← hv] at hge hle
  rw [hgl]
  by_cases c1 : v = -1
  · rw [if_neg (fun h => h.1 c1)]
    repeat' first | ((with_reducible apply XBr.ff); conv => whnf) | ((with_reducible apply XBr.dec) <;> (intro h; first | (exfalso; omega) | ((try simp only [List.length_map] at h); first | (exfalso; omega) | (conv => whnf)))) | ((with_reducible apply XBr.bne) <;> (intro h; first | (exfalso; omega) | (conv => whnf))) | (with_reducible apply XAnd.mk) | ((first | (with_reducible apply Chk.go) | (with_reducible apply ChkA.go) | (with_reducible apply ChkF.go) | (with_reducible apply ChkB.go)); conv => whnf) | (exact XSame.mk rfl rfl) | (with_reducible exact trivial) | (apply Walk.drawN (id := 7) tab_ok mixed_ok [] [] (hsU _) [_, _, _, _, _, _, _, _, _, _, _, _, _, _, _, _, _, _, _, _, _, _] (by kernel_rfl) rfl) | ((with_reducible apply XNext.mk); conv => whnf) | fail
    exact XOut.int rfl
  by_cases c2 : (x.p : Int) = s.bed
  · by_cases c3 : t.1 = s.bed
    · rw [if_pos ⟨c1, c2, c3⟩]
      repeat' first | ((with_reducible apply XBr.dec) <;> (intro h; first | (exfalso; omega) | ((try simp only [List.length_map] at h); first | (exfalso; omega) | (conv => whnf)))) | ((with_reducible apply XBr.beq) <;> (intro h; first | (exfalso; omega) | (conv => whnf))) | ((with_reducible apply XBr.bne) <;> (intro h; first | (exfalso; omega) | (conv => whnf))) | ((with_reducible refine XInt.i64 (by omega) (by omega) ?_); conv => whnf) | (with_reducible apply XAnd.mk) | ((first | (with_reducible apply Chk.go) | (with_reducible apply ChkA.go) | (with_reducible apply ChkF.go) | (with_reducible apply ChkB.go)); conv => whnf) | (exact XSame.mk rfl rfl) | (with_reducible exact trivial) | (apply Walk.drawN (id := 7) tab_ok mixed_ok [] [] (hsU _) [_, _, _, _, _, _, _, _, _, _, _, _, _, _, _, _, _, _, _, _, _, _] (by kernel_rfl) rfl) | ((with_reducible apply XNext.mk); conv => whnf) | fail
      exact XOut.int rfl
    · rw [if_neg (fun h => c3 h.2.2)]
      repeat' first | ((with_reducible apply XBr.dec) <;> (intro h; first | (exfalso; omega) | ((try simp only [List.length_map] at h); first | (exfalso; omega) | (conv => whnf)))) | ((with_reducible apply XBr.beq) <;> (intro h; first | (exfalso; omega) | (conv => whnf))) | ((with_reducible apply XBr.bne) <;> (intro h; first | (exfalso; omega) | (conv => whnf))) | (with_reducible apply XAnd.mk) | ((first | (with_reducible apply Chk.go) | (with_reducible apply ChkA.go) | (with_reducible apply ChkF.go) | (with_reducible apply ChkB.go)); conv => whnf) | (exact XSame.mk rfl rfl) | (with_reducible exact trivial) | (apply Walk.drawN (id := 7) tab_ok mixed_ok [] [] (hsU _) [_, _, _, _, _, _, _, _, _, _, _, _, _, _, _, _, _, _, _, _, _, _] (by kernel_rfl) rfl) | ((with_reducible apply XNext.mk); conv => whnf) | fail
      exact XOut.int rfl
  · rw [if_neg (fun h => c2 h.2.1)]
    repeat' first | ((with_reducible apply XBr.ff); conv => whnf) | ((with_reducible apply XBr.dec) <;> (intro h; first | (exfalso; omega) | ((try simp only [List.length_map] at h); first | (exfalso; omega) | (conv => whnf)))) | ((with_reducible apply XBr.beq) <;> (intro h; first | (exfalso; omega) | (conv => whnf))) | ((with_reducible apply XBr.bne) <;> (intro h; first | (exfalso; omega) | (conv => whnf))) | (with_reducible apply XAnd.mk) | ((first | (with_reducible apply Chk.go) | (with_reducible apply ChkA.go) | (with_reducible apply ChkF.go) | (with_reducible apply ChkB.go)); conv => whnf) | (exact XSame.mk rfl rfl) | (with_reducible exact trivial) | (apply Walk.drawN (id := 7) tab_ok mixed_ok [] [] (hsU _) [_, _, _, _, _, _, _, _, _, _, _, _, _, _, _, _, _, _, _, _, _, _] (by kernel_rfl) rfl) | ((with_reducible apply XNext.mk); conv => whnf) | fail
    exact XOut.int rfl
def ruleS (s : Sn) (x : Sta) : Option (Int × Int) := if worthZ s x = -1 ∨ worthZ s x = homeZ s x then none else (stepsS s x).find? fun t => gainZ s (worthZ s) x t == worthZ s x
def ruleR (o : Option (Int × Int)) : AV := .tup [sgA (o.getD (0, 0)), .int .i64 (if o.isSome = true then 0 else 6)]
theorem rul_find {s : Sn} {x : Sta} {W : List (Int × Int)} {k : Nat} {p : Int × Int → Bool} (q : Int × Int → Bool) (hk : k < W.length) (h0 : ∀ j, j < k → (q (W.getD j default) && p (W.getD j default)) = false) (hq : q (W.getD k default) = true) (hp : p (W.getD k default) = true) : (W.filter q).find? p = some (W.getD k default) := by
  induction W generalizing k with
  | nil => simp at hk
  | cons t W ih =>
    cases k with
    | zero =>
      rw [List.getD_cons_zero] at hq hp ⊢
      rw [List.filter_cons, if_pos hq, List.find?_cons, hp]
    | succ k =>
      have h1 := h0 0 (by omega)
      rw [List.getD_cons_zero] at h1
      rw [List.getD_cons_succ] at hq hp ⊢
      have ih' := ih (k := k) (by simpa using hk) (fun j hj => by have := h0 (j + 1) (by omega); rwa [List.getD_cons_succ] at this) hq hp
      rw [List.filter_cons]
      by_cases hqt : q t = true
      · rw [if_pos hqt, List.find?_cons]
        rw [hqt, Bool.true_and] at h1
        rw [h1]; exact ih'
      · rw [if_neg hqt]; exact ih'
theorem rul_none {W : List (Int × Int)} {p q : Int × Int → Bool} (h0 : ∀ j, j < W.length → (q (W.getD j default) && p (W.getD j default)) = false) : (W.filter q).find? p = none := by
  rw [List.find?_eq_none]
  intro t ht
  obtain ⟨h1, h2⟩ := List.mem_filter.1 ht
  obtain ⟨j, hj, rfl⟩ := List.mem_iff_getElem.1 h1
  have := h0 j hj
  rw [List.getD_eq_getElem?_getD, List.getElem?_eq_getElem hj] at this
  rw [show (some W[j]).getD default = W[j] from rfl, h2, Bool.true_and] at this
  rw [this]; simp
def rulB (s : Sn) (x : Sta) (t : Int × Int) : Bool := !(afterS s x t).isEmpty && gainZ s (worthZ s) x t == worthZ s x
set_option maxHeartbeats 4000000 in
theorem fRule_ok (s : Sn) (hb : SnB s) (p m l : Int) (h : sttE s p m l = 0) : Comp Try.prog 119 [snA s, xA p m l] (ruleR (ruleS s (stN p m l))) := by
  have hs := stated_ok s hb p m l h
  obtain ⟨ok, h1, h2, h3, h4⟩ := sttE_iff.1 h
  have hxe := xA_st h1.1 h2.1 (show 0 ≤ l by omega)
  have hx := stN_ok h
  have hv := st_vld h
  rw [hxe] at hs ⊢
  generalize stN p m l = x at hs hx hv
  clear h h1 h2 h3 h4 hxe
  have p1 := ok.p1; have p2 := ok.p2; have l1 := ok.l1; have l2 := ok.l2; have w1 := ok.w1
  have x1 := hx.p; have x2 := hx.m; have x3 := hx.l
  have hw := worths_c s ok
  have hof := wof_c s ok x hv
  have hho := fhome_c s x
  have hst := fsteps_c s x
  have hwk := worthZ_ge s x
  by_cases hc : worthZ s x = -1 ∨ worthZ s x = homeZ s x
  · have hr : ruleS s x = none := if_pos hc
    rw [hr]
    generalize worthZ s x = v at hof hc hwk
    generalize homeZ s x = hz at hho hc
    by_cases hc1 : v = -1
    · refine Comp.body (T := tab) (res := [.cell 4 41, .cell 5 37]) tab_ok [] Try.func119 rfl (by kernel_rfl) Try.ntmps119 rfl (by simp only [List.length_cons, List.length_nil]; decide) (by simp only [lowL, snL, staL]; rfl) ?_; conv => whnf
      repeat' first | ((with_reducible apply XBr.tt); conv => whnf) | ((with_reducible apply XBr.beq) <;> (intro h; first | (exfalso; omega) | (conv => whnf))) | ((with_reducible apply XBr.bne) <;> (intro h; first | (exfalso; omega) | (conv => whnf))) | (with_reducible apply XAnd.mk) | ((first | (with_reducible apply Chk.go) | (with_reducible apply ChkA.go) | (with_reducible apply ChkF.go) | (with_reducible apply ChkB.go)); conv => whnf) | (exact XSame.mk rfl rfl) | (with_reducible exact trivial) | (apply Walk.drawN (id := 6) tab_ok mixed_ok [] [] (hsU _) [_, _, _, _, _, _, _, _, _] (by kernel_rfl) rfl) | ((first | (with_reducible apply XNext.mk) | (refine XCall.ret hs ?_) | (refine XCall.ret hw ?_) | (refine XCall.ret hof ?_)); conv => whnf) | fail
      exact ⟨.low rfl⟩
    · have hc2 : v = hz := by omega
      refine Comp.body (T := tab) (res := [.cell 4 41, .cell 5 37]) tab_ok [] Try.func119 rfl (by kernel_rfl) Try.ntmps119 rfl (by simp only [List.length_cons, List.length_nil]; decide) (by simp only [lowL, snL, staL]; rfl) ?_; conv => whnf
      repeat' first | ((with_reducible apply XBr.beq) <;> (intro h; first | (exfalso; omega) | (conv => whnf))) | ((with_reducible apply XBr.bne) <;> (intro h; first | (exfalso; omega) | (conv => whnf))) | (with_reducible apply XAnd.mk) | ((first | (with_reducible apply Chk.go) | (with_reducible apply ChkA.go) | (with_reducible apply ChkF.go) | (with_reducible apply ChkB.go)); conv => whnf) | (exact XSame.mk rfl rfl) | (with_reducible exact trivial) | (apply Walk.drawN (id := 6) tab_ok mixed_ok [] [] (hsU _) [_, _, _, _, _, _, _, _, _] (by kernel_rfl) rfl) | ((first | (with_reducible apply XNext.mk) | (refine XCall.ret hs ?_) | (refine XCall.ret hw ?_) | (refine XCall.ret hof ?_) | (refine XCall.ret hho ?_)); conv => whnf) | fail
      exact ⟨.low rfl⟩
  have hr : ruleS s x = (stepsS s x).find? fun t => gainZ s (worthZ s) x t == worthZ s x := if_neg hc
  have hfk : ∀ k, k < (waysL s x.p).length → (∀ j, j < k → rulB s x ((waysL s x.p).getD j default) = false) → rulB s x ((waysL s x.p).getD k default) = true → ruleS s x = some ((waysL s x.p).getD k default) := fun k hk h0 h1 => by
    rw [hr]
    unfold rulB at h0 h1
    rw [Bool.and_eq_true] at h1
    exact rul_find (s := s) (x := x) (fun t => !(afterS s x t).isEmpty) hk h0 h1.1 h1.2
  have hfn : (∀ j, j < (waysL s x.p).length → rulB s x ((waysL s x.p).getD j default) = false) → ruleS s x = none := fun h0 => by
    rw [hr]; exact rul_none h0
  have hgw := fun (t : Int × Int) (y0 : Sta) (L : List Sta) (ha : afterS s x t = y0 :: L) => gained_bf 74 [wsA s] s (worthZ s) x t false y0 L (by have := afterS_len s x t; rw [ha, List.length_cons] at this; omega) (by simp only [lowL, AV.low, worsL]; rfl) (fun y hy => wof_c s ok y (afterS_vld ok (ha ▸ hy))) (fun y hy => ⟨worthZ_ge s y, by have := worthZ_le s y (afterS_vld ok (t := t) (x := x) (ha ▸ hy)).2.1; omega⟩)
  have hrb : ∀ t, rulB s x t = (!(afterS s x t).isEmpty && gainZ s (worthZ s) x t == worthZ s x) := fun t => rfl
  have hge := fun t => gain_eq s (worthZ s) x t
  generalize ruleS s x = rr at hfk hfn
  have hc' := not_or.1 hc
  clear hc hr
  generalize worthZ s x = v at hof hc' hwk hrb
  generalize homeZ s x = hz at hho hc'
  have hc1 := hc'.1
  have hc2 := hc'.2
  have hmg : mget (x.p : Int) ((keyF s).zip ((esF s s.places.toNat).map (·.2))) = some (.sl false ((waysL s x.p).map sgA)) := by
    unfold keyF; rw [zip_fs]; exact esF_get s _ _ (by omega)
  have hwl : (waysL s x.p).length ≤ 55 := by
    have h := waysK_len s x.p s.places.toNat
    have h2 : s.places.toNat * (1 + s.ways.length) ≤ 5 * 11 := Nat.mul_le_mul (by omega) (by omega)
    show (waysK s x.p s.places.toNat).length ≤ 55
    omega
  have hwm := fun t (h : t ∈ waysL s x.p) => waysL_pos ok h
  generalize waysL s x.p = W at hmg hwl hwm hfk hfn
  have e1 : ((W.map sgA).length : Int) = W.length := by rw [List.length_map]
  refine Comp.body' (T := tab) (res := [.cell 4 41, .cell 5 37]) tab_ok [] Try.func119 rfl (by kernel_rfl) Try.ntmps119 rfl (by simp only [List.length_cons, List.length_nil]; decide) (by simp only [lowL, snL, staL]; rfl) ?_; conv => whnf
  repeat' first | ((with_reducible apply XBr.beq) <;> (intro h; first | (exfalso; omega) | (conv => whnf))) | ((with_reducible apply XBr.bne) <;> (intro h; first | (exfalso; omega) | (conv => whnf))) | (with_reducible apply XAnd.mk) | ((first | (with_reducible apply Chk.go) | (with_reducible apply ChkA.go) | (with_reducible apply ChkF.go) | (with_reducible apply ChkB.go)); conv => whnf) | (exact XSame.mk rfl rfl) | (with_reducible exact trivial) | (apply Walk.drawN (id := 6) tab_ok mixed_ok [] [] (hsU _) [_, _, _, _, _, _, _, _, _] (by kernel_rfl) rfl) | ((first | (with_reducible apply XNext.mk) | (refine XCall.ret hs ?_) | (refine XCall.ret hw ?_) | (refine XCall.ret hof ?_) | (refine XCall.ret hho ?_) | (refine XCall.ret hst ?_)); conv => whnf) | fail
  refine Walk.range (own := []) tab_ok [(3, .pim (stC x)), (4, .ptr 0 0), (5, .ptr 1 0), (6, .ptr 2 0), (8, .ptr 3 0), (9, .ptr 4 0)] rfl ⟨rfl, rfl, rfl, rfl, rfl, rfl, trivial⟩ ?_
  intro fn
  refine XCall.inl (T := tab) (res := []) tab_ok [] Try.func140 rfl (by kernel_rfl) Try.ntmps140 rfl (by simp only [List.length_append, List.length_cons, List.length_nil]; decide) ?_; conv => whnf
  repeat' first | (with_reducible apply XAnd.mk) | ((first | (with_reducible apply Chk.go) | (with_reducible apply ChkA.go) | (with_reducible apply ChkF.go) | (with_reducible apply ChkB.go)); conv => whnf) | (exact XSame.mk rfl rfl) | (with_reducible exact trivial) | (apply Walk.drawN (id := 0) tab_ok mixed_ok [] [] (hsU _) [_, _, _, _, _, _, _, _, _] (by kernel_rfl) rfl) | ((first | (with_reducible apply XNext.mk) | (refine XDrop.dskF ?_) | (refine XGetM.mk' hmg ?_)); conv => whnf) | fail
  refine Walk.loopGKL tab_ok [] _ [(0, _), (1, _), (2, _), (13, _), (14, _)] ⟨rfl, rfl, rfl, rfl, rfl, trivial⟩ (fun k : Nat => k ≤ W.length ∧ ∀ j, j < k → rulB s x (W.getD j default) = false) (fun k => [(15, natA k)]) (fun lp k => [.cells [.int .i64 0, .int .i64 0], .cells [.int .i64 0], .cells [dskFA s], .cells [wsA s], .cells [.int .i64 v], .raw (.deferred (some [])), lp]) (fun k => W.length - k) 0 ⟨Nat.zero_le _, fun j hj => by omega⟩ rfl ⟨rfl, trivial⟩ ?_ (fun _ _ => (show (7 : Nat) ≤ 7 from Nat.le_refl 7)) ?_
  · intro k _
    refine ⟨fun z hz => ?_, fun z hz => ?_⟩
    · show z.low 7 = true
      simp only [List.mem_cons, List.not_mem_nil, or_false] at hz
      rcases hz with rfl | rfl | rfl | rfl | rfl | rfl | rfl
      · rfl
      · rfl
      · show ((dskFA s).low 7 && true) = true
        rw [dskFL]; rfl
      · show ((wsA s).low 7 && true) = true
        rw [worsL]; rfl
      · rfl
      · rfl
      · rfl
    · show z.2.low 7 = true
      simp only [List.cons_append, List.nil_append, List.mem_cons, List.not_mem_nil, or_false] at hz
      rcases hz with rfl | rfl | rfl | rfl | rfl | rfl <;> first | rfl | exact lowSg _ | (simp only [AV.low, lowL, dskFL]; rfl)
  rintro k ⟨hk, hI⟩
  conv => whnf
  by_cases hlt : k < W.length
  · have hw := hwm _ (getD_mem (d := default) hlt)
    have hfa := fafter_c s ok x hx (W.getD k default) (by omega) (by omega)
    have hgk := hgw (W.getD k default)
    have hrk := hrb (W.getD k default)
    have hek := hge (W.getD k default)
    have hfk := hfk k hlt hI
    cases haf : afterS s x (W.getD k default) with
    | nil =>
      rw [haf] at hfa hrk
      have e0 : (([] : List AV).length : Int) = 0 := rfl
      have hfa' : Comp Try.prog 69 [dskFA s, staA x, sgA (W.getD k default)] (.sl true []) := hfa
      repeat' first | ((with_reducible apply XBr.ff); conv => whnf) | ((with_reducible apply XBr.dec) <;> (intro h; first | (exfalso; omega) | ((try simp only [List.length_map] at h); first | (exfalso; omega) | (conv => whnf)))) | ((first | (with_reducible refine XInt.i64 (by omega) (by omega) ?_) | ((with_reducible refine XIx.nat ?_ ?_ ?_); omega; (intro _; rfl)) | (refine XCall.ret hfa' ?_)); conv => whnf) | fail
      refine XAgainG.go (k + 1) [.cells (sgA (W.getD k default)).cells] ⟨by omega, fun j hj => ?_⟩ (by omega) rfl ⟨rfl, rfl, rfl, rfl, rfl, rfl, trivial⟩
      by_cases e : j = k
      · subst e; rw [hrk]; rfl
      · exact hI j (by omega)
    | cons y0 L =>
      have hgk := hgk y0 L haf
      rw [haf] at hfa hrk hek
      rw [← hek] at hgk
      have e2 : (((y0 :: L).map staA).length : Int) = L.length + 1 := by rw [List.length_map, List.length_cons]; omega
      have hfa' : Comp Try.prog 69 [dskFA s, staA x, sgA (W.getD k default)] (.sl false ((y0 :: L).map staA)) := hfa
      generalize gainZ s (worthZ s) x (W.getD k default) = gz at hgk hrk
      have hrk' : rulB s x (W.getD k default) = (gz == v) := hrk
      by_cases hgv : gz = v
      · have hrr := hfk (by rw [hrk', hgv]; simp)
        rw [hrr]
        repeat' first | ((with_reducible apply XBr.tt); conv => whnf) | ((with_reducible apply XBr.dec) <;> (intro h; first | (exfalso; omega) | ((try simp only [List.length_map] at h); first | (exfalso; omega) | (conv => whnf)))) | ((first | ((with_reducible refine XIx.nat ?_ ?_ ?_); omega; (intro _; rfl)) | (refine XCall.ret hfa' ?_) | ((refine XYield.go (own := []) tab_ok rfl rfl (by decide) ?_); intro ρ)); conv => whnf) | fail
        apply Walk.drawX tab_ok mixed_ok [] [] (hsK _) [_, _, _, _, _, _, _, _, _] (by kernel_rfl) rfl
        · skip
          repeat' first | (with_reducible apply XAnd.mk) | ((first | (with_reducible apply Chk.go) | (with_reducible apply ChkA.go)); conv => whnf) | (exact XSame.mk rfl rfl) | (with_reducible exact trivial) | ((refine XCall.ret hgk ?_); conv => whnf) | fail
        · skip
          repeat' first | (with_reducible apply XAnd.mk) | ((first | (with_reducible apply ChkF.go) | (with_reducible apply ChkB.go)); conv => whnf) | (with_reducible exact trivial) | fail
        conv => whnf
        repeat' first | ((first | (with_reducible apply XBr.tt) | (with_reducible apply XBr.ff)); conv => whnf) | (with_reducible apply XBr.not) | ((with_reducible apply XBr.beq) <;> (intro h; first | (exfalso; omega) | (conv => whnf))) | fail
        exact ⟨.low rfl⟩
      · skip
        repeat' first | ((with_reducible apply XBr.tt); conv => whnf) | ((with_reducible apply XBr.dec) <;> (intro h; first | (exfalso; omega) | ((try simp only [List.length_map] at h); first | (exfalso; omega) | (conv => whnf)))) | ((first | ((with_reducible refine XIx.nat ?_ ?_ ?_); omega; (intro _; rfl)) | (refine XCall.ret hfa' ?_) | ((refine XYield.go (own := []) tab_ok rfl rfl (by decide) ?_); intro ρ)); conv => whnf) | fail
        apply Walk.drawX tab_ok mixed_ok [] [] (hsK _) [_, _, _, _, _, _, _, _, _] (by kernel_rfl) rfl
        · skip
          repeat' first | (with_reducible apply XAnd.mk) | ((first | (with_reducible apply Chk.go) | (with_reducible apply ChkA.go)); conv => whnf) | (exact XSame.mk rfl rfl) | (with_reducible exact trivial) | ((refine XCall.ret hgk ?_); conv => whnf) | fail
        · skip
          repeat' first | (with_reducible apply XAnd.mk) | ((first | (with_reducible apply ChkF.go) | (with_reducible apply ChkB.go)); conv => whnf) | (with_reducible exact trivial) | fail
        conv => whnf
        repeat' first | ((with_reducible apply XBr.tt); conv => whnf) | (with_reducible apply XBr.not) | ((with_reducible apply XBr.beq) <;> (intro h; first | (exfalso; omega) | (conv => whnf))) | ((with_reducible refine XInt.i64 (by omega) (by omega) ?_); conv => whnf) | fail
        refine XAgainG.go (k + 1) [.cells (sgA (W.getD k default)).cells, .cells (sgA (W.getD k default)).cells] ⟨by omega, fun j hj => ?_⟩ (by omega) rfl ⟨rfl, rfl, rfl, rfl, rfl, rfl, trivial⟩
        by_cases e : j = k
        · subst e; rw [hrk']; simpa using hgv
        · exact hI j (by omega)
  obtain rfl : k = W.length := by omega
  rw [hfn hI]
  repeat' first | ((with_reducible apply XBr.dec) <;> (intro h; first | (exfalso; omega) | ((try simp only [List.length_map] at h); first | (exfalso; omega) | (conv => whnf)))) | fail
  exact ⟨.low rfl⟩
end GA
end

section
namespace GA
open Go Go.RowKit Go.Proofs
set_option pp.deepTerms true
set_option maxRecDepth 8000
set_option linter.unusedVariables false
set_option linter.unusedSimpArgs false

theorem bit_pos {l b : Nat} (h : l.testBit b = true) : l &&& 2 ^ b ≠ 0 := fun e => by
  have h2 := congrArg (fun n => n.testBit b) e
  simp only [Nat.testBit_and, Nat.testBit_two_pow, Nat.zero_testBit, h] at h2
  simp at h2
theorem led1_c (b : Nat) (hb : b < 4) (y : Sta) (hy : y.l ≤ 1000) : Comp Try.prog 120 [staA y, .pim [natA (2 ^ b)]] (.bool (bitP b y)) := by
  have hp : 2 ^ b ≤ 2 ^ 4 := Nat.pow_le_pow_right (by omega) (by omega)
  have ha : iand .i64 (y.l : Int) ((2 ^ b : Nat) : Int) = ((y.l &&& 2 ^ b : Nat) : Int) := iand_nat (by omega) (by omega)
  have hz : (y.l &&& 2 ^ b ≠ 0) ↔ bitP b y = true := by
    unfold bitP
    constructor
    · intro h
      refine Classical.byContradiction fun e => h (bit_ext fun i => ?_)
      rw [Nat.testBit_and, Nat.testBit_two_pow, Nat.zero_testBit]
      by_cases hi : b = i
      · subst hi; simp [Bool.not_eq_true] at e ⊢; exact e
      · simp [hi]
    · exact bit_pos
  generalize y.l &&& 2 ^ b = v at ha hz
  refine Comp.body (T := tab) (res := [.tmp 3]) tab_ok [] Try.func120 rfl (by kernel_rfl) Try.ntmps120 rfl (by simp only [List.length_cons, List.length_nil]; decide) (by rfl) ?_; conv => whnf
  skip
  all_goals (refine XOut.bool ?_; rw [Bool.eq_iff_iff, ← hz]; first | (rw [show iand .i64 (y.l : Int) ((2 ^ b : Nat) : Int) = (v : Int) from ha, bne_iff_ne]; omega) | skip)
structure LedOk (s : Sn) (b : Nat) (X : Sta) : Prop where
  v : vld s X
  w : worthZ s X ≠ -1
  b : X.l.testBit b = true
def incW (s : Sn) (X : Sta) (t : Int × Int) : Nat := if (X.p : Int) = s.bed ∧ t.1 = s.bed then 1 else 0
def nxtS (s : Sn) (b : Nat) (X : Sta) (t : Int × Int) : Sta := ((afterS s X t).find? (bitP b)).getD default
def ledR (s : Sn) (b : Nat) : Nat → Sta → Nat
  | 0, _ => 0
  | n + 1, X => match ruleS s X with
    | none => 0
    | some t => incW s X t + ledR s b n (nxtS s b X t)
theorem led_step {s : Sn} (ok : SnOk s) {b : Nat} {X : Sta} (h : LedOk s b X) : (ruleS s X = none ∧ (X.p : Int) = s.home ∧ worthZ s X = 0) ∨
    ∃ t i, ruleS s X = some t ∧ afterS s X t ≠ [] ∧ i < (afterS s X t).length ∧ idxR (bitP b) (afterS s X t) = i ∧ (afterS s X t).find? (bitP b) = some ((afterS s X t).getD i default) ∧ LedOk s b ((afterS s X t).getD i default) ∧ worthZ s X ≤ incW s X t + worthZ s ((afterS s X t).getD i default) := by
  have hge := worthZ_ge s X
  have hsf := worthZ_safe ok h.v.2.1 h.w
  have he := worthZ_eq ok h.v.2.1
  obtain ⟨-, -, h3⟩ := bestZ_step (f := worthZ s) hsf
  by_cases hh : worthZ s X = homeZ s X
  · left
    have : (X.p : Int) = s.home := by
      refine Classical.byContradiction fun hn => h.w ?_
      rw [hh]; exact if_neg hn
    refine ⟨if_pos (.inr hh), this, ?_⟩
    rw [hh]; exact if_pos this
  · right
    rcases h3 with h3 | ⟨t, ht, h3⟩
    · exact absurd (he.trans h3) hh
    · have hr : ruleS s X = (stepsS s X).find? fun t => gainZ s (worthZ s) X t == worthZ s X := if_neg (fun hn => by rcases hn with hn | hn; exact h.w hn; exact hh hn)
      cases hf : (stepsS s X).find? fun t => gainZ s (worthZ s) X t == worthZ s X with
      | none =>
        have := List.find?_eq_none.1 hf t (stepsS_mem.2 ht)
        rw [← h3, ← he] at this
        simp at this
      | some t' =>
        have hg := List.find?_some hf
        rw [beq_iff_eq] at hg
        have hne := stepsS_mem.1 (List.mem_of_find?_eq_some hf)
        have AO := aft_ok ok h.v.2.2 hne
        rcases idx_find (p := bitP b) default (afterS s X t') with ⟨hn, -⟩ | ⟨i, hi1, hi2, hi3⟩
        · exfalso
          have hb : (orK (afterS s X t') (afterS s X t').length).testBit b = true := by rw [AO.all]; exact h.b
          obtain ⟨k, hk, hkb⟩ := orK_bit.1 hb
          have := List.find?_eq_none.1 hn _ (getD_mem (d := default) hk)
          exact this hkb
        · have hmem := getD_mem (d := (default : Sta)) hi1
          obtain ⟨-, hmin⟩ := minL_mem (f := worthZ s) hne
          have h1 := hmin _ hmem
          have h2 := worthZ_ge s ((afterS s X t').getD i default)
          have hmw : minL (worthZ s) (afterS s X t') ≠ -1 := fun e => by
            unfold gainZ at hg
            dsimp only at hg
            rw [e, if_neg (fun hn => hn.1 rfl)] at hg
            exact h.w hg.symm
          obtain ⟨⟨y1, hy1, e1⟩, -⟩ := minL_mem (f := worthZ s) hne
          have h4 := worthZ_ge s y1
          rw [← e1] at h4
          refine ⟨t', i, by rw [hr]; exact hf, hne, hi1, hi2, hi3, ⟨afterS_vld ok hmem, by omega, show bitP b _ = true from List.find?_some hi3⟩, ?_⟩
          rw [← hg]
          unfold gainZ incW
          dsimp only
          by_cases hc : (X.p : Int) = s.bed ∧ t'.1 = s.bed
          · rw [if_pos ⟨hmw, hc⟩, if_pos hc]; omega
          · rw [if_neg (fun hn => hc hn.2), if_neg hc]; omega
theorem led_ge {s : Sn} (ok : SnOk s) {b : Nat} : ∀ (n : Nat) (X : Sta), LedOk s b X → s.last - X.m < n → worthZ s X ≤ ledR s b n X
  | 0, X, h, hn => by have := h.v.2.1; omega
  | n + 1, X, h, hn => by
    rw [ledR]
    rcases led_step ok h with ⟨h1, h2, h3⟩ | ⟨t, i, h1, h2, h3, -, h4, h5, h6⟩
    · rw [h1, h3]; exact Int.le_refl _
    · rw [h1]
      dsimp only
      have e : nxtS s b X t = (afterS s X t).getD i default := by unfold nxtS; rw [h4]; rfl
      rw [e]
      have hl := afterS_later ok (getD_mem (d := (default : Sta)) h3)
      have := led_ge ok n _ h5 (by omega)
      rw [Int.natCast_add]
      omega
set_option maxHeartbeats 8000000 in
theorem led_c (s : Sn) (hb : SnB s) (ok : SnOk s) (x : Sta) (b : Nat) (hx : LedOk s b x) : Comp Try.prog 53 [snA s, staA x, natA (2 ^ b)] (.tup [natA (ledR s b (s.last.toNat + 2) x), .bool true]) := by
  have l1 := ok.l1; have l2 := ok.l2; have p2 := ok.p2; have t2 := ok.t2; have k1 := ok.k1
  have hal := allN_lt ok
  have hb4 : b < 4 := by have := all_sub hx.v.2.2 b hx.b; omega
  have hpw : 2 ^ b ≤ 2 ^ 4 := Nat.pow_le_pow_right (by omega) (by omega)
  obtain ⟨M, hM⟩ : ∃ M : Nat, M = s.last.toNat + 2 := ⟨_, rfl⟩
  rw [← hM]
  obtain ⟨W, hW⟩ : ∃ W : Nat, W = ledR s b M x := ⟨_, rfl⟩
  rw [← hW]
  refine Comp.body (T := tab) (res := [.tmp 6, .tmp 7]) tab_ok [4] Try.func53 rfl (by kernel_rfl) Try.ntmps53 rfl (by simp only [List.length_cons, List.length_nil]; decide) (by simp only [lowL, AV.low, snL, staL]; rfl) ?_; conv => whnf
  repeat' first | ((with_reducible refine XInt.i64 (by omega) (by omega) ?_); conv => whnf) | fail
  refine Walk.loopGK tab_ok [] [(3, _), (4, _), (5, _), (16, _)] ⟨rfl, rfl, rfl, rfl, trivial⟩ (fun g : Nat × Sta × Nat => g.1 ≤ M ∧ LedOk s b g.2.1 ∧ (g.1 : Int) ≤ g.2.1.m ∧ g.2.2 + ledR s b (M - g.1) g.2.1 = W ∧ g.2.2 ≤ g.1) (fun g => [(8, natA g.2.2), (17, natA g.1)]) (fun g => [.cells (stC g.2.1)]) (fun g => M - g.1) (0, x, 0) ⟨Nat.zero_le _, hx, by dsimp only; omega, by dsimp only; rw [hW, Nat.zero_add, Nat.sub_zero], Nat.le_refl _⟩ rfl ⟨rfl, rfl, trivial⟩ ?_ (fun _ _ => (show (1 : Nat) ≤ 1 from Nat.le_refl 1)) ?_
  · intro g _
    refine ⟨fun z hz => ?_, fun z hz => ?_⟩
    · simp only [List.mem_cons, List.not_mem_nil, or_false] at hz
      subst hz; rfl
    · simp only [List.cons_append, List.nil_append, List.mem_cons, List.not_mem_nil, or_false] at hz
      rcases hz with rfl | rfl | rfl | rfl | rfl | rfl <;> first | rfl | exact snCL s
  rintro ⟨k, X, wk⟩ ⟨hk, hX, hkm, hwk, hwl⟩
  dsimp only at hk hX hkm hwk hwl ⊢
  have hm := hX.v.2.1
  have hxp := hX.v.1
  have hxl := hX.v.2.2
  have hkM : k < M := by omega
  obtain ⟨n, hn⟩ : ∃ n, M - k = n + 1 := ⟨M - k - 1, by omega⟩
  rw [hn, ledR] at hwk
  have hXl : X.l ≠ 0 := fun e => by have := hX.b; rw [e, Nat.zero_testBit] at this; cases this
  have hstt := vld_stt ok ⟨hX.v, hXl⟩
  have hru := fRule_ok s hb X.p X.m X.l hstt
  rw [st_eta] at hru
  have hdr := lawDry_c s hb ok X.p X.m (by omega)
  have hsf := safeB_iff.1 (worthZ_safe ok hm hX.w)
  have hdl := drN_lt ok X.p X.m
  have hi1 : iand .i64 (drN s X.p X.m : Int) (X.l : Int) = X.l := by
    rw [iand_nat (by omega) (by omega), Nat.and_comm, subAnd fun i hi => by
      rw [drN_bit, Bool.and_eq_true, decide_eq_true_eq]; exact hsf.2 i hi]
  have hi2 : iand .i64 (X.l : Int) ((2 ^ b : Nat) : Int) ≠ 0 := by
    rw [iand_nat (by omega) (by omega)]
    have := bit_pos hX.b
    omega
  generalize drN s X.p X.m = D at hdr hi1
  conv => whnf
  rcases led_step ok hX with ⟨h1, h2, h3⟩ | ⟨t, i, h1, h2, h3, h4, h5, h6, h7⟩
  · rw [h1] at hru hwk
    have hru' : Comp Try.prog 119 [snA s, xA X.p X.m X.l] (.tup [sgA (0, 0), .int .i64 6]) := hru
    dsimp only at hwk
    rw [Nat.add_zero] at hwk
    subst hwk
    repeat' first | ((with_reducible apply XBr.dec) <;> (intro h; first | (exfalso; omega) | ((try simp only [List.length_map] at h); first | (exfalso; omega) | (conv => whnf)))) | ((with_reducible apply XBr.beq) <;> (intro h; first | (exfalso; omega) | (conv => whnf))) | ((with_reducible apply XBr.bne) <;> (intro h; first | (exfalso; omega) | (conv => whnf))) | (with_reducible apply XAnd.mk) | ((first | (with_reducible apply Chk.go) | (with_reducible apply ChkA.go) | (with_reducible apply ChkF.go) | (with_reducible apply ChkB.go)); conv => whnf) | (exact XSame.mk rfl rfl) | (with_reducible exact trivial) | (apply Walk.drawN (id := 4) tab_ok mixed_ok [4] [] (hsU _) [_, _, _, _, _, _, _, _, _, _, _, _, _, _, _, _, _, _, _] (by kernel_rfl) rfl) | (apply Walk.drawN (id := 8) tab_ok mixed_ok [4] [] (hsU _) [_, _, _, _, _, _, _, _] (by kernel_rfl) rfl) | ((first | (with_reducible apply XNext.mk) | (refine XCall.ret hdr ?_) | (refine XCall.ret hru' ?_)); conv => whnf) | fail
    rw [show ((X.p : Int) == s.home) = true from beq_iff_eq.2 h2]
    exact ⟨.low rfl⟩
  · rw [h1] at hru hwk
    have hru' : Comp Try.prog 119 [snA s, xA X.p X.m X.l] (.tup [sgA t, .int .i64 0]) := hru
    dsimp only at hwk
    have e : nxtS s b X t = (afterS s X t).getD i default := by unfold nxtS; rw [h5]; rfl
    rw [e] at hwk
    obtain ⟨y0, hy0⟩ := List.exists_mem_of_ne_nil _ h2
    obtain ⟨a1, a2, a3, a4, a5, a6⟩ := afterS_mem hy0
    have hw4 := waysL_pos ok a4
    have haf := fAfter_ok s hb X.p X.m X.l t hstt (by omega) (by omega)
    rw [st_eta, if_neg h2] at haf
    have hAl := afterS_len s X t
    have hvl := fun y' (h : y' ∈ afterS s X t) => afterS_vld ok h
    have hla := afterS_later ok (getD_mem (d := (default : Sta)) h3)
    have hvi := h6.v
    have hv1 := hvi.1
    have hv2 := hvi.2.1
    have hix := idxf_sta (afterS s X t).isEmpty (afterS s X t) 120 [.pim [natA (2 ^ b)]] (bitP b) rfl (by omega) fun y' hy' => led1_c b hb4 y' (by have := (hvl y' hy').2.2; omega)
    rw [h4] at hix
    generalize afterS s X t = A at *
    by_cases hc : (X.p : Int) = s.bed ∧ t.1 = s.bed
    · rw [incW, if_pos hc] at hwk
      have hc1 := hc.1
      have hc2 := hc.2
      repeat' first | ((with_reducible apply XBr.tt); conv => whnf) | ((with_reducible apply XBr.dec) <;> (intro h; first | (exfalso; omega) | ((try simp only [List.length_map] at h); first | (exfalso; omega) | (conv => whnf)))) | ((with_reducible apply XBr.beq) <;> (intro h; first | (exfalso; omega) | (conv => whnf))) | ((with_reducible apply XBr.bne) <;> (intro h; first | (exfalso; omega) | (conv => whnf))) | ((first | (with_reducible refine XInt.i64 (by omega) (by omega) ?_) | ((with_reducible refine XIx.nat ?_ ?_ ?_); omega; (intro _; rfl))); conv => whnf) | (with_reducible apply XAnd.mk) | ((first | (with_reducible apply Chk.go) | (with_reducible apply ChkA.go) | (with_reducible apply ChkF.go) | (with_reducible apply ChkB.go)); conv => whnf) | (exact XSame.mk rfl rfl) | (with_reducible exact trivial) | (apply Walk.drawN (id := 4) tab_ok mixed_ok [4] [] (hsU _) [_, _, _, _, _, _, _, _, _, _, _, _, _, _, _, _, _, _, _] (by kernel_rfl) rfl) | (apply Walk.drawN (id := 11) tab_ok mixed_ok [4] [] (hsU _) [_, _, _, _, _, _, _, _, _, _, _, _, _, _, _, _, _, _, _, _, _, _, _, _, _, _, _, _, _, _, _, _, _, _, _, _, _, _, _, _, _, _, _, _, _, _, _, _] (by kernel_rfl) rfl) | ((first | (with_reducible apply XNext.mk) | (refine XCall.ret hdr ?_) | (refine XCall.ret hru' ?_) | (refine XCall.ret haf ?_) | (refine XCall.ret hix ?_)); conv => whnf) | fail
      all_goals first | exact XAgainG.go (k + 1, A.getD i default, wk + 1) [.cells (sgA t).cells] ⟨by dsimp only; omega, h6, by dsimp only; omega, by dsimp only; rw [show M - (k + 1) = n by omega]; omega, by dsimp only; omega⟩ (by dsimp only; omega) rfl ⟨rfl, rfl, rfl, rfl, rfl, rfl, trivial⟩ | (exfalso; omega)
    · rw [incW, if_neg hc, Nat.zero_add] at hwk
      repeat' first | ((first | (with_reducible apply XBr.tt) | (with_reducible apply XBr.ff)); conv => whnf) | ((with_reducible apply XBr.dec) <;> (intro h; first | (exfalso; omega) | ((try simp only [List.length_map] at h); first | (exfalso; omega) | (conv => whnf)))) | ((with_reducible apply XBr.beq) <;> (intro h; first | (exfalso; omega) | (conv => whnf))) | ((with_reducible apply XBr.bne) <;> (intro h; first | (exfalso; omega) | (conv => whnf))) | ((first | (with_reducible refine XInt.i64 (by omega) (by omega) ?_) | ((with_reducible refine XIx.nat ?_ ?_ ?_); omega; (intro _; rfl))); conv => whnf) | (with_reducible apply XAnd.mk) | ((first | (with_reducible apply Chk.go) | (with_reducible apply ChkA.go) | (with_reducible apply ChkF.go) | (with_reducible apply ChkB.go)); conv => whnf) | (exact XSame.mk rfl rfl) | (with_reducible exact trivial) | (apply Walk.drawN (id := 4) tab_ok mixed_ok [4] [] (hsU _) [_, _, _, _, _, _, _, _, _, _, _, _, _, _, _, _, _, _, _] (by kernel_rfl) rfl) | (apply Walk.drawN (id := 11) tab_ok mixed_ok [4] [] (hsU _) [_, _, _, _, _, _, _, _, _, _, _, _, _, _, _, _, _, _, _, _, _, _, _, _, _, _, _, _, _, _, _, _, _, _, _, _, _, _, _, _, _, _, _, _, _, _, _, _] (by kernel_rfl) rfl) | ((first | (with_reducible apply XNext.mk) | (refine XCall.ret hdr ?_) | (refine XCall.ret hru' ?_) | (refine XCall.ret haf ?_) | (refine XCall.ret hix ?_)); conv => whnf) | fail
      all_goals first | exact XAgainG.go (k + 1, A.getD i default, wk) [.cells (sgA t).cells] ⟨by dsimp only; omega, h6, by dsimp only; omega, by dsimp only; rw [show M - (k + 1) = n by omega]; omega, by dsimp only; omega⟩ (by dsimp only; omega) rfl ⟨rfl, rfl, rfl, rfl, rfl, rfl, trivial⟩ | (exfalso; omega)
end GA
end

section
namespace GA
open Go Go.RowKit Go.Proofs
set_option pp.deepTerms true
set_option maxRecDepth 8000
set_option linter.unusedVariables false
set_option linter.unusedSimpArgs false

def ruleA (g : FuncId) (nt : Bool) (T : List Rs) : AV := .agg [.fn g [.pim [.sl nt (T.map rsT)]]]
theorem ruleL {n : Nat} (g : FuncId) (nt : Bool) (T : List Rs) : (ruleA g nt T).low n = true := by
  unfold ruleA; simp only [lowL, AV.low, lowRs]; rfl
theorem hold1_c (s : Sn) (nt : Bool) (T : List Rs) (h : TbOk s T) (y : Sta) (hy : vld s y) (b : Int) : Comp Try.prog 116 [staA y, .int .i64 b, .pim [.sl nt (T.map rsT)]] (.bool (decide (tbN T y ≤ b))) := by
  obtain ⟨h1, h2, h3, h4, h5⟩ := h.at hy
  have e1 : ((T.map rsT).length : Int) = T.length := by rw [List.length_map]
  have e2 : (((T.getD y.p default).2.map rwA).length : Int) = (T.getD y.p default).2.length := by rw [List.length_map]
  have e3 : ((ints ((T.getD y.p default).2.getD y.m default).2).length : Int) = ((T.getD y.p default).2.getD y.m default).2.length := by rw [ints_len]
  refine Comp.body (T := tab) (res := [.tmp 5]) tab_ok [] Try.func116 rfl (by kernel_rfl) Try.ntmps116 rfl (by simp only [List.length_cons, List.length_nil]; decide) (by simp only [lowL, AV.low, staL, lowRs]; rfl) ?_; conv => whnf
  repeat' first | (((with_reducible refine XIx.nat ?_ ?_ ?_); omega; (intro _; rfl)); conv => whnf) | (with_reducible apply XAnd.mk) | ((first | (with_reducible apply Chk.go) | (with_reducible apply ChkA.go) | (with_reducible apply ChkF.go) | (with_reducible apply ChkB.go)); conv => whnf) | (exact XSame.mk rfl rfl) | (with_reducible exact trivial) | (apply Walk.drawN (id := 1) tab_ok mixed_ok [] [] (hsU _) [_, _, _, _, _, _, _, _, _, _, _, _, _, _, _, _] (by kernel_rfl) rfl) | ((with_reducible apply XNext.mk); conv => whnf) | fail
  exact XOut.bool rfl
theorem kept_hold (s : Sn) (ok : SnOk s) (nt : Bool) (T : List Rs) (hT : TbOk s T) (B : Bool) (hB : B = true ↔ ∀ y, vld s y → tbN T y ≤ bestZ s (tbN T) y) :
    Comp Try.prog 115 [dskFA s, .sl nt (T.map rsT), ruleA 116 nt T] (.bool B) := by
  have p1 := ok.p1; have p2 := ok.p2; have l1 := ok.l1; have l2 := ok.l2
  have hal := allN_lt ok
  have hac := fall_c s ok
  obtain ⟨P0, hP0⟩ : ∃ P0 : Nat, s.places = P0 := ⟨s.places.toNat, by omega⟩
  obtain ⟨L0, hL0⟩ : ∃ L0 : Nat, s.last = L0 := ⟨s.last.toNat, by omega⟩
  refine Comp.body (T := tab) (res := [.tmp 6]) tab_ok [] Try.func115 rfl (by kernel_rfl) Try.ntmps115 rfl (by simp only [List.length_cons, List.length_nil]; decide) (by simp only [lowL, AV.low, dskFL, lowRs, ruleL]; rfl) ?_; conv => whnf
  skip
  refine Walk.loopK tab_ok [] [(0, _), (5, _), (7, _), (17, _)] ⟨rfl, rfl, rfl, rfl, trivial⟩ (fun p : Nat => p ≤ P0 ∧ ∀ y : Sta, vld s y → y.p < p → tbN T y ≤ bestZ s (tbN T) y) (fun p => [(18, natA p)]) (fun _ => []) (fun p => P0 - p) 0 ⟨Nat.zero_le _, fun y hy h => by omega⟩ rfl ⟨rfl, trivial⟩ ?_
  rintro p ⟨hp, hI⟩
  conv => whnf
  by_cases hlt : p < P0
  · skip
    repeat' first | ((with_reducible apply XBr.dec) <;> (intro h; first | (exfalso; omega) | ((try simp only [List.length_map] at h); first | (exfalso; omega) | (conv => whnf)))) | ((with_reducible refine XInt.i64 (by omega) (by omega) ?_); conv => whnf) | fail
    refine Walk.loopK tab_ok [] [(0, _), (5, _), (7, _), (8, _), (17, _), (18, _), (26, _)] ⟨rfl, rfl, rfl, rfl, rfl, rfl, rfl, trivial⟩ (fun m : Nat => m ≤ L0 + 1 ∧ ∀ y : Sta, vld s y → y.p < p ∨ (y.p = p ∧ y.m < m) → tbN T y ≤ bestZ s (tbN T) y) (fun m => [(27, natA m)]) (fun _ => []) (fun m => L0 + 1 - m) 0 ⟨Nat.zero_le _, fun y hy h => hI y hy (by omega)⟩ rfl ⟨rfl, trivial⟩ ?_
    rintro m ⟨hm, hI⟩
    conv => whnf
    by_cases hlt2 : m < L0 + 1
    · skip
      repeat' first | ((with_reducible apply XBr.dec) <;> (intro h; first | (exfalso; omega) | ((try simp only [List.length_map] at h); first | (exfalso; omega) | (conv => whnf)))) | ((first | (with_reducible refine XInt.i64 (by omega) (by omega) ?_) | (refine XCall.ret hac ?_)); conv => whnf) | fail
      refine Walk.loopGK tab_ok [] [(0, _), (5, _), (7, _), (8, _), (9, _), (17, _), (18, _), (26, _), (27, _), (32, _)] ⟨rfl, rfl, rfl, rfl, rfl, rfl, rfl, rfl, rfl, rfl, trivial⟩ (fun l : Nat => l ≤ allN s + 1 ∧ ∀ y : Sta, vld s y → y.p < p ∨ (y.p = p ∧ (y.m < m ∨ (y.m = m ∧ y.l < l))) → tbN T y ≤ bestZ s (tbN T) y) (fun l => [(33, natA l)]) (fun _ => []) (fun l => allN s + 1 - l) 0 ⟨Nat.zero_le _, fun y hy h => hI y hy (by omega)⟩ rfl ⟨rfl, trivial⟩ ?_ (fun _ _ => (show (0 : Nat) ≤ 0 from Nat.le_refl 0)) ?_
      · intro k _
        refine ⟨by simp, fun z hz => ?_⟩
        simp only [List.cons_append, List.nil_append, List.mem_cons, List.not_mem_nil, or_false] at hz
        rcases hz with rfl | rfl | rfl | rfl | rfl | rfl | rfl | rfl | rfl | rfl | rfl <;> first | rfl | exact dskFL s | (simp only [lowL, AV.low, lowRs]; rfl)
      rintro l ⟨hl, hI⟩
      conv => whnf
      by_cases hlt3 : l < allN s + 1
      · have hv : vld s ⟨p, m, l⟩ := ⟨by show (p : Int) < s.places; omega, by show (m : Int) ≤ s.last; omega, by show l ≤ allN s; omega⟩
        have hbe := best_tb nt T s ok (tbN T) ⟨p, m, l⟩ ⟨by show (p : Int) < s.places; omega, by show (m : Int) ≤ s.last; omega, by show l ≤ _; omega⟩ (by simp only [lowL, AV.low, lowRs]; rfl) (fun t y hy => number_c s nt T hT y (afterS_vld ok hy)) (fun t y hy => by have := (hT.at (afterS_vld ok hy)).2.2.2; omega)
        have hst : staA ⟨p, m, l⟩ = .agg [natA p, natA m, natA l] := rfl
        have hru := hold1_c s nt T hT ⟨p, m, l⟩ hv
        rw [hst] at hbe hru
        generalize hbz : bestZ s (tbN T) ⟨p, m, l⟩ = bz at hbe
        have hru := hru bz
        cases hd : (decide (tbN T ⟨p, m, l⟩ ≤ bz)) with
        | true =>
          rw [hd] at hru
          repeat' first | ((with_reducible apply XBr.tt); conv => whnf) | (with_reducible apply XBr.not) | ((with_reducible apply XBr.dec) <;> (intro h; first | (exfalso; omega) | ((try simp only [List.length_map] at h); first | (exfalso; omega) | (conv => whnf)))) | ((with_reducible refine XInt.i64 (by omega) (by omega) ?_); conv => whnf) | (with_reducible apply XAnd.mk) | ((first | (with_reducible apply Chk.go) | (with_reducible apply ChkA.go) | (with_reducible apply ChkF.go) | (with_reducible apply ChkB.go)); conv => whnf) | (exact XSame.mk rfl rfl) | (with_reducible exact trivial) | (apply Walk.drawN (id := 12) tab_ok mixed_ok [] [] (hsU _) [_, _, _, _, _, _, _, _, _] (by kernel_rfl) rfl) | ((first | (with_reducible apply XNext.mk) | (refine XCall.ret hbe ?_) | (refine XCall.ret hru ?_)); conv => whnf) | fail
          refine XAgainG.go (l + 1) [.cells [natA p, natA m, natA l]] ⟨by omega, fun y hy h => ?_⟩ (by omega) rfl ⟨rfl, rfl, rfl, rfl, rfl, rfl, rfl, rfl, rfl, rfl, rfl, trivial⟩
          by_cases e : y = ⟨p, m, l⟩
          · subst e; rw [hbz]; exact of_decide_eq_true hd
          · refine hI y hy ?_
            have : ¬ (y.p = p ∧ y.m = m ∧ y.l = l) := fun ⟨a, b, c⟩ => e (by cases y; simp_all)
            omega
        | false =>
          rw [hd] at hru
          have hBf : B = false := by
            rw [← Bool.not_eq_true, hB]
            intro h'
            have := h' _ hv
            rw [hbz] at this
            exact absurd (decide_eq_true this) (by rw [hd]; simp)
          repeat' first | ((with_reducible apply XBr.ff); conv => whnf) | (with_reducible apply XBr.not) | ((with_reducible apply XBr.dec) <;> (intro h; first | (exfalso; omega) | ((try simp only [List.length_map] at h); first | (exfalso; omega) | (conv => whnf)))) | (with_reducible apply XAnd.mk) | ((first | (with_reducible apply Chk.go) | (with_reducible apply ChkA.go) | (with_reducible apply ChkF.go) | (with_reducible apply ChkB.go)); conv => whnf) | (exact XSame.mk rfl rfl) | (with_reducible exact trivial) | (apply Walk.drawN (id := 12) tab_ok mixed_ok [] [] (hsU _) [_, _, _, _, _, _, _, _, _] (by kernel_rfl) rfl) | ((first | (with_reducible apply XNext.mk) | (refine XCall.ret hbe ?_) | (refine XCall.ret hru ?_)); conv => whnf) | fail
          exact XOut.bool hBf.symm
      obtain rfl : l = allN s + 1 := by omega
      repeat' first | ((with_reducible apply XBr.dec) <;> (intro h; first | (exfalso; omega) | ((try simp only [List.length_map] at h); first | (exfalso; omega) | (conv => whnf)))) | ((with_reducible refine XInt.i64 (by omega) (by omega) ?_); conv => whnf) | fail
      refine XAgain.go (m + 1) ⟨by omega, fun y hy h => hI y hy ?_⟩ (by omega) rfl ⟨rfl, rfl, rfl, rfl, rfl, rfl, rfl, rfl, trivial⟩
      have := hy.2.2
      omega
    obtain rfl : m = L0 + 1 := by omega
    repeat' first | ((with_reducible apply XBr.dec) <;> (intro h; first | (exfalso; omega) | ((try simp only [List.length_map] at h); first | (exfalso; omega) | (conv => whnf)))) | ((with_reducible refine XInt.i64 (by omega) (by omega) ?_); conv => whnf) | fail
    refine XAgain.go (p + 1) ⟨by omega, fun y hy h => hI y hy ?_⟩ (by omega) rfl ⟨rfl, rfl, rfl, rfl, rfl, trivial⟩
    have := hy.2.1
    omega
  obtain rfl : p = P0 := by omega
  have hBt : B = true := hB.2 fun y hy => hI y hy (by have := hy.1; omega)
  repeat' first | ((with_reducible apply XBr.dec) <;> (intro h; first | (exfalso; omega) | ((try simp only [List.length_map] at h); first | (exfalso; omega) | (conv => whnf)))) | fail
  exact XOut.bool hBt.symm
theorem clos1_c (s : Sn) (nt : Bool) (T : List Rs) (h : TbOk s T) (y : Sta) (hy : vld s y) (b : Int) : Comp Try.prog 117 [staA y, .int .i64 b, .pim [.sl nt (T.map rsT)]] (.bool (decide (tbN T y ≥ b))) := by
  obtain ⟨h1, h2, h3, h4, h5⟩ := h.at hy
  have e1 : ((T.map rsT).length : Int) = T.length := by rw [List.length_map]
  have e2 : (((T.getD y.p default).2.map rwA).length : Int) = (T.getD y.p default).2.length := by rw [List.length_map]
  have e3 : ((ints ((T.getD y.p default).2.getD y.m default).2).length : Int) = ((T.getD y.p default).2.getD y.m default).2.length := by rw [ints_len]
  refine Comp.body (T := tab) (res := [.tmp 5]) tab_ok [] Try.func117 rfl (by kernel_rfl) Try.ntmps117 rfl (by simp only [List.length_cons, List.length_nil]; decide) (by simp only [lowL, AV.low, staL, lowRs]; rfl) ?_; conv => whnf
  repeat' first | (((with_reducible refine XIx.nat ?_ ?_ ?_); omega; (intro _; rfl)); conv => whnf) | (with_reducible apply XAnd.mk) | ((first | (with_reducible apply Chk.go) | (with_reducible apply ChkA.go) | (with_reducible apply ChkF.go) | (with_reducible apply ChkB.go)); conv => whnf) | (exact XSame.mk rfl rfl) | (with_reducible exact trivial) | (apply Walk.drawN (id := 1) tab_ok mixed_ok [] [] (hsU _) [_, _, _, _, _, _, _, _, _, _, _, _, _, _, _, _] (by kernel_rfl) rfl) | ((with_reducible apply XNext.mk); conv => whnf) | fail
  exact XOut.bool rfl
theorem kept_clos (s : Sn) (ok : SnOk s) (nt : Bool) (T : List Rs) (hT : TbOk s T) (B : Bool) (hB : B = true ↔ ∀ y, vld s y → tbN T y ≥ bestZ s (tbN T) y) :
    Comp Try.prog 115 [dskFA s, .sl nt (T.map rsT), ruleA 117 nt T] (.bool B) := by
  have p1 := ok.p1; have p2 := ok.p2; have l1 := ok.l1; have l2 := ok.l2
  have hal := allN_lt ok
  have hac := fall_c s ok
  obtain ⟨P0, hP0⟩ : ∃ P0 : Nat, s.places = P0 := ⟨s.places.toNat, by omega⟩
  obtain ⟨L0, hL0⟩ : ∃ L0 : Nat, s.last = L0 := ⟨s.last.toNat, by omega⟩
  refine Comp.body (T := tab) (res := [.tmp 6]) tab_ok [] Try.func115 rfl (by kernel_rfl) Try.ntmps115 rfl (by simp only [List.length_cons, List.length_nil]; decide) (by simp only [lowL, AV.low, dskFL, lowRs, ruleL]; rfl) ?_; conv => whnf
  skip
  refine Walk.loopK tab_ok [] [(0, _), (5, _), (7, _), (17, _)] ⟨rfl, rfl, rfl, rfl, trivial⟩ (fun p : Nat => p ≤ P0 ∧ ∀ y : Sta, vld s y → y.p < p → tbN T y ≥ bestZ s (tbN T) y) (fun p => [(18, natA p)]) (fun _ => []) (fun p => P0 - p) 0 ⟨Nat.zero_le _, fun y hy h => by omega⟩ rfl ⟨rfl, trivial⟩ ?_
  rintro p ⟨hp, hI⟩
  conv => whnf
  by_cases hlt : p < P0
  · skip
    repeat' first | ((with_reducible apply XBr.dec) <;> (intro h; first | (exfalso; omega) | ((try simp only [List.length_map] at h); first | (exfalso; omega) | (conv => whnf)))) | ((with_reducible refine XInt.i64 (by omega) (by omega) ?_); conv => whnf) | fail
    refine Walk.loopK tab_ok [] [(0, _), (5, _), (7, _), (8, _), (17, _), (18, _), (26, _)] ⟨rfl, rfl, rfl, rfl, rfl, rfl, rfl, trivial⟩ (fun m : Nat => m ≤ L0 + 1 ∧ ∀ y : Sta, vld s y → y.p < p ∨ (y.p = p ∧ y.m < m) → tbN T y ≥ bestZ s (tbN T) y) (fun m => [(27, natA m)]) (fun _ => []) (fun m => L0 + 1 - m) 0 ⟨Nat.zero_le _, fun y hy h => hI y hy (by omega)⟩ rfl ⟨rfl, trivial⟩ ?_
    rintro m ⟨hm, hI⟩
    conv => whnf
    by_cases hlt2 : m < L0 + 1
    · skip
      repeat' first | ((with_reducible apply XBr.dec) <;> (intro h; first | (exfalso; omega) | ((try simp only [List.length_map] at h); first | (exfalso; omega) | (conv => whnf)))) | ((first | (with_reducible refine XInt.i64 (by omega) (by omega) ?_) | (refine XCall.ret hac ?_)); conv => whnf) | fail
      refine Walk.loopGK tab_ok [] [(0, _), (5, _), (7, _), (8, _), (9, _), (17, _), (18, _), (26, _), (27, _), (32, _)] ⟨rfl, rfl, rfl, rfl, rfl, rfl, rfl, rfl, rfl, rfl, trivial⟩ (fun l : Nat => l ≤ allN s + 1 ∧ ∀ y : Sta, vld s y → y.p < p ∨ (y.p = p ∧ (y.m < m ∨ (y.m = m ∧ y.l < l))) → tbN T y ≥ bestZ s (tbN T) y) (fun l => [(33, natA l)]) (fun _ => []) (fun l => allN s + 1 - l) 0 ⟨Nat.zero_le _, fun y hy h => hI y hy (by omega)⟩ rfl ⟨rfl, trivial⟩ ?_ (fun _ _ => (show (0 : Nat) ≤ 0 from Nat.le_refl 0)) ?_
      · intro k _
        refine ⟨by simp, fun z hz => ?_⟩
        simp only [List.cons_append, List.nil_append, List.mem_cons, List.not_mem_nil, or_false] at hz
        rcases hz with rfl | rfl | rfl | rfl | rfl | rfl | rfl | rfl | rfl | rfl | rfl <;> first | rfl | exact dskFL s | (simp only [lowL, AV.low, lowRs]; rfl)
      rintro l ⟨hl, hI⟩
      conv => whnf
      by_cases hlt3 : l < allN s + 1
      · have hv : vld s ⟨p, m, l⟩ := ⟨by show (p : Int) < s.places; omega, by show (m : Int) ≤ s.last; omega, by show l ≤ allN s; omega⟩
        have hbe := best_tb nt T s ok (tbN T) ⟨p, m, l⟩ ⟨by show (p : Int) < s.places; omega, by show (m : Int) ≤ s.last; omega, by show l ≤ _; omega⟩ (by simp only [lowL, AV.low, lowRs]; rfl) (fun t y hy => number_c s nt T hT y (afterS_vld ok hy)) (fun t y hy => by have := (hT.at (afterS_vld ok hy)).2.2.2; omega)
        have hst : staA ⟨p, m, l⟩ = .agg [natA p, natA m, natA l] := rfl
        have hru := clos1_c s nt T hT ⟨p, m, l⟩ hv
        rw [hst] at hbe hru
        generalize hbz : bestZ s (tbN T) ⟨p, m, l⟩ = bz at hbe
        have hru := hru bz
        cases hd : (decide (tbN T ⟨p, m, l⟩ ≥ bz)) with
        | true =>
          rw [hd] at hru
          repeat' first | ((with_reducible apply XBr.tt); conv => whnf) | (with_reducible apply XBr.not) | ((with_reducible apply XBr.dec) <;> (intro h; first | (exfalso; omega) | ((try simp only [List.length_map] at h); first | (exfalso; omega) | (conv => whnf)))) | ((with_reducible refine XInt.i64 (by omega) (by omega) ?_); conv => whnf) | (with_reducible apply XAnd.mk) | ((first | (with_reducible apply Chk.go) | (with_reducible apply ChkA.go) | (with_reducible apply ChkF.go) | (with_reducible apply ChkB.go)); conv => whnf) | (exact XSame.mk rfl rfl) | (with_reducible exact trivial) | (apply Walk.drawN (id := 12) tab_ok mixed_ok [] [] (hsU _) [_, _, _, _, _, _, _, _, _] (by kernel_rfl) rfl) | ((first | (with_reducible apply XNext.mk) | (refine XCall.ret hbe ?_) | (refine XCall.ret hru ?_)); conv => whnf) | fail
          refine XAgainG.go (l + 1) [.cells [natA p, natA m, natA l]] ⟨by omega, fun y hy h => ?_⟩ (by omega) rfl ⟨rfl, rfl, rfl, rfl, rfl, rfl, rfl, rfl, rfl, rfl, rfl, trivial⟩
          by_cases e : y = ⟨p, m, l⟩
          · subst e; rw [hbz]; exact of_decide_eq_true hd
          · refine hI y hy ?_
            have : ¬ (y.p = p ∧ y.m = m ∧ y.l = l) := fun ⟨a, b, c⟩ => e (by cases y; simp_all)
            omega
        | false =>
          rw [hd] at hru
          have hBf : B = false := by
            rw [← Bool.not_eq_true, hB]
            intro h'
            have := h' _ hv
            rw [hbz] at this
            exact absurd (decide_eq_true this) (by rw [hd]; simp)
          repeat' first | ((with_reducible apply XBr.ff); conv => whnf) | (with_reducible apply XBr.not) | ((with_reducible apply XBr.dec) <;> (intro h; first | (exfalso; omega) | ((try simp only [List.length_map] at h); first | (exfalso; omega) | (conv => whnf)))) | (with_reducible apply XAnd.mk) | ((first | (with_reducible apply Chk.go) | (with_reducible apply ChkA.go) | (with_reducible apply ChkF.go) | (with_reducible apply ChkB.go)); conv => whnf) | (exact XSame.mk rfl rfl) | (with_reducible exact trivial) | (apply Walk.drawN (id := 12) tab_ok mixed_ok [] [] (hsU _) [_, _, _, _, _, _, _, _, _] (by kernel_rfl) rfl) | ((first | (with_reducible apply XNext.mk) | (refine XCall.ret hbe ?_) | (refine XCall.ret hru ?_)); conv => whnf) | fail
          exact XOut.bool hBf.symm
      obtain rfl : l = allN s + 1 := by omega
      repeat' first | ((with_reducible apply XBr.dec) <;> (intro h; first | (exfalso; omega) | ((try simp only [List.length_map] at h); first | (exfalso; omega) | (conv => whnf)))) | ((with_reducible refine XInt.i64 (by omega) (by omega) ?_); conv => whnf) | fail
      refine XAgain.go (m + 1) ⟨by omega, fun y hy h => hI y hy ?_⟩ (by omega) rfl ⟨rfl, rfl, rfl, rfl, rfl, rfl, rfl, rfl, trivial⟩
      have := hy.2.2
      omega
    obtain rfl : m = L0 + 1 := by omega
    repeat' first | ((with_reducible apply XBr.dec) <;> (intro h; first | (exfalso; omega) | ((try simp only [List.length_map] at h); first | (exfalso; omega) | (conv => whnf)))) | ((with_reducible refine XInt.i64 (by omega) (by omega) ?_); conv => whnf) | fail
    refine XAgain.go (p + 1) ⟨by omega, fun y hy h => hI y hy ?_⟩ (by omega) rfl ⟨rfl, rfl, rfl, rfl, rfl, trivial⟩
    have := hy.2.1
    omega
  obtain rfl : p = P0 := by omega
  have hBt : B = true := hB.2 fun y hy => hI y hy (by have := hy.1; omega)
  repeat' first | ((with_reducible apply XBr.dec) <;> (intro h; first | (exfalso; omega) | ((try simp only [List.length_map] at h); first | (exfalso; omega) | (conv => whnf)))) | fail
  exact XOut.bool hBt.symm
theorem fhold_ok (s : Sn) (hb : SnB s) (nt : Bool) (T : List Rs) (hT : TbB T) (h : tabE s T = 0) (B : Bool) (hB : B = true ↔ ∀ y, vld s y → tbN T y ≤ bestZ s (tbN T) y) : Comp Try.prog 47 [snA s, .sl nt (T.map rsT)] (.tup [.bool B, .int .i64 0]) := by
  have ht := tabled_ok s hb nt T hT h
  obtain ⟨ok, hM, hV⟩ := tabE_iff.1 h
  have hk := kept_hold s ok nt T (tab_ok_of hM hV) B hB
  refine Comp.body (T := tab) (res := [.tmp 4, .tmp 5]) tab_ok [] Try.func47 rfl (by kernel_rfl) Try.ntmps47 rfl (by simp only [List.length_cons, List.length_nil]; decide) (by simp only [lowL, AV.low, snL, lowRs]; rfl) ?_; conv => whnf
  repeat' first | ((with_reducible apply XBr.bne) <;> (intro h; first | (exfalso; omega) | (conv => whnf))) | ((first | (refine XCall.ret ht ?_) | (refine XCall.ret hk ?_)); conv => whnf) | fail
  exact ⟨.low rfl⟩
theorem fclos_ok (s : Sn) (hb : SnB s) (nt : Bool) (T : List Rs) (hT : TbB T) (h : tabE s T = 0) (B : Bool) (hB : B = true ↔ ∀ y, vld s y → tbN T y ≥ bestZ s (tbN T) y) : Comp Try.prog 48 [snA s, .sl nt (T.map rsT)] (.tup [.bool B, .int .i64 0]) := by
  have ht := tabled_ok s hb nt T hT h
  obtain ⟨ok, hM, hV⟩ := tabE_iff.1 h
  have hk := kept_clos s ok nt T (tab_ok_of hM hV) B hB
  refine Comp.body (T := tab) (res := [.tmp 4, .tmp 5]) tab_ok [] Try.func48 rfl (by kernel_rfl) Try.ntmps48 rfl (by simp only [List.length_cons, List.length_nil]; decide) (by simp only [lowL, AV.low, snL, lowRs]; rfl) ?_; conv => whnf
  repeat' first | ((with_reducible apply XBr.bne) <;> (intro h; first | (exfalso; omega) | (conv => whnf))) | ((first | (refine XCall.ret ht ?_) | (refine XCall.ret hk ?_)); conv => whnf) | fail
  exact ⟨.low rfl⟩
end GA
end

section
namespace GA
open Go Go.RowKit Go.Proofs
set_option pp.deepTerms true
set_option maxRecDepth 8000
set_option linter.unusedVariables false
set_option linter.unusedSimpArgs false

theorem fstart_c (s : Sn) (ok : SnOk s) (m : Nat) (hm : (m : Int) ≤ s.last) : Comp Try.prog 111 [dskFA s, wsA s, natA m] (.int .i64 (startZ s m)) := by
  have h1 := ok.h1; have hal := allN_lt ok; have l2 := ok.l2
  have hac := fall_c s ok
  obtain ⟨h0, hh0⟩ : ∃ h0 : Nat, s.home = h0 := ⟨s.home.toNat, by omega⟩
  have hpa := fparts_c s ok h0 (allN s) (by omega) (by omega)
  have hle := fun l (h : l ∈ partsL s h0 (allN s)) => partsL_all ok h
  have hlen := partsL_len s h0 (allN s)
  have hsd : startZ s m = (partsL s h0 (allN s)).foldl (fun n l => min n (worthZ s ⟨h0, m, l⟩)) 60 := by unfold startZ; rw [hh0]; rfl
  rw [hsd]
  generalize partsL s h0 (allN s) = L at hpa hle hlen
  have hpa' : Comp Try.prog 98 [dskFA s, .int .i64 s.home, natA (allN s)] (nsA L) := by rw [hh0]; exact hpa
  have e1 : ((L.map natA).length : Int) = L.length := by rw [List.length_map]
  refine Comp.body (T := tab) (res := [.tmp 6]) tab_ok [] Try.func111 rfl (by kernel_rfl) Try.ntmps111 rfl (by simp only [List.length_cons, List.length_nil]; decide) (by simp only [lowL, AV.low, dskFL, worsL, natA]; rfl) ?_; conv => whnf
  repeat' first | ((with_reducible first | apply XBr.tt | apply XBr.ff | apply Chk.go | apply ChkA.go | apply ChkF.go | apply ChkB.go | apply XArr.pim0 | apply XArr.pim1); conv => whnf) | (with_reducible apply XBr.not) | ((with_reducible apply XBr.dec) <;> (intro h; first | (exfalso; omega) | ((try simp only [List.length_map] at h); first | (exfalso; omega) | (conv => whnf)))) | ((with_reducible first | apply XBr.beq | apply XBr.bne) <;> (intro h; first | (exfalso; omega) | (conv => whnf))) | ((with_reducible refine XInt.i64 (by omega) (by omega) ?_); conv => whnf) | ((with_reducible refine XHold.mk ?_ ?_); (first | omega | rfl | decide | exact ⟨rfl, by decide, rfl⟩ | exact wideI _ | exact widePr _ | exact wideSk _ | (unfold Room; constructor <;> ((try simp) <;> omega)) | exact ⟨rfl, by simp only [List.length_map], by unfold Room; constructor <;> ((try simp) <;> omega)⟩ | exact ⟨by omega, by omega, by unfold Room; constructor <;> ((try simp) <;> omega)⟩); conv => whnf) | ((first | ((with_reducible refine XIx.nat ?_ ?_ ?_); omega; (intro _; rfl)) | ((with_reducible refine XIx.map ?_ ?_ ?_ ?_); omega; omega; (intro _; rfl))); conv => whnf) | (with_reducible apply XAnd.mk) | (exact XSame.mk rfl rfl) | (exact XSame.mk (by first | rfl | (simp only [List.map_append, List.length_append, List.length_map]; done) | (simp only [List.map_append, List.length_append, List.length_map]; rfl)) (by first | rfl | (simp only [List.map_append]; done) | (simp only [List.map_append]; rfl))) | (with_reducible exact trivial) | ((first | (with_reducible refine xdrop_app (by rw [List.length_map]; omega) ?_) | (with_reducible refine XDrop.desk (by assumption) ?_) | (with_reducible first | refine XArr.ints (by omega) (by omega) (by omega) ?_ | refine XArr.intsA (by omega) (by omega) (by omega) ?_) | ((with_reducible first | refine XArr.nats ?_ ?_ ?_ | refine XArr.natsA ?_ ?_ ?_ | refine XArr.ptr ?_ ?_ ?_); omega; omega)); conv => whnf) | (apply Walk.drawN (id := 2) tab_ok mixed_ok [] [] (hsU _) [_, _, _, _, _, _, _, _, _, _, _] (by kernel_rfl) rfl) | ((first | (with_reducible apply XNext.mk) | (refine XCall.ret hac ?_) | (refine XCall.ret hpa' ?_)); conv => whnf) | ((with_reducible apply XBr.mk') <;> (intro h; conv => whnf))
  refine Walk.loopK tab_ok [] [(0, _), (1, _), (2, _), (18, _), (19, _)] ⟨rfl, rfl, rfl, rfl, rfl, trivial⟩ (fun k : Nat => k ≤ L.length) (fun k => [(7, .int .i64 ((L.take k).foldl (fun n l => min n (worthZ s ⟨h0, m, l⟩)) 60)), (20, natA k)]) (fun _ => []) (fun k => L.length - k) 0 (Nat.zero_le _) rfl ⟨rfl, rfl, trivial⟩ ?_
  intro k hk
  have hnx : k < L.length → (L.take (k + 1)).foldl (fun n l => min n (worthZ s ⟨h0, m, l⟩)) 60 = min ((L.take k).foldl (fun n l => min n (worthZ s ⟨h0, m, l⟩)) 60) (worthZ s ⟨h0, m, L.getD k default⟩) := fun h => by rw [take_next h, List.foldl_append]; rfl
  have hend : k = L.length → (L.take k).foldl (fun n l => min n (worthZ s ⟨h0, m, l⟩)) 60 = L.foldl (fun n l => min n (worthZ s ⟨h0, m, l⟩)) 60 := fun h => by rw [h, List.take_length]
  generalize (L.take k).foldl (fun n l => min n (worthZ s ⟨h0, m, l⟩)) 60 = v at hnx hend
  conv => whnf
  by_cases hlt : k < L.length
  · have hnx := hnx hlt
    have hof := wof_c s ok ⟨h0, m, L.getD k default⟩ ⟨by show (h0 : Int) < s.places; omega, hm, hle _ (getD_mem hlt)⟩
    have hst : staA ⟨h0, m, L.getD k default⟩ = .agg [.int .i64 s.home, natA m, natA (L.getD k default)] := by rw [hh0]; rfl
    rw [hst] at hof
    generalize worthZ s ⟨h0, m, L.getD k default⟩ = w at hof hnx
    have hls := fleast_c v false [w] (by simp)
    repeat' first | ((with_reducible first | apply XBr.tt | apply XBr.ff | apply Chk.go | apply ChkA.go | apply ChkF.go | apply ChkB.go | apply XArr.pim0 | apply XArr.pim1); conv => whnf) | (with_reducible apply XBr.not) | ((with_reducible apply XBr.dec) <;> (intro h; first | (exfalso; omega) | ((try simp only [List.length_map] at h); first | (exfalso; omega) | (conv => whnf)))) | ((with_reducible first | apply XBr.beq | apply XBr.bne) <;> (intro h; first | (exfalso; omega) | (conv => whnf))) | ((with_reducible refine XInt.i64 (by omega) (by omega) ?_); conv => whnf) | ((with_reducible refine XHold.mk ?_ ?_); (first | omega | rfl | decide | exact ⟨rfl, by decide, rfl⟩ | exact wideI _ | exact widePr _ | exact wideSk _ | (unfold Room; constructor <;> ((try simp) <;> omega)) | exact ⟨rfl, by simp only [List.length_map], by unfold Room; constructor <;> ((try simp) <;> omega)⟩ | exact ⟨by omega, by omega, by unfold Room; constructor <;> ((try simp) <;> omega)⟩); conv => whnf) | ((first | ((with_reducible refine XIx.nat ?_ ?_ ?_); omega; (intro _; rfl)) | ((with_reducible refine XIx.map ?_ ?_ ?_ ?_); omega; omega; (intro _; rfl))); conv => whnf) | (with_reducible apply XAnd.mk) | (exact XSame.mk rfl rfl) | (exact XSame.mk (by first | rfl | (simp only [List.map_append, List.length_append, List.length_map]; done) | (simp only [List.map_append, List.length_append, List.length_map]; rfl)) (by first | rfl | (simp only [List.map_append]; done) | (simp only [List.map_append]; rfl))) | (with_reducible exact trivial) | ((first | (with_reducible refine xdrop_app (by rw [List.length_map]; omega) ?_) | (with_reducible refine XDrop.desk (by assumption) ?_) | (with_reducible first | refine XArr.ints (by omega) (by omega) (by omega) ?_ | refine XArr.intsA (by omega) (by omega) (by omega) ?_) | ((with_reducible first | refine XArr.nats ?_ ?_ ?_ | refine XArr.natsA ?_ ?_ ?_ | refine XArr.ptr ?_ ?_ ?_); omega; omega)); conv => whnf) | (apply Walk.drawN (id := 2) tab_ok mixed_ok [] [] (hsU _) [_, _, _, _, _, _, _, _, _, _, _] (by kernel_rfl) rfl) | ((first | (with_reducible apply XNext.mk) | (refine XCall.ret hof ?_) | (refine XCall.ret hls ?_)); conv => whnf) | ((with_reducible apply XBr.mk') <;> (intro h; conv => whnf))
    exact XAgain.go (k + 1) (by omega) (by omega) rfl ⟨rfl, rfl, rfl, rfl, rfl, (by rw [hnx]; rfl), rfl, trivial⟩
  obtain rfl : k = L.length := by omega
  repeat' first | ((with_reducible first | apply XBr.tt | apply XBr.ff | apply Chk.go | apply ChkA.go | apply ChkF.go | apply ChkB.go | apply XArr.pim0 | apply XArr.pim1); conv => whnf) | (with_reducible apply XBr.not) | ((with_reducible apply XBr.dec) <;> (intro h; first | (exfalso; omega) | ((try simp only [List.length_map] at h); first | (exfalso; omega) | (conv => whnf)))) | ((with_reducible first | apply XBr.beq | apply XBr.bne) <;> (intro h; first | (exfalso; omega) | (conv => whnf))) | ((with_reducible refine XInt.i64 (by omega) (by omega) ?_); conv => whnf) | ((with_reducible refine XHold.mk ?_ ?_); (first | omega | rfl | decide | exact ⟨rfl, by decide, rfl⟩ | exact wideI _ | exact widePr _ | exact wideSk _ | (unfold Room; constructor <;> ((try simp) <;> omega)) | exact ⟨rfl, by simp only [List.length_map], by unfold Room; constructor <;> ((try simp) <;> omega)⟩ | exact ⟨by omega, by omega, by unfold Room; constructor <;> ((try simp) <;> omega)⟩); conv => whnf) | ((first | ((with_reducible refine XIx.nat ?_ ?_ ?_); omega; (intro _; rfl)) | ((with_reducible refine XIx.map ?_ ?_ ?_ ?_); omega; omega; (intro _; rfl))); conv => whnf) | (with_reducible apply XAnd.mk) | (exact XSame.mk rfl rfl) | (exact XSame.mk (by first | rfl | (simp only [List.map_append, List.length_append, List.length_map]; done) | (simp only [List.map_append, List.length_append, List.length_map]; rfl)) (by first | rfl | (simp only [List.map_append]; done) | (simp only [List.map_append]; rfl))) | (with_reducible exact trivial) | ((first | (with_reducible refine xdrop_app (by rw [List.length_map]; omega) ?_) | (with_reducible refine XDrop.desk (by assumption) ?_) | (with_reducible first | refine XArr.ints (by omega) (by omega) (by omega) ?_ | refine XArr.intsA (by omega) (by omega) (by omega) ?_) | ((with_reducible first | refine XArr.nats ?_ ?_ ?_ | refine XArr.natsA ?_ ?_ ?_ | refine XArr.ptr ?_ ?_ ?_); omega; omega)); conv => whnf) | (apply Walk.drawN (id := 2) tab_ok mixed_ok [] [] (hsU _) [_, _, _, _, _, _, _, _, _, _, _] (by kernel_rfl) rfl) | ((with_reducible apply XNext.mk); conv => whnf) | ((with_reducible apply XBr.mk') <;> (intro h; conv => whnf))
  exact XOut.int (hend rfl)
def begE (s : Sn) (m : Int) : Int := if snE s ≠ 0 then snE s else if inZ m 0 s.last = false then 3 else 0
theorem begE_iff {s : Sn} {m : Int} : begE s m = 0 ↔ SnOk s ∧ 0 ≤ m ∧ m ≤ s.last := by
  unfold begE
  by_cases h : snE s = 0
  · rw [if_neg (by simp [h]), snE_iff.symm]
    by_cases h2 : inZ m 0 s.last = false
    · rw [if_pos h2]
      simp only [inZ, Bool.and_eq_false_iff, decide_eq_false_iff_not] at h2
      constructor
      · intro h3; cases h3
      · rintro ⟨-, h3, h4⟩; omega
    · rw [if_neg h2]
      have h3 : inZ m 0 s.last = true := by simpa using h2
      rw [inZ_iff] at h3
      exact ⟨fun _ => ⟨h, h3⟩, fun _ => rfl⟩
  · rw [if_pos h, snE_iff.symm]
    exact ⟨fun h' => absurd h' h, fun h' => absurd h'.1 h⟩
theorem begun_ok (s : Sn) (hb : SnB s) (m : Int) (h : begE s m = 0) : Comp Try.prog 110 [snA s, .int .i64 m] (.tup [dskFA s, .int .i64 0]) := by
  obtain ⟨ok, h1⟩ := begE_iff.1 h
  have ho := fdOpened_c s hb ok
  have hmn := fminute_c s m
  rw [inZ_iff.2 h1] at hmn
  refine Comp.body (T := tab) (res := [.tmp 4, .tmp 5]) tab_ok [] Try.func110 rfl (by kernel_rfl) Try.ntmps110 rfl (by simp only [List.length_cons, List.length_nil]; decide) (by simp only [lowL, AV.low, snL]; rfl) ?_; conv => whnf
  repeat' first | ((with_reducible first | apply XBr.tt | apply XBr.ff | apply Chk.go | apply ChkA.go | apply ChkF.go | apply ChkB.go | apply XArr.pim0 | apply XArr.pim1); conv => whnf) | (with_reducible apply XBr.not) | ((with_reducible apply XBr.dec) <;> (intro h; first | (exfalso; omega) | ((try simp only [List.length_map] at h); first | (exfalso; omega) | (conv => whnf)))) | ((with_reducible first | apply XBr.beq | apply XBr.bne) <;> (intro h; first | (exfalso; omega) | (conv => whnf))) | ((with_reducible refine XInt.i64 (by omega) (by omega) ?_); conv => whnf) | ((with_reducible refine XHold.mk ?_ ?_); (first | omega | rfl | decide | exact ⟨rfl, by decide, rfl⟩ | exact wideI _ | exact widePr _ | exact wideSk _ | (unfold Room; constructor <;> ((try simp) <;> omega)) | exact ⟨rfl, by simp only [List.length_map], by unfold Room; constructor <;> ((try simp) <;> omega)⟩ | exact ⟨by omega, by omega, by unfold Room; constructor <;> ((try simp) <;> omega)⟩); conv => whnf) | ((first | ((with_reducible refine XIx.nat ?_ ?_ ?_); omega; (intro _; rfl)) | ((with_reducible refine XIx.map ?_ ?_ ?_ ?_); omega; omega; (intro _; rfl))); conv => whnf) | (with_reducible apply XAnd.mk) | (exact XSame.mk rfl rfl) | (exact XSame.mk (by first | rfl | (simp only [List.map_append, List.length_append, List.length_map]; done) | (simp only [List.map_append, List.length_append, List.length_map]; rfl)) (by first | rfl | (simp only [List.map_append]; done) | (simp only [List.map_append]; rfl))) | (with_reducible exact trivial) | ((first | (with_reducible refine xdrop_app (by rw [List.length_map]; omega) ?_) | (with_reducible refine XDrop.desk (by assumption) ?_) | (with_reducible first | refine XArr.ints (by omega) (by omega) (by omega) ?_ | refine XArr.intsA (by omega) (by omega) (by omega) ?_) | ((with_reducible first | refine XArr.nats ?_ ?_ ?_ | refine XArr.natsA ?_ ?_ ?_ | refine XArr.ptr ?_ ?_ ?_); omega; omega) | (with_reducible apply XNext.mk) | (refine XCall.ret ho ?_) | (refine XCall.ret hmn ?_)); conv => whnf) | ((with_reducible apply XBr.mk') <;> (intro h; conv => whnf))
  exact ⟨.low (by show ((dskFA s).low 0 && true) = true; rw [dskFL]; rfl)⟩
theorem fStart_ok (s : Sn) (hb : SnB s) (ok : SnOk s) (m : Nat) (hm : (m : Int) ≤ s.last) : Comp Try.prog 42 [snA s, natA m] (.tup [.int .i64 (startZ s m), .int .i64 0]) := by
  have hc := begun_ok s hb m (begE_iff.2 ⟨ok, by omega, hm⟩)
  have hw := worths_c s ok
  have hs := fstart_c s ok m hm
  refine Comp.body (T := tab) (res := [.tmp 4, .tmp 5]) tab_ok [] Try.func42 rfl (by kernel_rfl) Try.ntmps42 rfl (by simp only [List.length_cons, List.length_nil]; decide) (by simp only [lowL, AV.low, snL]; rfl) ?_; conv => whnf
  repeat' first | ((with_reducible first | apply XBr.tt | apply XBr.ff | apply Chk.go | apply ChkA.go | apply ChkF.go | apply ChkB.go | apply XArr.pim0 | apply XArr.pim1); conv => whnf) | (with_reducible apply XBr.not) | ((with_reducible apply XBr.dec) <;> (intro h; first | (exfalso; omega) | ((try simp only [List.length_map] at h); first | (exfalso; omega) | (conv => whnf)))) | ((with_reducible first | apply XBr.beq | apply XBr.bne) <;> (intro h; first | (exfalso; omega) | (conv => whnf))) | ((with_reducible refine XInt.i64 (by omega) (by omega) ?_); conv => whnf) | ((with_reducible refine XHold.mk ?_ ?_); (first | omega | rfl | decide | exact ⟨rfl, by decide, rfl⟩ | exact wideI _ | exact widePr _ | exact wideSk _ | (unfold Room; constructor <;> ((try simp) <;> omega)) | exact ⟨rfl, by simp only [List.length_map], by unfold Room; constructor <;> ((try simp) <;> omega)⟩ | exact ⟨by omega, by omega, by unfold Room; constructor <;> ((try simp) <;> omega)⟩); conv => whnf) | ((first | ((with_reducible refine XIx.nat ?_ ?_ ?_); omega; (intro _; rfl)) | ((with_reducible refine XIx.map ?_ ?_ ?_ ?_); omega; omega; (intro _; rfl))); conv => whnf) | (with_reducible apply XAnd.mk) | (exact XSame.mk rfl rfl) | (exact XSame.mk (by first | rfl | (simp only [List.map_append, List.length_append, List.length_map]; done) | (simp only [List.map_append, List.length_append, List.length_map]; rfl)) (by first | rfl | (simp only [List.map_append]; done) | (simp only [List.map_append]; rfl))) | (with_reducible exact trivial) | ((first | (with_reducible refine xdrop_app (by rw [List.length_map]; omega) ?_) | (with_reducible refine XDrop.desk (by assumption) ?_) | (with_reducible first | refine XArr.ints (by omega) (by omega) (by omega) ?_ | refine XArr.intsA (by omega) (by omega) (by omega) ?_) | ((with_reducible first | refine XArr.nats ?_ ?_ ?_ | refine XArr.natsA ?_ ?_ ?_ | refine XArr.ptr ?_ ?_ ?_); omega; omega) | (with_reducible apply XNext.mk) | (refine XCall.ret hc ?_) | (refine XCall.ret hw ?_) | (refine XCall.ret hs ?_)); conv => whnf) | ((with_reducible apply XBr.mk') <;> (intro h; conv => whnf))
  exact ⟨.low rfl⟩
def bstK (s : Sn) : Nat → Nat × Int
  | 0 => (0, -1)
  | k + 1 => if (bstK s k).2 < startZ s k then (k, startZ s k) else bstK s k
def bstE (s : Sn) : Nat × Int := bstK s (s.last.toNat + 1)
theorem fBest_ok (s : Sn) (hb : SnB s) (ok : SnOk s) : Comp Try.prog 51 [snA s] (.tup [natA (if (bstE s).2 = -1 then 0 else (bstE s).1), .int .i64 (if (bstE s).2 = -1 then 0 else (bstE s).2), .int .i64 (if (bstE s).2 = -1 then 6 else 0)]) := by
  have ho := fdOpened_c s hb ok
  have hw := worths_c s ok
  have l1 := ok.l1; have l2 := ok.l2
  obtain ⟨L0, hL0⟩ : ∃ L0 : Nat, s.last = L0 := ⟨s.last.toNat, by omega⟩
  have hE : bstE s = bstK s (L0 + 1) := by unfold bstE; rw [hL0]; rfl
  rw [hE]
  refine Comp.body (T := tab) (res := [.tmp 2, .tmp 3, .tmp 4]) tab_ok [] Try.func51 rfl (by kernel_rfl) Try.ntmps51 rfl (by simp only [List.length_cons, List.length_nil]; decide) (by simp only [lowL, AV.low, snL]; rfl) ?_; conv => whnf
  repeat' first | ((with_reducible first | apply XBr.tt | apply XBr.ff | apply Chk.go | apply ChkA.go | apply ChkF.go | apply ChkB.go | apply XArr.pim0 | apply XArr.pim1); conv => whnf) | (with_reducible apply XBr.not) | ((with_reducible apply XBr.dec) <;> (intro h; first | (exfalso; omega) | ((try simp only [List.length_map] at h); first | (exfalso; omega) | (conv => whnf)))) | ((with_reducible first | apply XBr.beq | apply XBr.bne) <;> (intro h; first | (exfalso; omega) | (conv => whnf))) | ((with_reducible refine XInt.i64 (by omega) (by omega) ?_); conv => whnf) | ((with_reducible refine XHold.mk ?_ ?_); (first | omega | rfl | decide | exact ⟨rfl, by decide, rfl⟩ | exact wideI _ | exact widePr _ | exact wideSk _ | (unfold Room; constructor <;> ((try simp) <;> omega)) | exact ⟨rfl, by simp only [List.length_map], by unfold Room; constructor <;> ((try simp) <;> omega)⟩ | exact ⟨by omega, by omega, by unfold Room; constructor <;> ((try simp) <;> omega)⟩); conv => whnf) | ((first | ((with_reducible refine XIx.nat ?_ ?_ ?_); omega; (intro _; rfl)) | ((with_reducible refine XIx.map ?_ ?_ ?_ ?_); omega; omega; (intro _; rfl))); conv => whnf) | (with_reducible apply XAnd.mk) | (exact XSame.mk rfl rfl) | (exact XSame.mk (by first | rfl | (simp only [List.map_append, List.length_append, List.length_map]; done) | (simp only [List.map_append, List.length_append, List.length_map]; rfl)) (by first | rfl | (simp only [List.map_append]; done) | (simp only [List.map_append]; rfl))) | (with_reducible exact trivial) | ((first | (with_reducible refine xdrop_app (by rw [List.length_map]; omega) ?_) | (with_reducible refine XDrop.desk (by assumption) ?_) | (with_reducible first | refine XArr.ints (by omega) (by omega) (by omega) ?_ | refine XArr.intsA (by omega) (by omega) (by omega) ?_) | ((with_reducible first | refine XArr.nats ?_ ?_ ?_ | refine XArr.natsA ?_ ?_ ?_ | refine XArr.ptr ?_ ?_ ?_); omega; omega) | (with_reducible apply XNext.mk) | (refine XCall.ret ho ?_) | (refine XCall.ret hw ?_)); conv => whnf) | ((with_reducible apply XBr.mk') <;> (intro h; conv => whnf))
  refine Walk.loopK tab_ok [] [(4, _), (5, _), (6, _), (21, _)] ⟨rfl, rfl, rfl, rfl, trivial⟩ (fun k : Nat => k ≤ L0 + 1) (fun k => [(2, natA (bstK s k).1), (3, .int .i64 (bstK s k).2), (22, natA k)]) (fun _ => []) (fun k => L0 + 1 - k) 0 (Nat.zero_le _) rfl ⟨rfl, rfl, rfl, trivial⟩ ?_
  intro k hk
  have hnx : bstK s (k + 1) = if (bstK s k).2 < startZ s k then (k, startZ s k) else bstK s k := rfl
  have hend : k = L0 + 1 → bstK s (L0 + 1) = bstK s k := fun h => by rw [h]
  generalize bstK s k = b at hnx hend
  obtain ⟨a, v⟩ := b
  dsimp only at hnx ⊢
  conv => whnf
  by_cases hlt : k < L0 + 1
  · have hs := fstart_c s ok k (by omega)
    generalize startZ s k = z at hs hnx
    by_cases hz : v < z
    · rw [if_pos hz] at hnx
      repeat' first | ((with_reducible first | apply XBr.tt | apply XBr.ff | apply Chk.go | apply ChkA.go | apply ChkF.go | apply ChkB.go | apply XArr.pim0 | apply XArr.pim1); conv => whnf) | (with_reducible apply XBr.not) | ((with_reducible apply XBr.dec) <;> (intro h; first | (exfalso; omega) | ((try simp only [List.length_map] at h); first | (exfalso; omega) | (conv => whnf)))) | ((with_reducible first | apply XBr.beq | apply XBr.bne) <;> (intro h; first | (exfalso; omega) | (conv => whnf))) | ((with_reducible refine XInt.i64 (by omega) (by omega) ?_); conv => whnf) | ((with_reducible refine XHold.mk ?_ ?_); (first | omega | rfl | decide | exact ⟨rfl, by decide, rfl⟩ | exact wideI _ | exact widePr _ | exact wideSk _ | (unfold Room; constructor <;> ((try simp) <;> omega)) | exact ⟨rfl, by simp only [List.length_map], by unfold Room; constructor <;> ((try simp) <;> omega)⟩ | exact ⟨by omega, by omega, by unfold Room; constructor <;> ((try simp) <;> omega)⟩); conv => whnf) | ((first | ((with_reducible refine XIx.nat ?_ ?_ ?_); omega; (intro _; rfl)) | ((with_reducible refine XIx.map ?_ ?_ ?_ ?_); omega; omega; (intro _; rfl))); conv => whnf) | (with_reducible apply XAnd.mk) | (exact XSame.mk rfl rfl) | (exact XSame.mk (by first | rfl | (simp only [List.map_append, List.length_append, List.length_map]; done) | (simp only [List.map_append, List.length_append, List.length_map]; rfl)) (by first | rfl | (simp only [List.map_append]; done) | (simp only [List.map_append]; rfl))) | (with_reducible exact trivial) | ((first | (with_reducible refine xdrop_app (by rw [List.length_map]; omega) ?_) | (with_reducible refine XDrop.desk (by assumption) ?_) | (with_reducible first | refine XArr.ints (by omega) (by omega) (by omega) ?_ | refine XArr.intsA (by omega) (by omega) (by omega) ?_) | ((with_reducible first | refine XArr.nats ?_ ?_ ?_ | refine XArr.natsA ?_ ?_ ?_ | refine XArr.ptr ?_ ?_ ?_); omega; omega) | (with_reducible apply XNext.mk) | (refine XCall.ret hs ?_)); conv => whnf) | ((with_reducible apply XBr.mk') <;> (intro h; conv => whnf))
      exact XAgain.go (k + 1) (by omega) (by omega) rfl ⟨rfl, rfl, rfl, rfl, (by rw [hnx]; rfl), (by rw [hnx]; rfl), rfl, trivial⟩
    · rw [if_neg hz] at hnx
      repeat' first | ((with_reducible first | apply XBr.tt | apply XBr.ff | apply Chk.go | apply ChkA.go | apply ChkF.go | apply ChkB.go | apply XArr.pim0 | apply XArr.pim1); conv => whnf) | (with_reducible apply XBr.not) | ((with_reducible apply XBr.dec) <;> (intro h; first | (exfalso; omega) | ((try simp only [List.length_map] at h); first | (exfalso; omega) | (conv => whnf)))) | ((with_reducible first | apply XBr.beq | apply XBr.bne) <;> (intro h; first | (exfalso; omega) | (conv => whnf))) | ((with_reducible refine XInt.i64 (by omega) (by omega) ?_); conv => whnf) | ((with_reducible refine XHold.mk ?_ ?_); (first | omega | rfl | decide | exact ⟨rfl, by decide, rfl⟩ | exact wideI _ | exact widePr _ | exact wideSk _ | (unfold Room; constructor <;> ((try simp) <;> omega)) | exact ⟨rfl, by simp only [List.length_map], by unfold Room; constructor <;> ((try simp) <;> omega)⟩ | exact ⟨by omega, by omega, by unfold Room; constructor <;> ((try simp) <;> omega)⟩); conv => whnf) | ((first | ((with_reducible refine XIx.nat ?_ ?_ ?_); omega; (intro _; rfl)) | ((with_reducible refine XIx.map ?_ ?_ ?_ ?_); omega; omega; (intro _; rfl))); conv => whnf) | (with_reducible apply XAnd.mk) | (exact XSame.mk rfl rfl) | (exact XSame.mk (by first | rfl | (simp only [List.map_append, List.length_append, List.length_map]; done) | (simp only [List.map_append, List.length_append, List.length_map]; rfl)) (by first | rfl | (simp only [List.map_append]; done) | (simp only [List.map_append]; rfl))) | (with_reducible exact trivial) | ((first | (with_reducible refine xdrop_app (by rw [List.length_map]; omega) ?_) | (with_reducible refine XDrop.desk (by assumption) ?_) | (with_reducible first | refine XArr.ints (by omega) (by omega) (by omega) ?_ | refine XArr.intsA (by omega) (by omega) (by omega) ?_) | ((with_reducible first | refine XArr.nats ?_ ?_ ?_ | refine XArr.natsA ?_ ?_ ?_ | refine XArr.ptr ?_ ?_ ?_); omega; omega) | (with_reducible apply XNext.mk) | (refine XCall.ret hs ?_)); conv => whnf) | ((with_reducible apply XBr.mk') <;> (intro h; conv => whnf))
      exact XAgain.go (k + 1) (by omega) (by omega) rfl ⟨rfl, rfl, rfl, rfl, (by rw [hnx]; rfl), (by rw [hnx]; rfl), rfl, trivial⟩
  rw [hend (by omega)]
  by_cases hv : v = -1
  · rw [if_pos hv, if_pos hv, if_pos hv]
    repeat' first | ((with_reducible first | apply XBr.tt | apply XBr.ff | apply Chk.go | apply ChkA.go | apply ChkF.go | apply ChkB.go | apply XArr.pim0 | apply XArr.pim1); conv => whnf) | (with_reducible apply XBr.not) | ((with_reducible apply XBr.dec) <;> (intro h; first | (exfalso; omega) | ((try simp only [List.length_map] at h); first | (exfalso; omega) | (conv => whnf)))) | ((with_reducible first | apply XBr.beq | apply XBr.bne) <;> (intro h; first | (exfalso; omega) | (conv => whnf))) | ((with_reducible refine XInt.i64 (by omega) (by omega) ?_); conv => whnf) | ((with_reducible refine XHold.mk ?_ ?_); (first | omega | rfl | decide | exact ⟨rfl, by decide, rfl⟩ | exact wideI _ | exact widePr _ | exact wideSk _ | (unfold Room; constructor <;> ((try simp) <;> omega)) | exact ⟨rfl, by simp only [List.length_map], by unfold Room; constructor <;> ((try simp) <;> omega)⟩ | exact ⟨by omega, by omega, by unfold Room; constructor <;> ((try simp) <;> omega)⟩); conv => whnf) | ((first | ((with_reducible refine XIx.nat ?_ ?_ ?_); omega; (intro _; rfl)) | ((with_reducible refine XIx.map ?_ ?_ ?_ ?_); omega; omega; (intro _; rfl))); conv => whnf) | (with_reducible apply XAnd.mk) | (exact XSame.mk rfl rfl) | (exact XSame.mk (by first | rfl | (simp only [List.map_append, List.length_append, List.length_map]; done) | (simp only [List.map_append, List.length_append, List.length_map]; rfl)) (by first | rfl | (simp only [List.map_append]; done) | (simp only [List.map_append]; rfl))) | (with_reducible exact trivial) | ((first | (with_reducible refine xdrop_app (by rw [List.length_map]; omega) ?_) | (with_reducible refine XDrop.desk (by assumption) ?_) | (with_reducible first | refine XArr.ints (by omega) (by omega) (by omega) ?_ | refine XArr.intsA (by omega) (by omega) (by omega) ?_) | ((with_reducible first | refine XArr.nats ?_ ?_ ?_ | refine XArr.natsA ?_ ?_ ?_ | refine XArr.ptr ?_ ?_ ?_); omega; omega) | (with_reducible apply XNext.mk)); conv => whnf) | ((with_reducible apply XBr.mk') <;> (intro h; conv => whnf))
    exact ⟨.low rfl⟩
  · rw [if_neg hv, if_neg hv, if_neg hv]
    repeat' first | ((with_reducible first | apply XBr.tt | apply XBr.ff | apply Chk.go | apply ChkA.go | apply ChkF.go | apply ChkB.go | apply XArr.pim0 | apply XArr.pim1); conv => whnf) | (with_reducible apply XBr.not) | ((with_reducible apply XBr.dec) <;> (intro h; first | (exfalso; omega) | ((try simp only [List.length_map] at h); first | (exfalso; omega) | (conv => whnf)))) | ((with_reducible first | apply XBr.beq | apply XBr.bne) <;> (intro h; first | (exfalso; omega) | (conv => whnf))) | ((with_reducible refine XInt.i64 (by omega) (by omega) ?_); conv => whnf) | ((with_reducible refine XHold.mk ?_ ?_); (first | omega | rfl | decide | exact ⟨rfl, by decide, rfl⟩ | exact wideI _ | exact widePr _ | exact wideSk _ | (unfold Room; constructor <;> ((try simp) <;> omega)) | exact ⟨rfl, by simp only [List.length_map], by unfold Room; constructor <;> ((try simp) <;> omega)⟩ | exact ⟨by omega, by omega, by unfold Room; constructor <;> ((try simp) <;> omega)⟩); conv => whnf) | ((first | ((with_reducible refine XIx.nat ?_ ?_ ?_); omega; (intro _; rfl)) | ((with_reducible refine XIx.map ?_ ?_ ?_ ?_); omega; omega; (intro _; rfl))); conv => whnf) | (with_reducible apply XAnd.mk) | (exact XSame.mk rfl rfl) | (exact XSame.mk (by first | rfl | (simp only [List.map_append, List.length_append, List.length_map]; done) | (simp only [List.map_append, List.length_append, List.length_map]; rfl)) (by first | rfl | (simp only [List.map_append]; done) | (simp only [List.map_append]; rfl))) | (with_reducible exact trivial) | ((first | (with_reducible refine xdrop_app (by rw [List.length_map]; omega) ?_) | (with_reducible refine XDrop.desk (by assumption) ?_) | (with_reducible first | refine XArr.ints (by omega) (by omega) (by omega) ?_ | refine XArr.intsA (by omega) (by omega) (by omega) ?_) | ((with_reducible first | refine XArr.nats ?_ ?_ ?_ | refine XArr.natsA ?_ ?_ ?_ | refine XArr.ptr ?_ ?_ ?_); omega; omega) | (with_reducible apply XNext.mk)); conv => whnf) | ((with_reducible apply XBr.mk') <;> (intro h; conv => whnf))
    exact ⟨.low rfl⟩
end GA
end

section
namespace GA
open Go Go.RowKit Go.Proofs
set_option pp.deepTerms true
set_option maxRecDepth 8000
set_option linter.unusedVariables false
set_option linter.unusedSimpArgs false

theorem equal_sg (n1 n2 : Bool) (xs : List (Int × Int)) (hx : xs.length ≤ 100000) : Comp Try.prog 148 [.sl n1 (xs.map (sgA)), .sl n2 (xs.map (sgA))] (.bool true) := by
  refine Comp.body (T := tab) (res := [.tmp 4]) tab_ok [] Try.func148 rfl (by kernel_rfl) Try.ntmps148 rfl (by simp only [List.length_cons, List.length_nil]; decide) (by simp only [lowL, AV.low, lowSg]; rfl) ?_; conv => whnf
  repeat' first | ((with_reducible apply XBr.bne) <;> (intro h; first | (exfalso; omega) | (conv => whnf))) | fail
  refine Walk.loopK tab_ok [] [(0, _), (1, _), (12, _)] ⟨rfl, rfl, rfl, trivial⟩ (fun i : Nat => i ≤ xs.length) (fun i => [(13, natA i)]) (fun _ => []) (fun i => xs.length - i) 0 (Nat.zero_le _) rfl ⟨rfl, trivial⟩ ?_
  intro i hi
  conv => whnf
  have e1 : ((xs.map (sgA)).length : Int) = xs.length := by rw [List.length_map]
  by_cases hlt : i < xs.length
  · skip
    repeat' first | ((with_reducible apply XBr.ff); conv => whnf) | ((with_reducible apply XBr.dec) <;> (intro h; first | (exfalso; omega) | ((try simp only [List.length_map] at h); first | (exfalso; omega) | (conv => whnf)))) | ((first | (with_reducible refine XInt.i64 (by omega) (by omega) ?_) | ((with_reducible refine XIx.nat ?_ ?_ ?_); omega; (intro _; rfl))); conv => whnf) | (with_reducible apply XAnd.mk) | ((first | (with_reducible apply Chk.go) | (with_reducible apply ChkA.go) | (with_reducible apply ChkF.go) | (with_reducible apply ChkB.go)); conv => whnf) | (exact XSame.mk rfl rfl) | (with_reducible exact trivial) | (apply Walk.drawN (id := 6) tab_ok mixed_ok [] [] (hsU _) [_, _, _, _, _, _, _, _, _] (by kernel_rfl) rfl) | ((with_reducible apply XNext.mk); conv => whnf) | ((refine XEqA.mk ⟨[(xs.getD i default).1, (xs.getD i default).2], [(xs.getD i default).1, (xs.getD i default).2], rfl, rfl, rfl, rfl, ?_⟩); exact XSame.mk (show AV.bool (!(_ == _)) = AV.bool false by simp) rfl) | fail
    exact XAgain.go (i + 1) (by omega) (by omega) rfl ⟨rfl, rfl, rfl, rfl, trivial⟩
  obtain rfl : i = xs.length := by omega
  repeat' first | ((with_reducible apply XBr.dec) <;> (intro h; first | (exfalso; omega) | ((try simp only [List.length_map] at h); first | (exfalso; omega) | (conv => whnf)))) | fail
  exact XOut.bool rfl
theorem eq_sg (n1 n2 : Bool) (xs : List (Int × Int)) (hx : xs.length ≤ 100000) : Comp Try.prog 76 [.sl n1 (xs.map (sgA)), .sl n2 (xs.map (sgA))] (.bool true) := by
  refine Comp.body (T := tab) (res := [.tmp 4]) tab_ok [] Try.func76 rfl (by kernel_rfl) Try.ntmps76 rfl (by simp only [List.length_cons, List.length_nil]; decide) (by simp only [lowL, AV.low, lowSg]; rfl) ?_; conv => whnf
  repeat' first | ((refine XCall.ret (equal_sg n1 n2 xs hx) ?_); conv => whnf) | fail
  exact XOut.bool rfl
def threeS : Sn := ⟨3, 0, 2, 12, false, [(0, 1, 2), (1, 2, 2)], false, [(false, [0, 0, 0]), (false, [0, 0, 0])], false, [(false, [(false, [(0, 12)]), (false, [(0, 9)]), (false, [(0, 7)])]), (false, [(false, [(0, 12)]), (false, [(0, 6)]), (false, [(0, 5)])])]⟩
theorem three1_c (nl : Bool) (hi : List Int) (hh : hi.length ≤ 100) : Comp Try.prog 147 [.sl nl (ints hi)] (trA (hi.isEmpty, hi.map fun n => (false, [((0 : Int), n)]))) := by
  have e1 : ((ints hi).length : Int) = hi.length := by rw [ints_len]
  refine Comp.body (T := tab) (res := [.cell 2 58]) tab_ok [] Try.func147 rfl (by kernel_rfl) Try.ntmps147 rfl (by simp only [List.length_cons, List.length_nil]; decide) (by simp only [lowL, AV.low, lowI]; rfl) ?_; conv => whnf
  skip
  refine Walk.nilcell 1 0 55 rfl rfl ?_
  refine Walk.loopGK tab_ok [] [(2, _), (3, _), (6, _), (7, _)] ⟨rfl, rfl, rfl, rfl, trivial⟩ (fun k : Nat => k ≤ hi.length) (fun k => [(8, natA k)]) (fun k => [.cells [.sl true []], .cells [.gr 2 k], .grow 55 (hi.take k).isEmpty (((hi.take k).map fun n => ((false, [((0 : Int), n)]) : Sps)).map spsA)]) (fun k => hi.length - k) 0 (Nat.zero_le _) rfl ⟨rfl, trivial⟩ ?_ (fun _ _ => (show (3 : Nat) ≤ 3 from Nat.le_refl 3)) ?_
  · intro k _
    refine ⟨fun z hz => ?_, fun z hz => ?_⟩
    · simp only [List.mem_cons, List.not_mem_nil, or_false] at hz
      rcases hz with rfl | rfl | rfl <;> first | rfl | exact lowSps _
    · simp only [List.cons_append, List.nil_append, List.mem_cons, List.not_mem_nil, or_false] at hz
      rcases hz with rfl | rfl | rfl | rfl | rfl <;> first | rfl | exact lowI _
  intro k hk
  have hnx := fun h => take_next (xs := hi) (i := k) h
  have hall : k = hi.length → hi.take k = hi := fun h => by rw [h, List.take_length]
  have hkl : (hi.take k).length = k := by rw [List.length_take]; omega
  generalize hi.take k = R at hnx hall hkl
  have hRl : ((R.map fun n => ((false, [((0 : Int), n)]) : Sps)).map spsA).length = k := by rw [List.length_map, List.length_map]; exact hkl
  conv => whnf
  by_cases hlt : k < hi.length
  · skip
    repeat' first | ((with_reducible apply XBr.dec) <;> (intro h; first | (exfalso; omega) | ((try simp only [List.length_map] at h); first | (exfalso; omega) | (conv => whnf)))) | ((with_reducible refine XInt.i64 (by omega) (by omega) ?_); conv => whnf) | ((with_reducible refine XHold.mk ?_ ?_); (first | omega | rfl | decide | exact ⟨rfl, by decide, rfl⟩ | exact wideI _ | exact widePr _ | exact wideSk _ | (unfold Room; constructor <;> ((try simp) <;> omega)) | exact ⟨rfl, by simp only [List.length_map], by unfold Room; constructor <;> ((try simp) <;> omega)⟩ | exact ⟨by omega, by omega, by unfold Room; constructor <;> ((try simp) <;> omega)⟩); conv => whnf) | (((with_reducible refine XIx.nat ?_ ?_ ?_); omega; (intro _; rfl)); conv => whnf) | fail
    refine XAgainG.go (k + 1) [] (by omega) (by omega) ?_ ⟨rfl, rfl, rfl, rfl, rfl, trivial⟩
    show [Blk.cells _, Blk.cells _, Blk.grow _ (hi.take (k + 1)).isEmpty (((hi.take (k + 1)).map fun n => ((false, [((0 : Int), n)]) : Sps)).map spsA)] ++ [] = _
    rw [hnx hlt, isEmpty_app, List.map_append, List.map_append]; rfl
  obtain rfl : k = hi.length := by omega
  obtain rfl := hall rfl
  repeat' first | ((with_reducible apply XBr.dec) <;> (intro h; first | (exfalso; omega) | ((try simp only [List.length_map] at h); first | (exfalso; omega) | (conv => whnf)))) | fail
  exact ⟨Froz.agg (one1 rfl) (.cons (Froz.grow rfl hRl (lowSps _)) .nil)⟩
theorem three_c : Comp Try.prog 75 [] (snA threeS) := by
  have h1 := three1_c false [12, 9, 7] (by decide)
  have h2 := three1_c false [12, 6, 5] (by decide)
  refine Comp.body (T := tab) (res := [.cell 0 27]) tab_ok [] Try.func75 rfl (by kernel_rfl) Try.ntmps75 rfl (by simp only [List.length_cons, List.length_nil]; decide) (by rfl) ?_; conv => whnf
  repeat' first | ((with_reducible refine XHold.mk ?_ ?_); (first | omega | rfl | decide | exact ⟨rfl, by decide, rfl⟩ | exact wideI _ | exact widePr _ | exact wideSk _ | (unfold Room; constructor <;> ((try simp) <;> omega)) | exact ⟨rfl, by simp only [List.length_map], by unfold Room; constructor <;> ((try simp) <;> omega)⟩ | exact ⟨by omega, by omega, by unfold Room; constructor <;> ((try simp) <;> omega)⟩); conv => whnf) | ((first | (refine XCall.ret h1 ?_) | (refine XCall.ret h2 ?_)); conv => whnf) | fail
  exact ⟨Froz.low (snL threeS)⟩
theorem threeB : SnB threeS := ⟨by decide, by decide, by decide, by decide, by decide, by decide⟩
theorem threeOk : SnOk threeS := snE_iff.1 (by decide +kernel)
theorem awake02_c : Comp Try.prog 22 [] (.bool true) := by
  have h0 := three_c
  have h1 := fTurn_ok threeS threeB 1 threeOk (by decide) (by decide +kernel)
  have t1 : turnN threeS 1 = 7 := by decide +kernel
  rw [t1] at h1
  have h2 := fDry_c threeS threeB 1 7
  rw [show dryE threeS 1 7 = 0 by decide +kernel, show (if (0 : Int) = 0 then drN threeS (1 : Int).toNat (7 : Int).toNat else 0) = 1 by decide +kernel] at h2
  have h3 := fSteps_ok threeS threeB 1 2 3 (by decide +kernel)
  rw [show stepsS threeS (stN 1 2 3) = [(0, 2), (1, 1), (2, 2)] by decide +kernel] at h3
  have h4 := fFixed_ok threeS threeB threeOk 0 (by decide) false [(1, 2), (2, 2), (2, 1), (1, 2), (0, 2)] (by decide)
  rw [show fixR threeS ((0 : Nat) : Int) [(1, 2), (2, 2), (2, 1), (1, 2), (0, 2)] = (1, 1) by decide +kernel, if_neg (by decide +kernel)] at h4
  have h5 := eq_sg false false [(0, 2), (1, 1), (2, 2)] (by decide)
  refine Comp.body (T := tab) (res := [.tmp 0]) tab_ok [] Try.func22 rfl (by kernel_rfl) Try.ntmps22 rfl (by simp only [List.length_cons, List.length_nil]; decide) (by rfl) ?_; conv => whnf
  repeat' first | ((with_reducible refine XHold.mk ?_ ?_); (first | omega | rfl | decide | exact ⟨rfl, by decide, rfl⟩ | exact wideI _ | exact widePr _ | exact wideSk _ | (unfold Room; constructor <;> ((try simp) <;> omega)) | exact ⟨rfl, by simp only [List.length_map], by unfold Room; constructor <;> ((try simp) <;> omega)⟩ | exact ⟨by omega, by omega, by unfold Room; constructor <;> ((try simp) <;> omega)⟩); conv => whnf) | ((first | (refine XCall.ret h0 ?_) | (refine XCall.ret h1 ?_) | (refine XCall.ret h2 ?_) | (refine XCall.ret h3 ?_) | (refine XCall.ret h4 ?_)); conv => whnf) | fail
  refine Walk.norm tab_ok [] [(1, _), (2, _), (3, _), (4, _), (5, _), (6, _), (7, _), (8, _), (9, _)] ⟨rfl, rfl, rfl, rfl, rfl, rfl, rfl, rfl, rfl, trivial⟩ ?_
  conv => whnf
  repeat' first | ((with_reducible apply XBr.tt); conv => whnf) | ((with_reducible apply XBr.beq) <;> (intro h; first | (exfalso; omega) | (conv => whnf))) | ((with_reducible refine XHold.mk ?_ ?_); (first | omega | rfl | decide | exact ⟨rfl, by decide, rfl⟩ | exact wideI _ | exact widePr _ | exact wideSk _ | (unfold Room; constructor <;> ((try simp) <;> omega)) | exact ⟨rfl, by simp only [List.length_map], by unfold Room; constructor <;> ((try simp) <;> omega)⟩ | exact ⟨by omega, by omega, by unfold Room; constructor <;> ((try simp) <;> omega)⟩); conv => whnf) | ((refine XCall.ret h5 ?_); conv => whnf) | fail
  exact ⟨.low rfl⟩
end GA
end

section
namespace GA
open Go Go.RowKit Go.Proofs
set_option pp.deepTerms true
set_option maxRecDepth 8000
set_option linter.unusedVariables false
set_option linter.unusedSimpArgs false

theorem wr_mem {s : Sn} {l : Rs} (h : l ∈ wrT s) : ∃ p, p < s.places.toNat ∧ l = (false, vecF (s.last + 1).toNat fun m => (false, vecF (allN s + 1) fun l => worthZ s ⟨p, m, l⟩)) := by
  unfold wrT mkT at h
  obtain ⟨p, hp, e⟩ := vecF_mem.1 h
  exact ⟨p, hp, e.symm⟩
theorem wr_B {s : Sn} (ok : SnOk s) : TbB (wrT s) := by
  have := ok.p2; have := ok.l2; have := allN_lt ok
  refine ⟨by unfold wrT; rw [mkT_len]; omega, fun l hl => ?_, fun l hl r hr => ?_⟩
  · obtain ⟨p, -, rfl⟩ := wr_mem hl
    show (vecF _ _).length ≤ 1000
    rw [vecF_len]; omega
  · obtain ⟨p, -, rfl⟩ := wr_mem hl
    obtain ⟨m, -, rfl⟩ := vecF_mem.1 (show r ∈ vecF _ _ from hr)
    show (vecF _ _).length ≤ 1000
    rw [vecF_len]; omega
theorem wr_E {s : Sn} (ok : SnOk s) : tabE s (wrT s) = 0 := by
  have p1 := ok.p1; have l1 := ok.l1; have l2 := ok.l2
  refine tabE_iff.2 ⟨ok, ?_, ?_⟩
  · unfold tabM
    rw [Bool.and_eq_true, decide_eq_true_eq, List.all_eq_true]
    refine ⟨by unfold wrT; rw [mkT_len]; omega, fun l hl => ?_⟩
    obtain ⟨p, -, rfl⟩ := wr_mem hl
    rw [Bool.and_eq_true, decide_eq_true_eq, List.all_eq_true]
    refine ⟨by show ((vecF _ _).length : Int) = _; rw [vecF_len]; omega, fun r hr => ?_⟩
    obtain ⟨m, -, rfl⟩ := vecF_mem.1 (show r ∈ vecF _ _ from hr)
    rw [decide_eq_true_eq]
    show ((vecF _ _).length : Int) = _
    rw [vecF_len]; omega
  · unfold tabV
    rw [List.all_eq_true]
    intro l hl
    obtain ⟨p, -, rfl⟩ := wr_mem hl
    rw [List.all_eq_true]
    intro r hr
    obtain ⟨m, hm, rfl⟩ := vecF_mem.1 (show r ∈ vecF _ _ from hr)
    rw [List.all_eq_true]
    intro n hn
    obtain ⟨k, -, rfl⟩ := vecF_mem.1 (show n ∈ vecF _ _ from hn)
    have h1 := worthZ_ge s ⟨p, m, k⟩
    have h2 : worthZ s ⟨p, m, k⟩ ≤ s.last - m := worthZ_lt s ⟨p, m, k⟩ (by show (m : Int) ≤ s.last; omega)
    exact inZ_iff.2 ⟨by omega, by omega⟩
theorem wr_best {s : Sn} (ok : SnOk s) {y : Sta} (hv : vld s y) : tbN (wrT s) y = bestZ s (tbN (wrT s)) y := by
  rw [wrT_at ok hv, show bestZ s (tbN (wrT s)) y = bestZ s (worthZ s) y from bestZ_congr fun t _ z hz => wrT_at ok (afterS_vld ok hz)]
  exact worthZ_eq ok hv.2.1
theorem bst_spec (s : Sn) : ∀ k, -1 ≤ (bstK s k).2 ∧ (∀ m, m < k → startZ s m ≤ (bstK s k).2) ∧ ((bstK s k).2 ≠ -1 → (bstK s k).1 < k ∧ startZ s (bstK s k).1 = (bstK s k).2)
  | 0 => ⟨Int.le_refl _, fun m hm => by omega, fun h => absurd rfl h⟩
  | k + 1 => by
    obtain ⟨h1, h2, h3⟩ := bst_spec s k
    by_cases hlt : (bstK s k).2 < startZ s k
    · have e : bstK s (k + 1) = (k, startZ s k) := by rw [bstK, if_pos hlt]
      rw [e]
      dsimp only
      refine ⟨by omega, fun m hm => ?_, fun _ => ⟨by omega, rfl⟩⟩
      by_cases hmk : m = k
      · rw [hmk]; exact Int.le_refl _
      · have := h2 m (by omega); omega
    · have e : bstK s (k + 1) = bstK s k := by rw [bstK, if_neg hlt]
      rw [e]
      refine ⟨h1, fun m hm => ?_, fun hn => ⟨by have := (h3 hn).1; omega, (h3 hn).2⟩⟩
      by_cases hmk : m = k
      · rw [hmk]; omega
      · exact h2 m (by omega)
theorem mod02_c (a n : Int) (ha : 0 ≤ a ∧ a ≤ 255) (hn : 1 ≤ n ∧ n ≤ 100) : Comp Try.prog 52 [.int .i64 a, .int .i64 n] (.int .i64 ((a.tmod n + n).tmod n)) := by
  have h1 := Int.tmod_nonneg n ha.1
  have h2 := Int.tmod_lt_of_pos a (show 0 < n by omega)
  have h3 := Int.tmod_nonneg n (show 0 ≤ a.tmod n + n by omega)
  have h4 := Int.tmod_lt_of_pos (a.tmod n + n) (show 0 < n by omega)
  refine Comp.body (T := tab) (res := [.tmp 4]) tab_ok [] Try.func52 rfl (by kernel_rfl) Try.ntmps52 rfl (by simp only [List.length_cons, List.length_nil]; decide) (by rfl) ?_; conv => whnf
  repeat' first | ((with_reducible apply XBr.dec) <;> (intro h; first | (exfalso; omega) | ((try simp only [List.length_map] at h); first | (exfalso; omega) | (conv => whnf)))) | ((with_reducible refine XInt.i64 (by omega) (by omega) ?_); conv => whnf) | ((with_reducible refine XHold.mk ?_ ?_); (first | omega | rfl | decide | exact ⟨rfl, by decide, rfl⟩ | exact wideI _ | exact widePr _ | exact wideSk _ | (unfold Room; constructor <;> ((try simp) <;> omega)) | exact ⟨rfl, by simp only [List.length_map], by unfold Room; constructor <;> ((try simp) <;> omega)⟩ | exact ⟨by omega, by omega, by unfold Room; constructor <;> ((try simp) <;> omega)⟩); conv => whnf) | fail
  exact XOut.int rfl
theorem XIx.two {a b : Int} {k : AV → Prop} (j : Nat) (hj : j < 2) (h : k (.pim (AV.int .i64 (if j = 0 then a else b)).cells)) : XIx [.int .i64 a, .int .i64 b] (j : Int) 1 k := by
  have hc : j = 0 ∨ j = 1 := by omega
  rcases hc with rfl | rfl
  · exact ⟨by omega, (show (0 : Int) < 2 by decide), rfl, h⟩
  · exact ⟨by omega, (show (1 : Int) < 2 by decide), rfl, h⟩
def lstK2 (s : Sn) (m : Nat) (P : List Nat) (j : Nat) : Int := (P.take j).foldl (fun n l => min n (worthZ s ⟨s.home.toNat, m, l⟩)) 60
theorem lstK2_next {s : Sn} {m : Nat} {P : List Nat} {j : Nat} (h : j < P.length) : lstK2 s m P (j + 1) = min (lstK2 s m P j) (worthZ s ⟨s.home.toNat, m, P.getD j default⟩) := by
  unfold lstK2
  rw [take_next h, List.foldl_append]; rfl
set_option maxHeartbeats 8000000 in
theorem fordHome_c (n1 : Bool) (xs : List Int) (w : Int) (hx : xs.length < 9223372036854775808) (hw : 0 ≤ w ∧ w ≤ 255) :
    Comp Try.prog 10 [.sl n1 (bytes xs), .int .u8 w] (.bool true) := by
  have hmk := fordMade_c (hp0 n1 xs) 14 (hpB_ok hx) (by omega) (by omega)
  refine Comp.body (T := tab) (res := [.tmp 4]) tab_ok [] Try.func10 rfl (by kernel_rfl) Try.ntmps10 rfl (by simp only [List.length_cons, List.length_nil]; decide) (by simp only [lowL, AV.low, lowBy]; rfl) ?_; conv => whnf
  repeat' first | (refine XCall.inl (T := tab) (res := [.tmp 2]) tab_ok [5] Try.func13 rfl (by kernel_rfl) Try.ntmps13 rfl (by simp only [List.length_append, List.length_cons, List.length_nil]; decide) ?_; conv => whnf) | fail
  refine XCall.hpE (j := 0) hmk rfl ?_
  rintro _ u1 ⟨s, rfl, mk, ou1⟩
  have ok := mk.ok
  have hb := mk.b
  have h1 := ok.h1; have b1 := ok.b1; have p2 := ok.p2; have l1 := ok.l1; have l2 := ok.l2; have t1 := ok.t1; have t2 := ok.t2; have k1 := ok.k1
  have hh := mk.h; have hl4 := mk.l1
  have hal := allN_lt ok
  have e3 : ((s.truths.map trA).length : Int) = s.truths.length := by rw [List.length_map]
  have hpw : 2 ^ s.truths.length ≤ 2 ^ 4 := Nat.pow_le_pow_right (by omega) t2
  have hpw1 : 2 ^ 1 ≤ 2 ^ s.truths.length := Nat.pow_le_pow_right (by omega) t1
  have hall : allN s = 2 ^ s.truths.length - 1 := rfl
  obtain ⟨N2, hN2⟩ : ∃ N2 : Nat, N2 = 2 ^ s.truths.length := ⟨_, rfl⟩
  rw [← hN2] at hpw hpw1 hall
  have hpa := lawParts_c s ok s.home.toNat (allN s) (by omega) (by omega)
  have hpa' : Comp Try.prog 15 [snA s, .int .i64 s.home, .int .i64 ((N2 : Int) - 1)] (nsA (partsL s s.home.toNat (allN s))) := by
    rw [show natA s.home.toNat = .int .i64 s.home by unfold natA; rw [Int.toNat_of_nonneg h1.1], show natA (allN s) = .int .i64 ((N2 : Int) - 1) by unfold natA; rw [show ((allN s : Nat) : Int) = (N2 : Int) - 1 by omega]] at hpa
    exact hpa
  clear hpa
  have hCk := fdCheck_c s hb
  rw [snE_iff.2 ok] at hCk
  have hMd := fMade_ok s hb ok
  have hHo := fhold_ok s hb false (wrT s) (wr_B ok) (wr_E ok) true ⟨fun _ y hv => Int.le_of_eq (wr_best ok hv), fun _ => rfl⟩
  have hCl := fclos_ok s hb false (wrT s) (wr_B ok) (wr_E ok) true ⟨fun _ y hv => Int.le_of_eq (wr_best ok hv).symm, fun _ => rfl⟩
  have hBe := fBest_ok s hb ok
  obtain ⟨q1, q2, q3⟩ := bst_spec s (s.last.toNat + 1)
  rw [show bstK s (s.last.toNat + 1) = bstE s from rfl] at q1 q2 q3
  obtain ⟨bn, hbn⟩ : ∃ b, b = bstE s := ⟨_, rfl⟩
  rw [← hbn] at hBe q1 q2 q3
  obtain ⟨bm, bw⟩ := bn
  clear hbn
  dsimp only at hBe q1 q2 q3
  have hmod := mod02_c w (s.last + 1) hw (by omega)
  have hr0 := Int.tmod_nonneg (s.last + 1) hw.1
  have hr1 := Int.tmod_lt_of_pos w (show 0 < s.last + 1 by omega)
  have hr2 := Int.tmod_nonneg (s.last + 1) (show 0 ≤ w.tmod (s.last + 1) + (s.last + 1) by omega)
  have hr3 := Int.tmod_lt_of_pos (w.tmod (s.last + 1) + (s.last + 1)) (show 0 < s.last + 1 by omega)
  generalize (w.tmod (s.last + 1) + (s.last + 1)).tmod (s.last + 1) = mo at hmod hr2 hr3
  obtain ⟨mn, hmn⟩ : ∃ mn : Nat, mo = mn := ⟨mo.toNat, by omega⟩
  subst hmn
  obtain ⟨a1, ha1⟩ : ∃ a1 : Nat, w.tmod (s.last + 1) = a1 := ⟨(w.tmod (s.last + 1)).toNat, by omega⟩
  have hho : natA s.home.toNat = .int .i64 s.home := by unfold natA; rw [Int.toNat_of_nonneg h1.1]
  have hPb : ∀ l ∈ partsL s s.home.toNat (allN s), l ≤ allN s ∧ l ≠ 0 := fun l hl => ⟨partsL_all ok hl, by obtain ⟨n, -, -, h⟩ := partsL_mem.1 hl; exact h⟩
  have hPl := partsL_len s s.home.toNat (allN s)
  obtain ⟨P, hP⟩ : ∃ P, P = partsL s s.home.toNat (allN s) := ⟨_, rfl⟩
  rw [← hP] at hpa' hPb hPl
  have e6 : ((P.map natA).length : Int) = P.length := by rw [List.length_map]
  generalize wrT s = T at hMd hHo hCl
  by_cases hN : bw = -1
  · rw [if_pos hN, if_pos hN, if_pos hN] at hBe
    have hfa : ∀ m : Nat, (m : Int) ≤ s.last → startZ s m = -1 := fun m hm => by
      have := q2 m (by omega)
      have := startZ_lo (s := s) (m := m)
      omega
    clear q2 q3
    obtain ⟨a0, ha0⟩ : ∃ a0 : Nat, a0 = mn := ⟨_, rfl⟩
    rw [← ha0] at hmod hr2 hr3
    conv => whnf
    repeat' first | ((first | (refine XCall.ret hMd ?_) | (refine XCall.ret hHo ?_) | (refine XCall.ret hCl ?_) | (refine XCall.ret hBe ?_)); conv => whnf) | fail
    refine Walk.norm tab_ok [] [(1, _), (5, _), (6, _), (7, _), (8, _), (9, _), (10, _), (11, _), (12, _), (13, _), (14, _)] ⟨rfl, rfl, rfl, rfl, rfl, rfl, rfl, rfl, rfl, rfl, rfl, trivial⟩ ?_
    conv => whnf
    repeat' first | ((first | (with_reducible apply XBr.tt) | (with_reducible apply XBr.ff)); conv => whnf) | (with_reducible apply XBr.not) | ((with_reducible apply XBr.beq) <;> (intro h; first | (exfalso; omega) | (conv => whnf))) | ((with_reducible apply XBr.bne) <;> (intro h; first | (exfalso; omega) | (conv => whnf))) | ((with_reducible refine XInt.i64 (by omega) (by omega) ?_); conv => whnf) | ((with_reducible refine XHold.mk ?_ ?_); (first | omega | rfl | decide | exact ⟨rfl, by decide, rfl⟩ | exact wideI _ | exact widePr _ | exact wideSk _ | (unfold Room; constructor <;> ((try simp) <;> omega)) | exact ⟨rfl, by simp only [List.length_map], by unfold Room; constructor <;> ((try simp) <;> omega)⟩ | exact ⟨by omega, by omega, by unfold Room; constructor <;> ((try simp) <;> omega)⟩); conv => whnf) | ((first | (refine XCall.ret hCk ?_) | (refine XCall.ret hmod ?_)); conv => whnf) | (rw [ha1]; conv => whnf) | fail
    refine Walk.loopGK tab_ok [] [(5, _), (12, _), (13, _), (14, _), (100, _), (101, _)] ⟨rfl, rfl, rfl, rfl, rfl, rfl, trivial⟩ (fun j : Nat => j ≤ 2) (fun j => [(102, natA j)]) (fun _ => [hpC u1, .cells (snC s)]) (fun j => 2 - j) 0 (Nat.zero_le _) rfl ⟨rfl, trivial⟩ ?_ (fun _ _ => (show (2 : Nat) ≤ 2 from Nat.le_refl 2)) ?_
    · intro j _
      refine ⟨fun z hz => ?_, fun z hz => ?_⟩
      · simp only [List.mem_cons, List.not_mem_nil, or_false] at hz
        rcases hz with rfl | rfl <;> first | exact hpC_low _ | exact snCL s
      · simp only [List.cons_append, List.nil_append, List.mem_cons, List.not_mem_nil, or_false] at hz
        rcases hz with rfl | rfl | rfl | rfl | rfl | rfl | rfl <;> rfl
    intro j hj
    have e2a : (([AV.int .i64 (a0 : Int), AV.int .i64 (a1 : Int)].length : Nat) : Int) = 2 := rfl
    have e2b : (([natA a0, AV.int .i64 (a1 : Int)].length : Nat) : Int) = 2 := rfl
    conv => whnf
    by_cases hj2 : j < 2
    · obtain ⟨mi, hmi, hmL, hma⟩ : ∃ mi : Nat, (if j = 0 then (a0 : Int) else (a1 : Int)) = mi ∧ (mi : Int) ≤ s.last ∧ (mi = a0 ∨ mi = a1) := by
        by_cases h : j = 0
        · rw [if_pos h]; exact ⟨a0, rfl, by omega, .inl rfl⟩
        · rw [if_neg h]; exact ⟨a1, rfl, by omega, .inr rfl⟩
      have hst := fStart_ok s hb ok mi hmL
      have hfn := hfa mi hmL
      have hsl : startZ s mi = lstK2 s mi P P.length := by unfold lstK2; rw [List.take_length, hP]; rfl
      generalize startZ s mi = Z at hst hfn hsl
      repeat' first | ((with_reducible apply XBr.dec) <;> (intro h; first | (exfalso; omega) | ((try simp only [List.length_map] at h); first | (exfalso; omega) | (conv => whnf)))) | ((first | ((refine XIx.two j (by omega) ?_); rw [hmi]) | (refine XCall.ret hst ?_)); conv => whnf) | fail
      refine Walk.norm tab_ok [] [(5, _), (12, _), (13, _), (14, _), (16, _), (17, _), (18, _), (100, _), (101, _), (102, _)] ⟨rfl, rfl, rfl, rfl, rfl, rfl, rfl, rfl, rfl, rfl, trivial⟩ ?_
      conv => whnf
      repeat' first | ((first | (with_reducible apply XBr.tt) | (with_reducible apply XBr.ff)); conv => whnf) | ((with_reducible apply XBr.dec) <;> (intro h; first | (exfalso; omega) | ((try simp only [List.length_map] at h); first | (exfalso; omega) | (conv => whnf)))) | ((with_reducible apply XBr.beq) <;> (intro h; first | (exfalso; omega) | (conv => whnf))) | ((with_reducible apply XBr.bne) <;> (intro h; first | (exfalso; omega) | (conv => whnf))) | ((with_reducible refine XInt.i64 (by omega) (by omega) ?_); conv => whnf) | ((with_reducible refine XHold.mk ?_ ?_); (first | omega | rfl | decide | exact ⟨rfl, by decide, rfl⟩ | exact wideI _ | exact widePr _ | exact wideSk _ | (unfold Room; constructor <;> ((try simp) <;> omega)) | exact ⟨rfl, by simp only [List.length_map], by unfold Room; constructor <;> ((try simp) <;> omega)⟩ | exact ⟨by omega, by omega, by unfold Room; constructor <;> ((try simp) <;> omega)⟩); conv => whnf) | (with_reducible apply XAnd.mk) | ((first | (with_reducible apply Chk.go) | (with_reducible apply ChkA.go) | (with_reducible apply ChkF.go) | (with_reducible apply ChkB.go)); conv => whnf) | (exact XSame.mk rfl rfl) | (with_reducible exact trivial) | (apply Walk.drawN (id := 17) tab_ok mixed_ok [] [] (hsU _) [_, _, _, _, _, _, _, _, _, _, _] (by kernel_rfl) rfl) | ((first | (with_reducible apply XNext.mk) | (refine XInt.shlL hN2 (by omega) ?_) | (refine XCall.ret hpa' ?_)); conv => whnf) | fail
      all_goals
        refine Walk.loopGK tab_ok [] [(5, _), (12, _), (13, _), (14, _), (16, _), (17, _), (100, _), (101, _), (102, _), (153, _), (154, _)] ⟨rfl, rfl, rfl, rfl, rfl, rfl, rfl, rfl, rfl, rfl, rfl, trivial⟩ (fun g : Nat => g ≤ P.length) (fun g => [(19, .int .i64 (lstK2 s mi P g)), (155, natA g)]) (fun _ => [hpC u1, .cells (snC s)]) (fun g => P.length - g) 0 (Nat.zero_le _) rfl ⟨rfl, rfl, trivial⟩ ?_ (fun _ _ => (show (2 : Nat) ≤ 2 from Nat.le_refl 2)) ?_
        · intro j _
          refine ⟨fun z hz => ?_, fun z hz => ?_⟩
          · simp only [List.mem_cons, List.not_mem_nil, or_false] at hz
            rcases hz with rfl | rfl <;> first | exact hpC_low _ | exact snCL s
          · simp only [List.cons_append, List.nil_append, List.mem_cons, List.not_mem_nil, or_false] at hz
            rcases hz with rfl | rfl | rfl | rfl | rfl | rfl | rfl | rfl | rfl | rfl | rfl | rfl | rfl <;> first | rfl | exact nsL _
        intro g hg
        have hlx := lstK2_next (s := s) (m := mi) (P := P) (j := g)
        have hle : g = P.length → Z = lstK2 s mi P g := fun h => by rw [h]; exact hsl
        generalize lstK2 s mi P g = LS at hlx hle
        conv => whnf
        by_cases hgl : g < P.length
        · have hlx := hlx hgl
          obtain ⟨hl1, hl2⟩ := hPb _ (getD_mem (d := default) hgl)
          have hwo := fWorth_ok s hb s.home mi (P.getD g default : Nat) (sttE_iff.2 ⟨ok, h1, ⟨by omega, hmL⟩, by omega, by omega⟩)
          rw [show stN s.home (mi : Int) ((P.getD g default : Nat) : Int) = ⟨s.home.toNat, mi, P.getD g default⟩ from rfl] at hwo
          have hvl : vld s ⟨s.home.toNat, mi, P.getD g default⟩ := ⟨by show ((s.home.toNat : Nat) : Int) < s.places; omega, hmL, hl1⟩
          have hle1 := fun (i : Nat) (hk : worthZ s ⟨s.home.toNat, mi, P.getD g default⟩ ≠ -1) (hi : (P.getD g default).testBit i = true) => led_c s hb ok ⟨s.home.toNat, mi, P.getD g default⟩ i ⟨hvl, hk, hi⟩
          have hle2 := fun (i : Nat) (hk : worthZ s ⟨s.home.toNat, mi, P.getD g default⟩ ≠ -1) (hi : (P.getD g default).testBit i = true) => led_ge ok (s.last.toNat + 2) ⟨s.home.toNat, mi, P.getD g default⟩ ⟨hvl, hk, hi⟩ (by dsimp only; omega)
          rw [show staA ⟨s.home.toNat, mi, P.getD g default⟩ = .agg [.int .i64 s.home, natA mi, natA (P.getD g default)] by show AV.agg [natA s.home.toNat, _, _] = _; rw [hho]] at hle1
          generalize hkk : worthZ s ⟨s.home.toNat, mi, P.getD g default⟩ = K at hwo hlx hle1 hle2
          have hgo : some (AV.int .i64 (min LS K)) = some (AV.int .i64 (lstK2 s mi P (g + 1))) := by rw [hlx]
          clear hkk hvl
          by_cases hk : K = -1
          · skip
            repeat' first | ((with_reducible apply XBr.dec) <;> (intro h; first | (exfalso; omega) | ((try simp only [List.length_map] at h); first | (exfalso; omega) | (conv => whnf)))) | ((with_reducible apply XBr.beq) <;> (intro h; first | (exfalso; omega) | (conv => whnf))) | ((with_reducible apply XBr.bne) <;> (intro h; first | (exfalso; omega) | (conv => whnf))) | ((first | (with_reducible refine XInt.i64 (by omega) (by omega) ?_) | ((with_reducible refine XIx.nat ?_ ?_ ?_); omega; (intro _; rfl)) | (refine XCall.ret hwo ?_)); conv => whnf) | fail
            all_goals exact XAgainG.go (g + 1) [.cells [.int .i64 s.home, natA mi, natA (P.getD g default)]] (by omega) (by omega) rfl ⟨rfl, rfl, rfl, rfl, rfl, rfl, rfl, rfl, rfl, rfl, rfl, (by exact hgo), rfl, trivial⟩
          · skip
            repeat' first | ((with_reducible apply XBr.dec) <;> (intro h; first | (exfalso; omega) | ((try simp only [List.length_map] at h); first | (exfalso; omega) | (conv => whnf)))) | ((with_reducible apply XBr.beq) <;> (intro h; first | (exfalso; omega) | (conv => whnf))) | ((with_reducible apply XBr.bne) <;> (intro h; first | (exfalso; omega) | (conv => whnf))) | ((first | ((with_reducible refine XIx.nat ?_ ?_ ?_); omega; (intro _; rfl)) | (refine XCall.ret hwo ?_)); conv => whnf) | fail
            refine Walk.loopGK tab_ok [] [(5, _), (12, _), (13, _), (14, _), (16, _), (17, _), (19, _), (21, _), (22, _), (23, _), (100, _), (101, _), (102, _), (153, _), (154, _), (155, _), (179, _)] ⟨rfl, rfl, rfl, rfl, rfl, rfl, rfl, rfl, rfl, rfl, rfl, rfl, rfl, rfl, rfl, rfl, rfl, trivial⟩ (fun i : Nat => i ≤ s.truths.length) (fun i => [(180, natA i)]) (fun _ => [hpC u1, .cells (snC s), .cells [.int .i64 s.home, natA mi, natA (P.getD g default)]]) (fun i => s.truths.length - i) 0 (Nat.zero_le _) rfl ⟨rfl, trivial⟩ ?_ (fun _ _ => (show (3 : Nat) ≤ 3 from Nat.le_refl 3)) ?_
            · intro j _
              refine ⟨fun z hz => ?_, fun z hz => ?_⟩
              · simp only [List.mem_cons, List.not_mem_nil, or_false] at hz
                rcases hz with rfl | rfl | rfl <;> first | exact hpC_low _ | exact snCL s | rfl
              · simp only [List.cons_append, List.nil_append, List.mem_cons, List.not_mem_nil, or_false] at hz
                rcases hz with rfl | rfl | rfl | rfl | rfl | rfl | rfl | rfl | rfl | rfl | rfl | rfl | rfl | rfl | rfl | rfl | rfl | rfl <;> first | rfl | exact nsL _
            intro i hi
            conv => whnf
            by_cases hil : i < s.truths.length
            · have hbs := bit_sh (l := P.getD g default) (i := i) (by omega) (by omega)
              cases hbt : (P.getD g default).testBit i with
              | false =>
                rw [hbt, if_neg (by simp)] at hbs
                repeat' first | ((with_reducible apply XBr.dec) <;> (intro h; first | (exfalso; omega) | ((try simp only [List.length_map] at h); first | (exfalso; omega) | (conv => whnf)))) | ((with_reducible apply XBr.beq) <;> (intro h; first | (exfalso; omega) | (conv => whnf))) | ((with_reducible refine XInt.i64 (by omega) (by omega) ?_); conv => whnf) | ((with_reducible refine XHold.mk ?_ ?_); (first | omega | rfl | decide | exact ⟨rfl, by decide, rfl⟩ | exact wideI _ | exact widePr _ | exact wideSk _ | (unfold Room; constructor <;> ((try simp) <;> omega)) | exact ⟨rfl, by simp only [List.length_map], by unfold Room; constructor <;> ((try simp) <;> omega)⟩ | exact ⟨by omega, by omega, by unfold Room; constructor <;> ((try simp) <;> omega)⟩); conv => whnf) | (rw [hbs]; conv => whnf) | fail
                all_goals first | exact XAgainG.go (i + 1) [] (by omega) (by omega) rfl ⟨rfl, rfl, rfl, rfl, rfl, rfl, rfl, rfl, rfl, rfl, rfl, rfl, rfl, rfl, rfl, rfl, rfl, rfl, trivial⟩ | (exfalso; exact h hbs) | (exfalso; omega)
              | true =>
                rw [hbt, if_pos rfl] at hbs
                have hm1 := hle1 i hk hbt
                have hm2 := hle2 i hk hbt
                generalize ledR s i (s.last.toNat + 2) ⟨s.home.toNat, mi, P.getD g default⟩ = wk at hm1 hm2
                repeat' first | ((first | (with_reducible apply XBr.tt) | (with_reducible apply XBr.ff)); conv => whnf) | (with_reducible apply XBr.not) | ((with_reducible apply XBr.dec) <;> (intro h; first | (exfalso; omega) | ((try simp only [List.length_map] at h); first | (exfalso; omega) | (conv => whnf)))) | ((with_reducible apply XBr.beq) <;> (intro h; first | (exfalso; omega) | (conv => whnf))) | ((with_reducible refine XInt.i64 (by omega) (by omega) ?_); conv => whnf) | ((with_reducible refine XHold.mk ?_ ?_); (first | omega | rfl | decide | exact ⟨rfl, by decide, rfl⟩ | exact wideI _ | exact widePr _ | exact wideSk _ | (unfold Room; constructor <;> ((try simp) <;> omega)) | exact ⟨rfl, by simp only [List.length_map], by unfold Room; constructor <;> ((try simp) <;> omega)⟩ | exact ⟨by omega, by omega, by unfold Room; constructor <;> ((try simp) <;> omega)⟩); conv => whnf) | (with_reducible apply XAnd.mk) | ((first | (with_reducible apply Chk.go) | (with_reducible apply ChkA.go) | (with_reducible apply ChkF.go) | (with_reducible apply ChkB.go)); conv => whnf) | (exact XSame.mk rfl rfl) | (with_reducible exact trivial) | (apply Walk.drawN (id := 30) tab_ok mixed_ok [] [] (hsU _) [_, _, _, _, _, _, _, _, _, _] (by kernel_rfl) rfl) | ((with_reducible apply XNext.mk); conv => whnf) | (rw [hbs]; conv => whnf) | ((first | (refine XInt.shl (by omega) ?_) | (refine XCall.ret hm1 ?_)); conv => whnf) | fail
                all_goals first | exact XAgainG.go (i + 1) [] (by omega) (by omega) rfl ⟨rfl, rfl, rfl, rfl, rfl, rfl, rfl, rfl, rfl, rfl, rfl, rfl, rfl, rfl, rfl, rfl, rfl, rfl, trivial⟩ | (exfalso; exact absurd (hbs.symm.trans h) (by decide)) | (exfalso; omega)
            repeat' first | ((with_reducible apply XBr.dec) <;> (intro h; first | (exfalso; omega) | ((try simp only [List.length_map] at h); first | (exfalso; omega) | (conv => whnf)))) | ((with_reducible refine XInt.i64 (by omega) (by omega) ?_); conv => whnf) | fail
            exact XAgainG.go (g + 1) [.cells [.int .i64 s.home, natA mi, natA (P.getD g default)]] (by omega) (by omega) rfl ⟨rfl, rfl, rfl, rfl, rfl, rfl, rfl, rfl, rfl, rfl, rfl, (by exact hgo), rfl, trivial⟩
        have hZ := hle (by omega)
        repeat' first | ((with_reducible apply XBr.dec) <;> (intro h; first | (exfalso; omega) | ((try simp only [List.length_map] at h); first | (exfalso; omega) | (conv => whnf)))) | ((with_reducible apply XBr.bne) <;> (intro h; first | (exfalso; omega) | (conv => whnf))) | ((with_reducible refine XInt.i64 (by omega) (by omega) ?_); conv => whnf) | fail
        exact XAgainG.go (j + 1) [] (by omega) (by omega) rfl ⟨rfl, rfl, rfl, rfl, rfl, rfl, rfl, trivial⟩
    repeat' first | ((with_reducible apply XBr.dec) <;> (intro h; first | (exfalso; omega) | ((try simp only [List.length_map] at h); first | (exfalso; omega) | (conv => whnf)))) | ((refine XCall.ret awake02_c ?_); conv => whnf) | fail
    exact XOut.bool rfl
  · rw [if_neg hN, if_neg hN, if_neg hN] at hBe
    obtain ⟨q4, q5⟩ := q3 hN
    have hfa : ∀ m : Nat, (m : Int) ≤ s.last → startZ s m ≤ bw ∧ (m = bm → startZ s m = bw) := fun m hm => ⟨q2 m (by omega), fun h => by rw [h]; exact q5⟩
    clear q2 q3 q5
    obtain ⟨a0, ha0⟩ : ∃ a0 : Nat, a0 = bm := ⟨_, rfl⟩
    rw [← ha0] at hBe q4
    have hr3 : (a0 : Int) < s.last + 1 := by omega
    conv => whnf
    repeat' first | ((first | (refine XCall.ret hMd ?_) | (refine XCall.ret hHo ?_) | (refine XCall.ret hCl ?_) | (refine XCall.ret hBe ?_)); conv => whnf) | fail
    refine Walk.norm tab_ok [] [(1, _), (5, _), (6, _), (7, _), (8, _), (9, _), (10, _), (11, _), (12, _), (13, _), (14, _)] ⟨rfl, rfl, rfl, rfl, rfl, rfl, rfl, rfl, rfl, rfl, rfl, trivial⟩ ?_
    conv => whnf
    repeat' first | ((first | (with_reducible apply XBr.tt) | (with_reducible apply XBr.ff)); conv => whnf) | (with_reducible apply XBr.not) | ((with_reducible apply XBr.beq) <;> (intro h; first | (exfalso; omega) | (conv => whnf))) | ((with_reducible apply XBr.bne) <;> (intro h; first | (exfalso; omega) | (conv => whnf))) | ((with_reducible refine XInt.i64 (by omega) (by omega) ?_); conv => whnf) | ((with_reducible refine XHold.mk ?_ ?_); (first | omega | rfl | decide | exact ⟨rfl, by decide, rfl⟩ | exact wideI _ | exact widePr _ | exact wideSk _ | (unfold Room; constructor <;> ((try simp) <;> omega)) | exact ⟨rfl, by simp only [List.length_map], by unfold Room; constructor <;> ((try simp) <;> omega)⟩ | exact ⟨by omega, by omega, by unfold Room; constructor <;> ((try simp) <;> omega)⟩); conv => whnf) | ((refine XCall.ret hCk ?_); conv => whnf) | (rw [ha1]; conv => whnf) | fail
    refine Walk.loopGK tab_ok [] [(5, _), (12, _), (13, _), (14, _), (100, _), (101, _)] ⟨rfl, rfl, rfl, rfl, rfl, rfl, trivial⟩ (fun j : Nat => j ≤ 2) (fun j => [(102, natA j)]) (fun _ => [hpC u1, .cells (snC s)]) (fun j => 2 - j) 0 (Nat.zero_le _) rfl ⟨rfl, trivial⟩ ?_ (fun _ _ => (show (2 : Nat) ≤ 2 from Nat.le_refl 2)) ?_
    · intro j _
      refine ⟨fun z hz => ?_, fun z hz => ?_⟩
      · simp only [List.mem_cons, List.not_mem_nil, or_false] at hz
        rcases hz with rfl | rfl <;> first | exact hpC_low _ | exact snCL s
      · simp only [List.cons_append, List.nil_append, List.mem_cons, List.not_mem_nil, or_false] at hz
        rcases hz with rfl | rfl | rfl | rfl | rfl | rfl | rfl <;> rfl
    intro j hj
    have e2a : (([AV.int .i64 (a0 : Int), AV.int .i64 (a1 : Int)].length : Nat) : Int) = 2 := rfl
    have e2b : (([natA a0, AV.int .i64 (a1 : Int)].length : Nat) : Int) = 2 := rfl
    conv => whnf
    by_cases hj2 : j < 2
    · obtain ⟨mi, hmi, hmL, hma⟩ : ∃ mi : Nat, (if j = 0 then (a0 : Int) else (a1 : Int)) = mi ∧ (mi : Int) ≤ s.last ∧ (mi = a0 ∨ mi = a1) := by
        by_cases h : j = 0
        · rw [if_pos h]; exact ⟨a0, rfl, by omega, .inl rfl⟩
        · rw [if_neg h]; exact ⟨a1, rfl, by omega, .inr rfl⟩
      have hst := fStart_ok s hb ok mi hmL
      have hfn := hfa mi hmL
      have hsl : startZ s mi = lstK2 s mi P P.length := by unfold lstK2; rw [List.take_length, hP]; rfl
      generalize startZ s mi = Z at hst hfn hsl
      repeat' first | ((with_reducible apply XBr.dec) <;> (intro h; first | (exfalso; omega) | ((try simp only [List.length_map] at h); first | (exfalso; omega) | (conv => whnf)))) | ((first | ((refine XIx.two j (by omega) ?_); rw [hmi]) | (refine XCall.ret hst ?_)); conv => whnf) | fail
      refine Walk.norm tab_ok [] [(5, _), (12, _), (13, _), (14, _), (16, _), (17, _), (18, _), (100, _), (101, _), (102, _)] ⟨rfl, rfl, rfl, rfl, rfl, rfl, rfl, rfl, rfl, rfl, trivial⟩ ?_
      conv => whnf
      repeat' first | ((first | (with_reducible apply XBr.tt) | (with_reducible apply XBr.ff)); conv => whnf) | ((with_reducible apply XBr.dec) <;> (intro h; first | (exfalso; omega) | ((try simp only [List.length_map] at h); first | (exfalso; omega) | (conv => whnf)))) | ((with_reducible apply XBr.beq) <;> (intro h; first | (exfalso; omega) | (conv => whnf))) | ((with_reducible apply XBr.bne) <;> (intro h; first | (exfalso; omega) | (conv => whnf))) | ((with_reducible refine XInt.i64 (by omega) (by omega) ?_); conv => whnf) | ((with_reducible refine XHold.mk ?_ ?_); (first | omega | rfl | decide | exact ⟨rfl, by decide, rfl⟩ | exact wideI _ | exact widePr _ | exact wideSk _ | (unfold Room; constructor <;> ((try simp) <;> omega)) | exact ⟨rfl, by simp only [List.length_map], by unfold Room; constructor <;> ((try simp) <;> omega)⟩ | exact ⟨by omega, by omega, by unfold Room; constructor <;> ((try simp) <;> omega)⟩); conv => whnf) | (with_reducible apply XAnd.mk) | ((first | (with_reducible apply Chk.go) | (with_reducible apply ChkA.go) | (with_reducible apply ChkF.go) | (with_reducible apply ChkB.go)); conv => whnf) | (exact XSame.mk rfl rfl) | (with_reducible exact trivial) | (apply Walk.drawN (id := 17) tab_ok mixed_ok [] [] (hsU _) [_, _, _, _, _, _, _, _, _, _, _] (by kernel_rfl) rfl) | ((first | (with_reducible apply XNext.mk) | (refine XInt.shlL hN2 (by omega) ?_) | (refine XCall.ret hpa' ?_)); conv => whnf) | fail
      all_goals
        refine Walk.loopGK tab_ok [] [(5, _), (12, _), (13, _), (14, _), (16, _), (17, _), (100, _), (101, _), (102, _), (153, _), (154, _)] ⟨rfl, rfl, rfl, rfl, rfl, rfl, rfl, rfl, rfl, rfl, rfl, trivial⟩ (fun g : Nat => g ≤ P.length) (fun g => [(19, .int .i64 (lstK2 s mi P g)), (155, natA g)]) (fun _ => [hpC u1, .cells (snC s)]) (fun g => P.length - g) 0 (Nat.zero_le _) rfl ⟨rfl, rfl, trivial⟩ ?_ (fun _ _ => (show (2 : Nat) ≤ 2 from Nat.le_refl 2)) ?_
        · intro j _
          refine ⟨fun z hz => ?_, fun z hz => ?_⟩
          · simp only [List.mem_cons, List.not_mem_nil, or_false] at hz
            rcases hz with rfl | rfl <;> first | exact hpC_low _ | exact snCL s
          · simp only [List.cons_append, List.nil_append, List.mem_cons, List.not_mem_nil, or_false] at hz
            rcases hz with rfl | rfl | rfl | rfl | rfl | rfl | rfl | rfl | rfl | rfl | rfl | rfl | rfl <;> first | rfl | exact nsL _
        intro g hg
        have hlx := lstK2_next (s := s) (m := mi) (P := P) (j := g)
        have hle : g = P.length → Z = lstK2 s mi P g := fun h => by rw [h]; exact hsl
        generalize lstK2 s mi P g = LS at hlx hle
        conv => whnf
        by_cases hgl : g < P.length
        · have hlx := hlx hgl
          obtain ⟨hl1, hl2⟩ := hPb _ (getD_mem (d := default) hgl)
          have hwo := fWorth_ok s hb s.home mi (P.getD g default : Nat) (sttE_iff.2 ⟨ok, h1, ⟨by omega, hmL⟩, by omega, by omega⟩)
          rw [show stN s.home (mi : Int) ((P.getD g default : Nat) : Int) = ⟨s.home.toNat, mi, P.getD g default⟩ from rfl] at hwo
          have hvl : vld s ⟨s.home.toNat, mi, P.getD g default⟩ := ⟨by show ((s.home.toNat : Nat) : Int) < s.places; omega, hmL, hl1⟩
          have hle1 := fun (i : Nat) (hk : worthZ s ⟨s.home.toNat, mi, P.getD g default⟩ ≠ -1) (hi : (P.getD g default).testBit i = true) => led_c s hb ok ⟨s.home.toNat, mi, P.getD g default⟩ i ⟨hvl, hk, hi⟩
          have hle2 := fun (i : Nat) (hk : worthZ s ⟨s.home.toNat, mi, P.getD g default⟩ ≠ -1) (hi : (P.getD g default).testBit i = true) => led_ge ok (s.last.toNat + 2) ⟨s.home.toNat, mi, P.getD g default⟩ ⟨hvl, hk, hi⟩ (by dsimp only; omega)
          rw [show staA ⟨s.home.toNat, mi, P.getD g default⟩ = .agg [.int .i64 s.home, natA mi, natA (P.getD g default)] by show AV.agg [natA s.home.toNat, _, _] = _; rw [hho]] at hle1
          generalize hkk : worthZ s ⟨s.home.toNat, mi, P.getD g default⟩ = K at hwo hlx hle1 hle2
          have hgo : some (AV.int .i64 (min LS K)) = some (AV.int .i64 (lstK2 s mi P (g + 1))) := by rw [hlx]
          clear hkk hvl
          by_cases hk : K = -1
          · skip
            repeat' first | ((with_reducible apply XBr.dec) <;> (intro h; first | (exfalso; omega) | ((try simp only [List.length_map] at h); first | (exfalso; omega) | (conv => whnf)))) | ((with_reducible apply XBr.beq) <;> (intro h; first | (exfalso; omega) | (conv => whnf))) | ((with_reducible apply XBr.bne) <;> (intro h; first | (exfalso; omega) | (conv => whnf))) | ((first | (with_reducible refine XInt.i64 (by omega) (by omega) ?_) | ((with_reducible refine XIx.nat ?_ ?_ ?_); omega; (intro _; rfl)) | (refine XCall.ret hwo ?_)); conv => whnf) | fail
            all_goals exact XAgainG.go (g + 1) [.cells [.int .i64 s.home, natA mi, natA (P.getD g default)]] (by omega) (by omega) rfl ⟨rfl, rfl, rfl, rfl, rfl, rfl, rfl, rfl, rfl, rfl, rfl, (by exact hgo), rfl, trivial⟩
          · skip
            repeat' first | ((with_reducible apply XBr.dec) <;> (intro h; first | (exfalso; omega) | ((try simp only [List.length_map] at h); first | (exfalso; omega) | (conv => whnf)))) | ((with_reducible apply XBr.beq) <;> (intro h; first | (exfalso; omega) | (conv => whnf))) | ((with_reducible apply XBr.bne) <;> (intro h; first | (exfalso; omega) | (conv => whnf))) | ((first | ((with_reducible refine XIx.nat ?_ ?_ ?_); omega; (intro _; rfl)) | (refine XCall.ret hwo ?_)); conv => whnf) | fail
            refine Walk.loopGK tab_ok [] [(5, _), (12, _), (13, _), (14, _), (16, _), (17, _), (19, _), (21, _), (22, _), (23, _), (100, _), (101, _), (102, _), (153, _), (154, _), (155, _), (179, _)] ⟨rfl, rfl, rfl, rfl, rfl, rfl, rfl, rfl, rfl, rfl, rfl, rfl, rfl, rfl, rfl, rfl, rfl, trivial⟩ (fun i : Nat => i ≤ s.truths.length) (fun i => [(180, natA i)]) (fun _ => [hpC u1, .cells (snC s), .cells [.int .i64 s.home, natA mi, natA (P.getD g default)]]) (fun i => s.truths.length - i) 0 (Nat.zero_le _) rfl ⟨rfl, trivial⟩ ?_ (fun _ _ => (show (3 : Nat) ≤ 3 from Nat.le_refl 3)) ?_
            · intro j _
              refine ⟨fun z hz => ?_, fun z hz => ?_⟩
              · simp only [List.mem_cons, List.not_mem_nil, or_false] at hz
                rcases hz with rfl | rfl | rfl <;> first | exact hpC_low _ | exact snCL s | rfl
              · simp only [List.cons_append, List.nil_append, List.mem_cons, List.not_mem_nil, or_false] at hz
                rcases hz with rfl | rfl | rfl | rfl | rfl | rfl | rfl | rfl | rfl | rfl | rfl | rfl | rfl | rfl | rfl | rfl | rfl | rfl <;> first | rfl | exact nsL _
            intro i hi
            conv => whnf
            by_cases hil : i < s.truths.length
            · have hbs := bit_sh (l := P.getD g default) (i := i) (by omega) (by omega)
              cases hbt : (P.getD g default).testBit i with
              | false =>
                rw [hbt, if_neg (by simp)] at hbs
                repeat' first | ((with_reducible apply XBr.dec) <;> (intro h; first | (exfalso; omega) | ((try simp only [List.length_map] at h); first | (exfalso; omega) | (conv => whnf)))) | ((with_reducible apply XBr.beq) <;> (intro h; first | (exfalso; omega) | (conv => whnf))) | ((with_reducible refine XInt.i64 (by omega) (by omega) ?_); conv => whnf) | ((with_reducible refine XHold.mk ?_ ?_); (first | omega | rfl | decide | exact ⟨rfl, by decide, rfl⟩ | exact wideI _ | exact widePr _ | exact wideSk _ | (unfold Room; constructor <;> ((try simp) <;> omega)) | exact ⟨rfl, by simp only [List.length_map], by unfold Room; constructor <;> ((try simp) <;> omega)⟩ | exact ⟨by omega, by omega, by unfold Room; constructor <;> ((try simp) <;> omega)⟩); conv => whnf) | (rw [hbs]; conv => whnf) | fail
                all_goals first | exact XAgainG.go (i + 1) [] (by omega) (by omega) rfl ⟨rfl, rfl, rfl, rfl, rfl, rfl, rfl, rfl, rfl, rfl, rfl, rfl, rfl, rfl, rfl, rfl, rfl, rfl, trivial⟩ | (exfalso; exact h hbs) | (exfalso; omega)
              | true =>
                rw [hbt, if_pos rfl] at hbs
                have hm1 := hle1 i hk hbt
                have hm2 := hle2 i hk hbt
                generalize ledR s i (s.last.toNat + 2) ⟨s.home.toNat, mi, P.getD g default⟩ = wk at hm1 hm2
                repeat' first | ((first | (with_reducible apply XBr.tt) | (with_reducible apply XBr.ff)); conv => whnf) | (with_reducible apply XBr.not) | ((with_reducible apply XBr.dec) <;> (intro h; first | (exfalso; omega) | ((try simp only [List.length_map] at h); first | (exfalso; omega) | (conv => whnf)))) | ((with_reducible apply XBr.beq) <;> (intro h; first | (exfalso; omega) | (conv => whnf))) | ((with_reducible refine XInt.i64 (by omega) (by omega) ?_); conv => whnf) | ((with_reducible refine XHold.mk ?_ ?_); (first | omega | rfl | decide | exact ⟨rfl, by decide, rfl⟩ | exact wideI _ | exact widePr _ | exact wideSk _ | (unfold Room; constructor <;> ((try simp) <;> omega)) | exact ⟨rfl, by simp only [List.length_map], by unfold Room; constructor <;> ((try simp) <;> omega)⟩ | exact ⟨by omega, by omega, by unfold Room; constructor <;> ((try simp) <;> omega)⟩); conv => whnf) | (with_reducible apply XAnd.mk) | ((first | (with_reducible apply Chk.go) | (with_reducible apply ChkA.go) | (with_reducible apply ChkF.go) | (with_reducible apply ChkB.go)); conv => whnf) | (exact XSame.mk rfl rfl) | (with_reducible exact trivial) | (apply Walk.drawN (id := 30) tab_ok mixed_ok [] [] (hsU _) [_, _, _, _, _, _, _, _, _, _] (by kernel_rfl) rfl) | ((with_reducible apply XNext.mk); conv => whnf) | (rw [hbs]; conv => whnf) | ((first | (refine XInt.shl (by omega) ?_) | (refine XCall.ret hm1 ?_)); conv => whnf) | fail
                all_goals first | exact XAgainG.go (i + 1) [] (by omega) (by omega) rfl ⟨rfl, rfl, rfl, rfl, rfl, rfl, rfl, rfl, rfl, rfl, rfl, rfl, rfl, rfl, rfl, rfl, rfl, rfl, trivial⟩ | (exfalso; exact absurd (hbs.symm.trans h) (by decide)) | (exfalso; omega)
            repeat' first | ((with_reducible apply XBr.dec) <;> (intro h; first | (exfalso; omega) | ((try simp only [List.length_map] at h); first | (exfalso; omega) | (conv => whnf)))) | ((with_reducible refine XInt.i64 (by omega) (by omega) ?_); conv => whnf) | fail
            exact XAgainG.go (g + 1) [.cells [.int .i64 s.home, natA mi, natA (P.getD g default)]] (by omega) (by omega) rfl ⟨rfl, rfl, rfl, rfl, rfl, rfl, rfl, rfl, rfl, rfl, rfl, (by exact hgo), rfl, trivial⟩
        have hZ := hle (by omega)
        repeat' first | ((with_reducible apply XBr.dec) <;> (intro h; first | (exfalso; omega) | ((try simp only [List.length_map] at h); first | (exfalso; omega) | (conv => whnf)))) | ((with_reducible apply XBr.bne) <;> (intro h; first | (exfalso; omega) | (conv => whnf))) | ((with_reducible refine XInt.i64 (by omega) (by omega) ?_); conv => whnf) | fail
        exact XAgainG.go (j + 1) [] (by omega) (by omega) rfl ⟨rfl, rfl, rfl, rfl, rfl, rfl, rfl, trivial⟩
    repeat' first | ((with_reducible apply XBr.dec) <;> (intro h; first | (exfalso; omega) | ((try simp only [List.length_map] at h); first | (exfalso; omega) | (conv => whnf)))) | ((refine XCall.ret awake02_c ?_); conv => whnf) | fail
    exact XOut.bool rfl
end GA
end
