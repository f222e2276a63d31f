/- Part 6 of a proof: F17, F18, F51, F52, F55, F56, F30, F58, F35, F36, F43, F65, F77, F46, F19, F74, F75, Abs43, F79, F7, F20. -/
import Derived.Test.YtinbgkoefajhbaaP5
section
namespace GA
open Go Go.RowKit Go.Proofs
set_option pp.deepTerms true
set_option maxRecDepth 8000
set_option linter.unusedVariables false
set_option linter.unusedSimpArgs false

def sgsA (l : List (Int × Int)) : AV := .sl l.isEmpty (l.map sgA)
theorem allN16 {s : Sn} (ok : SnOk s) : allN s < 16 := by
  have h2 : 2 ^ s.truths.length ≤ 2 ^ 4 := Nat.pow_le_pow_right (by omega) ok.t2
  unfold allN; omega
theorem stN_ok {s : Sn} {p m l : Int} (h : sttE s p m l = 0) : StOk s (stN p m l) := by
  obtain ⟨ok, h1, h2, h3, h4⟩ := sttE_iff.1 h
  have := allN16 ok
  exact ⟨by show ((p.toNat : Nat) : Int) < _; omega, by show ((m.toNat : Nat) : Int) ≤ _; omega, by show l.toNat ≤ 1000; omega⟩
theorem fSteps_ok (s : Sn) (hb : SnB s) (p m l : Int) (h : sttE s p m l = 0) : Comp Try.prog 46 [snA s, xA p m l] (.tup [sgsA (stepsS s (stN p m l)), .int .i64 0]) := by
  have hs := stated_ok s hb p m l h
  obtain ⟨ok, h1, h2, h3, h4⟩ := sttE_iff.1 h
  have hxe := xA_st h1.1 h2.1 (show 0 ≤ l by omega)
  have hx := stN_ok h
  rw [hxe] at hs ⊢
  generalize stN p m l = x at hs hx
  clear h h1 h2 h3 h4 hxe
  have p1 := ok.p1; have p2 := ok.p2; have l1 := ok.l1; have l2 := ok.l2; have w1 := ok.w1
  have x1 := hx.p; have x2 := hx.m; have x3 := hx.l
  have hmg : mget (x.p : Int) ((keyF s).zip ((esF s s.places.toNat).map (·.2))) = some (.sl false ((waysL s x.p).map sgA)) := by
    unfold keyF; rw [zip_fs]; exact esF_get s _ _ (by omega)
  have hst := fsteps_c s x
  have hsd : stepsS s x = (waysL s x.p).filter fun t => !(afterS s x t).isEmpty := rfl
  have hwl : (waysL s x.p).length ≤ 55 := by
    have h := waysK_len s x.p s.places.toNat
    have h2 : s.places.toNat * (1 + s.ways.length) ≤ 5 * 11 := Nat.mul_le_mul (by omega) (by omega)
    show (waysK s x.p s.places.toNat).length ≤ 55
    omega
  have hwm := fun t (h : t ∈ waysL s x.p) => waysL_pos ok h
  rw [hsd]
  generalize waysL s x.p = W at hmg hwl hwm
  have e1 : ((W.map sgA).length : Int) = W.length := by rw [List.length_map]
  refine Comp.body' (T := tab) (res := [.tmp 4, .tmp 5]) tab_ok [] Try.func46 rfl (by kernel_rfl) Try.ntmps46 rfl (by simp only [List.length_cons, List.length_nil]; decide) (by simp only [lowL, snL, staL]; rfl) ?_; conv => whnf
  repeat' first | ((with_reducible first | apply XBr.tt | apply XBr.ff | apply Chk.go | apply ChkA.go | apply ChkF.go | apply ChkB.go | apply XArr.pim0 | apply XArr.pim1); conv => whnf) | (with_reducible apply XBr.not) | ((with_reducible apply XBr.dec) <;> (intro h; first | (exfalso; omega) | ((try simp only [List.length_map] at h); first | (exfalso; omega) | (conv => whnf)))) | ((with_reducible first | apply XBr.beq | apply XBr.bne) <;> (intro h; first | (exfalso; omega) | (conv => whnf))) | ((with_reducible refine XInt.i64 (by omega) (by omega) ?_); conv => whnf) | ((with_reducible refine XHold.mk ?_ ?_); (first | omega | rfl | decide | exact ⟨rfl, by decide, rfl⟩ | exact wideI _ | exact widePr _ | exact wideSk _ | (unfold Room; constructor <;> ((try simp) <;> omega)) | exact ⟨rfl, by simp only [List.length_map], by unfold Room; constructor <;> ((try simp) <;> omega)⟩ | exact ⟨by omega, by omega, by unfold Room; constructor <;> ((try simp) <;> omega)⟩); conv => whnf) | ((first | ((with_reducible refine XIx.nat ?_ ?_ ?_); omega; (intro _; rfl)) | ((with_reducible refine XIx.map ?_ ?_ ?_ ?_); omega; omega; (intro _; rfl))); conv => whnf) | (with_reducible apply XAnd.mk) | (exact XSame.mk rfl rfl) | (exact XSame.mk (by first | rfl | (simp only [List.map_append, List.length_append, List.length_map]; done) | (simp only [List.map_append, List.length_append, List.length_map]; rfl)) (by first | rfl | (simp only [List.map_append]; done) | (simp only [List.map_append]; rfl))) | (with_reducible exact trivial) | ((first | (with_reducible refine xdrop_app (by rw [List.length_map]; omega) ?_) | (with_reducible refine XDrop.desk (by assumption) ?_) | (with_reducible first | refine XArr.ints (by omega) (by omega) (by omega) ?_ | refine XArr.intsA (by omega) (by omega) (by omega) ?_) | ((with_reducible first | refine XArr.nats ?_ ?_ ?_ | refine XArr.natsA ?_ ?_ ?_ | refine XArr.ptr ?_ ?_ ?_); omega; omega) | (with_reducible apply XNext.mk) | (refine XCall.ret hs ?_) | (refine XCall.ret hst ?_)); conv => whnf) | ((with_reducible apply XBr.mk') <;> (intro h; conv => whnf))
  refine Walk.nilcell 0 0 108 rfl rfl ?_
  refine Walk.range (own := []) tab_ok [(4, .sl true []), (5, .int .i64 0), (8, .ptr 0 0)] rfl ⟨rfl, rfl, rfl, trivial⟩ ?_
  intro fn
  refine XCall.inl (T := tab) (res := []) tab_ok [] Try.func135 rfl (by kernel_rfl) Try.ntmps135 rfl (by simp only [List.length_append, List.length_cons, List.length_nil]; decide) ?_; conv => whnf
  repeat' first | ((with_reducible first | apply XBr.tt | apply XBr.ff | apply Chk.go | apply ChkA.go | apply ChkF.go | apply ChkB.go | apply XArr.pim0 | apply XArr.pim1); conv => whnf) | (with_reducible apply XBr.not) | ((with_reducible apply XBr.dec) <;> (intro h; first | (exfalso; omega) | ((try simp only [List.length_map] at h); first | (exfalso; omega) | (conv => whnf)))) | ((with_reducible first | apply XBr.beq | apply XBr.bne) <;> (intro h; first | (exfalso; omega) | (conv => whnf))) | ((with_reducible refine XInt.i64 (by omega) (by omega) ?_); conv => whnf) | ((with_reducible refine XHold.mk ?_ ?_); (first | omega | rfl | decide | exact ⟨rfl, by decide, rfl⟩ | exact wideI _ | exact widePr _ | exact wideSk _ | (unfold Room; constructor <;> ((try simp) <;> omega)) | exact ⟨rfl, by simp only [List.length_map], by unfold Room; constructor <;> ((try simp) <;> omega)⟩ | exact ⟨by omega, by omega, by unfold Room; constructor <;> ((try simp) <;> omega)⟩); conv => whnf) | ((first | ((with_reducible refine XIx.nat ?_ ?_ ?_); omega; (intro _; rfl)) | ((with_reducible refine XIx.map ?_ ?_ ?_ ?_); omega; omega; (intro _; rfl))); conv => whnf) | (with_reducible apply XAnd.mk) | (exact XSame.mk rfl rfl) | (exact XSame.mk (by first | rfl | (simp only [List.map_append, List.length_append, List.length_map]; done) | (simp only [List.map_append, List.length_append, List.length_map]; rfl)) (by first | rfl | (simp only [List.map_append]; done) | (simp only [List.map_append]; rfl))) | (with_reducible exact trivial) | ((first | (with_reducible refine xdrop_app (by rw [List.length_map]; omega) ?_) | (with_reducible refine XDrop.desk (by assumption) ?_) | (with_reducible first | refine XArr.ints (by omega) (by omega) (by omega) ?_ | refine XArr.intsA (by omega) (by omega) (by omega) ?_) | ((with_reducible first | refine XArr.nats ?_ ?_ ?_ | refine XArr.natsA ?_ ?_ ?_ | refine XArr.ptr ?_ ?_ ?_); omega; omega)); conv => whnf) | (apply Walk.drawN (id := 0) tab_ok mixed_ok [] [] (hsU _) [_, _, _, _, _, _, _, _, _] (by kernel_rfl) rfl) | ((first | (with_reducible apply XNext.mk) | (refine XDrop.dskF ?_) | (refine XGetM.mk' hmg ?_)); conv => whnf) | ((with_reducible apply XBr.mk') <;> (intro h; conv => whnf))
  refine Walk.loopGKL tab_ok [] _ [(0, _), (1, _), (2, _), (13, _), (14, _)] ⟨rfl, rfl, rfl, rfl, rfl, trivial⟩ (fun k : Nat => k ≤ W.length) (fun k => [(15, natA k)]) (fun lp k => [.cells [.gr 1 ((W.take k).filter fun t => !(afterS s x t).isEmpty).length], .grow 108 ((W.take k).filter fun t => !(afterS s x t).isEmpty).isEmpty (((W.take k).filter fun t => !(afterS s x t).isEmpty).map sgA), .raw (.deferred (some [])), lp]) (fun k => W.length - k) 0 (Nat.zero_le _) rfl ⟨rfl, trivial⟩ ?_ (fun _ _ => (show (4 : Nat) ≤ 4 from Nat.le_refl 4)) ?_
  · intro k _
    refine ⟨fun z hz => ?_, fun z hz => ?_⟩
    · show z.low 4 = true
      simp only [List.mem_cons, List.not_mem_nil, or_false] at hz
      rcases hz with rfl | rfl | rfl | rfl <;> first | rfl | exact lowSg _
    · show z.2.low 4 = true
      simp only [List.cons_append, List.nil_append, List.mem_cons, List.not_mem_nil, or_false] at hz
      rcases hz with rfl | rfl | rfl | rfl | rfl | rfl <;> first | rfl | exact lowSg _ | (simp only [AV.low, lowL, dskFL]; rfl)
  intro k hk
  have hnx : k < W.length → (W.take (k + 1)).filter (fun t => !(afterS s x t).isEmpty) = (W.take k).filter (fun t => !(afterS s x t).isEmpty) ++ if (!(afterS s x (W.getD k default)).isEmpty) = true then [W.getD k default] else [] := fun h => by
    rw [take_next h, List.filter_append]
    congr 1
    by_cases e : (!(afterS s x (W.getD k default)).isEmpty) = true
    · rw [if_pos e, List.filter_cons, if_pos e]; rfl
    · rw [if_neg e, List.filter_cons, if_neg e]; rfl
  have hend : k = W.length → (W.take k).filter (fun t => !(afterS s x t).isEmpty) = W.filter fun t => !(afterS s x t).isEmpty := fun h => by rw [h, List.take_length]
  have hlen : ((W.take k).filter fun t => !(afterS s x t).isEmpty).length ≤ k := Nat.le_trans (List.length_filter_le _ _) (by rw [List.length_take]; omega)
  generalize (W.take k).filter (fun t => !(afterS s x t).isEmpty) = R at hnx hend hlen
  have hRl : (R.map sgA).length = R.length := List.length_map _
  conv => whnf
  by_cases hlt : k < W.length
  · have hw := hwm _ (getD_mem (d := default) hlt)
    have hfa := fafter_c s ok x hx (W.getD k default) (by omega) (by omega)
    have hnx := hnx hlt
    cases haf : afterS s x (W.getD k default) with
    | nil =>
      rw [haf] at hfa hnx
      have e0 : (([] : List AV).length : Int) = 0 := rfl
      have hfa' : Comp Try.prog 136 [dskFA s, staA x, sgA (W.getD k default)] (.sl true []) := hfa
      have hx' : (W.take (k + 1)).filter (fun t => !(afterS s x t).isEmpty) = R := by rw [hnx]; simp
      repeat' first | ((with_reducible first | apply XBr.tt | apply XBr.ff | apply Chk.go | apply ChkA.go | apply ChkF.go | apply ChkB.go | apply XArr.pim0 | apply XArr.pim1); conv => whnf) | (with_reducible apply XBr.not) | ((with_reducible apply XBr.dec) <;> (intro h; first | (exfalso; omega) | ((try simp only [List.length_map] at h); first | (exfalso; omega) | (conv => whnf)))) | ((with_reducible first | apply XBr.beq | apply XBr.bne) <;> (intro h; first | (exfalso; omega) | (conv => whnf))) | ((with_reducible refine XInt.i64 (by omega) (by omega) ?_); conv => whnf) | ((with_reducible refine XHold.mk ?_ ?_); (first | omega | rfl | decide | exact ⟨rfl, by decide, rfl⟩ | exact wideI _ | exact widePr _ | exact wideSk _ | (unfold Room; constructor <;> ((try simp) <;> omega)) | exact ⟨rfl, by simp only [List.length_map], by unfold Room; constructor <;> ((try simp) <;> omega)⟩ | exact ⟨by omega, by omega, by unfold Room; constructor <;> ((try simp) <;> omega)⟩); conv => whnf) | ((first | ((with_reducible refine XIx.nat ?_ ?_ ?_); omega; (intro _; rfl)) | ((with_reducible refine XIx.map ?_ ?_ ?_ ?_); omega; omega; (intro _; rfl))); conv => whnf) | (with_reducible apply XAnd.mk) | (exact XSame.mk rfl rfl) | (exact XSame.mk (by first | rfl | (simp only [List.map_append, List.length_append, List.length_map]; done) | (simp only [List.map_append, List.length_append, List.length_map]; rfl)) (by first | rfl | (simp only [List.map_append]; done) | (simp only [List.map_append]; rfl))) | (with_reducible exact trivial) | ((first | (with_reducible refine xdrop_app (by rw [List.length_map]; omega) ?_) | (with_reducible refine XDrop.desk (by assumption) ?_) | (with_reducible first | refine XArr.ints (by omega) (by omega) (by omega) ?_ | refine XArr.intsA (by omega) (by omega) (by omega) ?_) | ((with_reducible first | refine XArr.nats ?_ ?_ ?_ | refine XArr.natsA ?_ ?_ ?_ | refine XArr.ptr ?_ ?_ ?_); omega; omega)); conv => whnf) | (apply Walk.drawN (id := 0) tab_ok mixed_ok [] [] (hsU _) [_, _, _, _, _, _, _, _, _] (by kernel_rfl) rfl) | ((first | (with_reducible apply XNext.mk) | (refine XCall.ret hfa' ?_)); conv => whnf) | ((with_reducible apply XBr.mk') <;> (intro h; conv => whnf))
      refine XAgainG.go (k + 1) [.cells (sgA (W.getD k default)).cells] (by omega) (by omega) ?_ ⟨rfl, rfl, rfl, rfl, rfl, rfl, trivial⟩
      show [Blk.cells [.gr 1 ((W.take (k + 1)).filter fun t => !(afterS s x t).isEmpty).length], .grow _ ((W.take (k + 1)).filter fun t => !(afterS s x t).isEmpty).isEmpty (((W.take (k + 1)).filter fun t => !(afterS s x t).isEmpty).map sgA), _, _] ++ _ = _
      rw [hx']; rfl
    | cons y0 L =>
      rw [haf] at hfa hnx
      have e2 : (((y0 :: L).map staA).length : Int) = L.length + 1 := by rw [List.length_map, List.length_cons]; omega
      have hfa' : Comp Try.prog 136 [dskFA s, staA x, sgA (W.getD k default)] (.sl false ((y0 :: L).map staA)) := hfa
      have hx' : (W.take (k + 1)).filter (fun t => !(afterS s x t).isEmpty) = R ++ [W.getD k default] := by rw [hnx]; simp
      repeat' first | ((with_reducible first | apply XBr.tt | apply XBr.ff | apply Chk.go | apply ChkA.go | apply ChkF.go | apply ChkB.go | apply XArr.pim0 | apply XArr.pim1); conv => whnf) | (with_reducible apply XBr.not) | ((with_reducible apply XBr.dec) <;> (intro h; first | (exfalso; omega) | ((try simp only [List.length_map] at h); first | (exfalso; omega) | (conv => whnf)))) | ((with_reducible first | apply XBr.beq | apply XBr.bne) <;> (intro h; first | (exfalso; omega) | (conv => whnf))) | ((with_reducible refine XInt.i64 (by omega) (by omega) ?_); conv => whnf) | ((with_reducible refine XHold.mk ?_ ?_); (first | omega | rfl | decide | exact ⟨rfl, by decide, rfl⟩ | exact wideI _ | exact widePr _ | exact wideSk _ | (unfold Room; constructor <;> ((try simp) <;> omega)) | exact ⟨rfl, by simp only [List.length_map], by unfold Room; constructor <;> ((try simp) <;> omega)⟩ | exact ⟨by omega, by omega, by unfold Room; constructor <;> ((try simp) <;> omega)⟩); conv => whnf) | ((first | ((with_reducible refine XIx.nat ?_ ?_ ?_); omega; (intro _; rfl)) | ((with_reducible refine XIx.map ?_ ?_ ?_ ?_); omega; omega; (intro _; rfl))); conv => whnf) | (with_reducible apply XAnd.mk) | (exact XSame.mk rfl rfl) | (exact XSame.mk (by first | rfl | (simp only [List.map_append, List.length_append, List.length_map]; done) | (simp only [List.map_append, List.length_append, List.length_map]; rfl)) (by first | rfl | (simp only [List.map_append]; done) | (simp only [List.map_append]; rfl))) | (with_reducible exact trivial) | ((first | (with_reducible refine xdrop_app (by rw [List.length_map]; omega) ?_) | (with_reducible refine XDrop.desk (by assumption) ?_) | (with_reducible first | refine XArr.ints (by omega) (by omega) (by omega) ?_ | refine XArr.intsA (by omega) (by omega) (by omega) ?_) | ((with_reducible first | refine XArr.nats ?_ ?_ ?_ | refine XArr.natsA ?_ ?_ ?_ | refine XArr.ptr ?_ ?_ ?_); omega; omega)); conv => whnf) | (apply Walk.drawN (id := 0) tab_ok mixed_ok [] [] (hsU _) [_, _, _, _, _, _, _, _, _] (by kernel_rfl) rfl) | ((first | (with_reducible apply XNext.mk) | (refine XCall.ret hfa' ?_) | ((refine XYield.go (own := []) tab_ok rfl rfl (by decide) ?_); intro ρ)); conv => whnf) | ((refine XHold.mk ⟨rfl, hRl, by unfold Room; constructor <;> ((try simp) <;> omega)⟩ ?_); conv => whnf) | ((with_reducible apply XBr.mk') <;> (intro h; conv => whnf))
      refine XAgainG.go (k + 1) [.cells (sgA (W.getD k default)).cells, .cells (sgA (W.getD k default)).cells] (by omega) (by omega) ?_ ⟨rfl, rfl, rfl, rfl, rfl, rfl, trivial⟩
      show [Blk.cells [.gr 1 ((W.take (k + 1)).filter fun t => !(afterS s x t).isEmpty).length], .grow _ ((W.take (k + 1)).filter fun t => !(afterS s x t).isEmpty).isEmpty (((W.take (k + 1)).filter fun t => !(afterS s x t).isEmpty).map sgA), _, _] ++ _ = _
      rw [hx', List.length_append, isEmpty_app, List.map_append]; rfl
  obtain rfl : k = W.length := by omega
  rw [← hend rfl]
  repeat' first | ((with_reducible first | apply XBr.tt | apply XBr.ff | apply Chk.go | apply ChkA.go | apply ChkF.go | apply ChkB.go | apply XArr.pim0 | apply XArr.pim1); conv => whnf) | (with_reducible apply XBr.not) | ((with_reducible apply XBr.dec) <;> (intro h; first | (exfalso; omega) | ((try simp only [List.length_map] at h); first | (exfalso; omega) | (conv => whnf)))) | ((with_reducible first | apply XBr.beq | apply XBr.bne) <;> (intro h; first | (exfalso; omega) | (conv => whnf))) | ((with_reducible refine XInt.i64 (by omega) (by omega) ?_); conv => whnf) | ((with_reducible refine XHold.mk ?_ ?_); (first | omega | rfl | decide | exact ⟨rfl, by decide, rfl⟩ | exact wideI _ | exact widePr _ | exact wideSk _ | (unfold Room; constructor <;> ((try simp) <;> omega)) | exact ⟨rfl, by simp only [List.length_map], by unfold Room; constructor <;> ((try simp) <;> omega)⟩ | exact ⟨by omega, by omega, by unfold Room; constructor <;> ((try simp) <;> omega)⟩); conv => whnf) | ((first | ((with_reducible refine XIx.nat ?_ ?_ ?_); omega; (intro _; rfl)) | ((with_reducible refine XIx.map ?_ ?_ ?_ ?_); omega; omega; (intro _; rfl))); conv => whnf) | (with_reducible apply XAnd.mk) | (exact XSame.mk rfl rfl) | (exact XSame.mk (by first | rfl | (simp only [List.map_append, List.length_append, List.length_map]; done) | (simp only [List.map_append, List.length_append, List.length_map]; rfl)) (by first | rfl | (simp only [List.map_append]; done) | (simp only [List.map_append]; rfl))) | (with_reducible exact trivial) | ((first | (with_reducible refine xdrop_app (by rw [List.length_map]; omega) ?_) | (with_reducible refine XDrop.desk (by assumption) ?_) | (with_reducible first | refine XArr.ints (by omega) (by omega) (by omega) ?_ | refine XArr.intsA (by omega) (by omega) (by omega) ?_) | ((with_reducible first | refine XArr.nats ?_ ?_ ?_ | refine XArr.natsA ?_ ?_ ?_ | refine XArr.ptr ?_ ?_ ?_); omega; omega)); conv => whnf) | (apply Walk.drawN (id := 0) tab_ok mixed_ok [] [] (hsU _) [_, _, _, _, _, _, _, _, _] (by kernel_rfl) rfl) | ((with_reducible apply XNext.mk); conv => whnf) | ((with_reducible apply XBr.mk') <;> (intro h; conv => whnf))
  exact ⟨Froz.tup (.cons (Froz.grow rfl hRl (lowSg _)) (.cons (.low rfl) .nil))⟩
end GA
end

section
namespace GA
open Go Go.RowKit Go.Proofs
set_option pp.deepTerms true
set_option maxRecDepth 8000
set_option linter.unusedVariables false
set_option linter.unusedSimpArgs false

theorem wTab_at (s : Sn) (ok : SnOk s) {p m l : Nat} (hv : vld s ⟨p, m, l⟩) : (wTab s)[976 * p + 16 * m + l]? = some (.int .i64 (worthZ s ⟨p, m, l⟩)) := by
  have p2 := ok.p2; have l2 := ok.l2; have hal := allN_lt ok
  obtain ⟨v1, v2, v3⟩ := hv
  dsimp only at v1 v2 v3
  have h := vec_at (f := AV.int .i64) (W := 4880) (F := G3 (wNum s (vldB s))) (j := 976 * p + 16 * m + l) (by omega)
  rw [G3_at _ (by omega) (by omega), wNum_at (vldB_iff.2 ⟨v1, v2, v3⟩)] at h
  exact h
theorem wof_c (s : Sn) (ok : SnOk s) (x : Sta) (hv : vld s x) : Comp Try.prog 43 [wsA s, staA x] (.int .i64 (worthZ s x)) := by
  have p2 := ok.p2; have l2 := ok.l2; have hal := allN_lt ok
  have ha := wTab_at s ok hv
  obtain ⟨v1, v2, v3⟩ := hv
  refine Comp.body (T := tab) (res := [.tmp 4]) tab_ok [] Try.func43 rfl (by kernel_rfl) Try.ntmps43 rfl (by simp only [List.length_cons, List.length_nil]; decide) (by simp only [lowL, worsL, staL]; rfl) ?_; conv => whnf
  repeat' first | (with_reducible apply XAnd.mk) | ((first | (with_reducible apply Chk.go) | (with_reducible apply ChkA.go) | (with_reducible apply ChkF.go) | (with_reducible apply ChkB.go)); conv => whnf) | (exact XSame.mk rfl rfl) | (with_reducible exact trivial) | (apply Walk.drawN (id := 1) tab_ok mixed_ok [] [] (hsU _) [_, _, _, _, _, _, _, _, _, _, _, _, _] (by kernel_rfl) rfl) | ((first | (with_reducible apply XNext.mk) | (refine XArr.at _ (by omega) (by omega) (by rw [List.getElem?_drop, List.getElem?_drop, show (x.p : Int).toNat * 976 + ((x.m : Int).toNat * 16 + (x.l : Int).toNat * 1) = 976 * x.p + 16 * x.m + x.l by omega]; exact ha) ?_) | (refine XArr.pim (by omega) (by omega) ?_)); conv => whnf) | fail
  exact ⟨.low rfl⟩
def turnB (s : Sn) (l b : Nat) : Bool := worthZ s ⟨s.bed.toNat, s.last.toNat - b, l⟩ != -1
def turnN (s : Sn) (l : Nat) : Int := match (List.range (s.last.toNat + 1)).find? (turnB s l) with | some b => s.last - b | none => -1
theorem find_range_none {f : Nat → Bool} {n : Nat} (h : ∀ j, j < n → f j = false) : (List.range n).find? f = none := by
  rw [List.find?_eq_none]
  intro j hj
  rw [h j (List.mem_range.1 hj)]; simp
theorem find_range_some {f : Nat → Bool} : ∀ {n k : Nat}, k < n → f k = true → (∀ j, j < k → f j = false) → (List.range n).find? f = some k
  | n + 1, k, hk, h1, h2 => by
    rw [List.range_succ, List.find?_append]
    by_cases e : k < n
    · rw [find_range_some e h1 h2]; rfl
    · obtain rfl : k = n := by omega
      rw [find_range_none h2]
      rw [Option.none_or, List.find?_cons, h1]
theorem fTurn_ok (s : Sn) (hb : SnB s) (l : Nat) (ok : SnOk s) (h1 : 1 ≤ l) (h2 : l ≤ allN s) : Comp Try.prog 11 [snA s, natA l] (.tup [.int .i64 (if turnN s l = -1 then 0 else turnN s l), .int .i64 (if turnN s l = -1 then 6 else 0)]) := by
  have ho := fdOpened_c s hb ok
  have hst := fset_c s ok l
  have p2 := ok.p2; have l1 := ok.l1; have l2 := ok.l2; have b1 := ok.b1; have hal := allN_lt ok
  rw [inZ_iff.2 ⟨by omega, by omega⟩] at hst
  have hw := worths_c s ok
  obtain ⟨L0, hL0⟩ : ∃ L0 : Nat, s.last = L0 := ⟨s.last.toNat, by omega⟩
  refine Comp.body (T := tab) (res := [.tmp 4, .tmp 5]) tab_ok [] Try.func11 rfl (by kernel_rfl) Try.ntmps11 rfl (by simp only [List.length_cons, List.length_nil]; decide) (by simp only [lowL, AV.low, snL]; rfl) ?_; conv => whnf
  skip
  refine Walk.scope tab_ok [] ?_
  conv => whnf
  repeat' first | ((with_reducible apply XBr.tt); conv => whnf) | (with_reducible apply XBr.not) | ((with_reducible apply XBr.bne) <;> (intro h; first | (exfalso; omega) | (conv => whnf))) | ((first | (refine XCall.ret ho ?_) | (refine XCall.ret hst ?_) | (refine XCall.ret hw ?_)); conv => whnf) | fail
  refine Walk.label ?_
  conv => whnf
  repeat' first | ((with_reducible refine XInt.i64 (by omega) (by omega) ?_); conv => whnf) | fail
  refine Walk.loopK tab_ok [] [(1, _), (2, _), (4, _), (5, _), (8, _), (29, _)] ⟨rfl, rfl, rfl, rfl, rfl, rfl, trivial⟩ (fun k : Nat => k ≤ L0 + 1 ∧ ∀ j, j < k → turnB s l j = false) (fun k => [(9, .int .i64 (-1)), (30, natA k)]) (fun _ => []) (fun k => L0 + 1 - k) 0 ⟨Nat.zero_le _, fun j hj => by omega⟩ rfl ⟨rfl, rfl, trivial⟩ ?_
  rintro k ⟨hk, hs⟩
  conv => whnf
  by_cases hlt : k < L0 + 1
  · have hof := wof_c s ok ⟨s.bed.toNat, s.last.toNat - k, l⟩ ⟨by show ((s.bed.toNat : Nat) : Int) < s.places; omega, by show ((s.last.toNat - k : Nat) : Int) ≤ s.last; omega, h2⟩
    have hst2 : staA ⟨s.bed.toNat, s.last.toNat - k, l⟩ = .agg [.int .i64 s.bed, .int .i64 (s.last - k), natA l] := by
      unfold staA natA; dsimp only; rw [show ((s.last.toNat - k : Nat) : Int) = s.last - k by omega, Int.toNat_of_nonneg b1.1]
    rw [hst2] at hof
    have htb : turnB s l k = (worthZ s ⟨s.bed.toNat, s.last.toNat - k, l⟩ != -1) := rfl
    generalize worthZ s ⟨s.bed.toNat, s.last.toNat - k, l⟩ = v at hof htb
    repeat' first | ((with_reducible apply XBr.dec) <;> (intro h; first | (exfalso; omega) | ((try simp only [List.length_map] at h); first | (exfalso; omega) | (conv => whnf)))) | ((with_reducible apply XBr.beq) <;> (intro h; first | (exfalso; omega) | (conv => whnf))) | ((with_reducible apply XBr.bne) <;> (intro h; first | (exfalso; omega) | (conv => whnf))) | ((first | (with_reducible refine XInt.i64 (by omega) (by omega) ?_) | (refine XCall.ret hof ?_)); conv => whnf) | fail
    · have hf : turnN s l = s.last - k := by
        unfold turnN
        rw [find_range_some (k := k) (by omega) (by rw [htb]; simpa using (show v ≠ -1 by assumption)) hs]
      rw [hf, if_neg (by omega), if_neg (by omega)]
      exact ⟨.low rfl⟩
    · refine XAgain.go (k + 1) ⟨by omega, fun j hj => ?_⟩ (by omega) rfl ⟨rfl, rfl, rfl, rfl, rfl, rfl, rfl, rfl, trivial⟩
      by_cases e : j = k
      · subst e; rw [htb]; simpa using (show v = -1 by assumption)
      · exact hs j (by omega)
  obtain rfl : k = L0 + 1 := by omega
  have hf : turnN s l = -1 := by
    unfold turnN
    rw [find_range_none (fun j hj => hs j (by omega))]
  rw [hf, if_pos rfl, if_pos rfl]
  clear hs
  repeat' first | ((with_reducible apply XBr.dec) <;> (intro h; first | (exfalso; omega) | ((try simp only [List.length_map] at h); first | (exfalso; omega) | (conv => whnf)))) | ((with_reducible apply XBr.beq) <;> (intro h; first | (exfalso; omega) | (conv => whnf))) | fail
  exact ⟨.low rfl⟩
theorem index_sg (nl : Bool) (xs : List (Int × Int)) (t : Int × Int) (hx : xs.length ≤ 100000) : Comp Try.prog 137 [.sl nl (xs.map sgA), sgA t] (.int .i64 (idxR (fun y => t == y) xs)) := by
  have e1 : ((xs.map sgA).length : Int) = xs.length := by rw [List.length_map]
  refine Comp.body (T := tab) (res := [.tmp 4]) tab_ok [] Try.func137 rfl (by kernel_rfl) Try.ntmps137 rfl (by simp only [List.length_cons, List.length_nil]; decide) (by simp only [lowL, AV.low, lowSg, sgL]; rfl) ?_; conv => whnf
  skip
  refine Walk.loopK tab_ok [] [(0, _), (3, _), (7, _)] ⟨rfl, rfl, rfl, trivial⟩ (fun i : Nat => i ≤ xs.length ∧ ∀ j, j < i → (t == xs.getD j default) = false) (fun i => [(8, natA i)]) (fun _ => []) (fun i => xs.length - i) 0 ⟨Nat.zero_le _, fun j hj => by omega⟩ rfl ⟨rfl, trivial⟩ ?_
  rintro i ⟨hi, hs⟩
  conv => whnf
  by_cases hlt : i < xs.length
  · have hbe : ((t.1 == (xs.getD i default).1) && (t.2 == (xs.getD i default).2)) = (t == xs.getD i default) := rfl
    have hbe2 : (([t.1, t.2] : List Int) == [(xs.getD i default).1, (xs.getD i default).2]) = (t == xs.getD i default) := by rw [← hbe]; show (_ && (_ && true)) = _; rw [Bool.and_true]
    cases hb : t == xs.getD i default with
    | true =>
      rw [hb] at hbe2
      repeat' first | ((with_reducible apply XBr.tt); conv => whnf) | ((with_reducible apply XBr.dec) <;> (intro h; first | (exfalso; omega) | ((try simp only [List.length_map] at h); first | (exfalso; omega) | (conv => whnf)))) | (((with_reducible refine XIx.nat ?_ ?_ ?_); omega; (intro _; rfl)); conv => whnf) | (with_reducible apply XAnd.mk) | ((first | (with_reducible apply Chk.go) | (with_reducible apply ChkA.go) | (with_reducible apply ChkF.go) | (with_reducible apply ChkB.go)); conv => whnf) | (exact XSame.mk rfl rfl) | (with_reducible exact trivial) | (apply Walk.drawN (id := 4) tab_ok mixed_ok [] [] (hsU _) [_, _, _, _, _, _] (by kernel_rfl) rfl) | ((with_reducible apply XNext.mk); conv => whnf) | ((refine XEqA.mk ⟨[_, _], [_, _], rfl, rfl, rfl, rfl, ?_⟩); exact XSame.mk (congrArg AV.bool hbe2) rfl) | fail
      refine XOut.int ?_
      simp only [idxR, find_some (d := default) (i := i) hlt hb hs]
    | false =>
      rw [hb] at hbe2
      repeat' first | ((with_reducible apply XBr.ff); conv => whnf) | ((with_reducible apply XBr.dec) <;> (intro h; first | (exfalso; omega) | ((try simp only [List.length_map] at h); first | (exfalso; omega) | (conv => whnf)))) | ((first | (with_reducible refine XInt.i64 (by omega) (by omega) ?_) | ((with_reducible refine XIx.nat ?_ ?_ ?_); omega; (intro _; rfl))); conv => whnf) | (with_reducible apply XAnd.mk) | ((first | (with_reducible apply Chk.go) | (with_reducible apply ChkA.go) | (with_reducible apply ChkF.go) | (with_reducible apply ChkB.go)); conv => whnf) | (exact XSame.mk rfl rfl) | (with_reducible exact trivial) | (apply Walk.drawN (id := 4) tab_ok mixed_ok [] [] (hsU _) [_, _, _, _, _, _] (by kernel_rfl) rfl) | ((with_reducible apply XNext.mk); conv => whnf) | ((refine XEqA.mk ⟨[_, _], [_, _], rfl, rfl, rfl, rfl, ?_⟩); exact XSame.mk (congrArg AV.bool hbe2) rfl) | fail
      refine XAgain.go (i + 1) ⟨by omega, fun j hj => ?_⟩ (by omega) rfl ⟨rfl, rfl, rfl, rfl, trivial⟩
      by_cases e : j = i
      · subst e; exact hb
      · exact hs j (by omega)
  obtain rfl : i = xs.length := by omega
  have hf := find_none (d := default) hs
  clear hs
  repeat' first | ((with_reducible apply XBr.dec) <;> (intro h; first | (exfalso; omega) | ((try simp only [List.length_map] at h); first | (exfalso; omega) | (conv => whnf)))) | fail
  refine XOut.int ?_
  simp only [idxR, hf]
theorem contains_sg (nl : Bool) (xs : List (Int × Int)) (t : Int × Int) (hx : xs.length ≤ 100000) : Comp Try.prog 87 [.sl nl (xs.map sgA), sgA t] (.bool (xs.contains t)) := by
  have hi := index_sg nl xs t hx
  have hc : decide (0 ≤ idxR (fun y => t == y) xs) = xs.contains t := by
    rw [Bool.eq_iff_iff, decide_eq_true_eq, idxR_pos, List.any_eq_true, List.contains_iff_mem]
    constructor
    · rintro ⟨y, hy, e⟩; rw [beq_iff_eq] at e; subst e; exact hy
    · intro h; exact ⟨t, h, by simp⟩
  generalize idxR (fun y => t == y) xs = v at hi hc
  refine Comp.body (T := tab) (res := [.tmp 4]) tab_ok [] Try.func87 rfl (by kernel_rfl) Try.ntmps87 rfl (by simp only [List.length_cons, List.length_nil]; decide) (by simp only [lowL, AV.low, lowSg, sgL]; rfl) ?_; conv => whnf
  repeat' first | ((refine XCall.ret hi ?_); conv => whnf) | fail
  exact XOut.bool hc
def fixS (s : Sn) : Nat → Nat → Nat → Nat → List (Int × Int) → Option (Nat × Nat × Nat × Nat)
  | p, m, a, w, [] => some (p, m, a, w)
  | p, m, a, w, t :: l => if (waysL s p).contains t = true ∧ (m : Int) + t.2 ≤ s.last then
      fixS s t.1.toNat ((m : Int) + t.2).toNat (a &&& drN s t.1.toNat ((m : Int) + t.2).toNat) (if (p : Int) = s.bed ∧ t.1 = p then w + 1 else w) l else none
def fixR (s : Sn) (m : Int) (l : List (Int × Int)) : Nat × Nat :=
  match fixS s s.home.toNat m.toNat (drN s s.home.toNat m.toNat) 0 l with
  | some (p, _, a, w) => (if (p : Int) = s.home then a else 0, w)
  | none => (0, 0)
theorem fFixed_ok (s : Sn) (hb : SnB s) (ok : SnOk s) (m0 : Nat) (hm0 : (m0 : Int) ≤ s.last) (nl : Bool) (l : List (Int × Int)) (hl : l.length ≤ 100000) : Comp Try.prog 47 [snA s, natA m0, .sl nl (l.map sgA)] (.tup [natA (fixR s m0 l).1, natA (fixR s m0 l).2, .int .i64 (if fixS s s.home.toNat m0 (drN s s.home.toNat m0) 0 l = none then 8 else 0)]) := by
  have p1 := ok.p1; have p2 := ok.p2; have l1 := ok.l1; have l2 := ok.l2; have w1 := ok.w1; have h1 := ok.h1
  have ho := fdOpened_c s hb ok
  have hmn := fminute_c s m0
  rw [inZ_iff.2 ⟨by omega, hm0⟩] at hmn
  have e1 : ((l.map sgA).length : Int) = l.length := by rw [List.length_map]
  obtain ⟨h0, hh0⟩ : ∃ h0 : Nat, s.home = h0 := ⟨s.home.toNat, by omega⟩
  have hfr : fixR s m0 l = match fixS s h0 m0 (drN s h0 m0) 0 l with | some (p, _, a, w) => (if (p : Int) = s.home then a else 0, w) | none => (0, 0) := by unfold fixR; rw [hh0, Int.toNat_natCast, Int.toNat_natCast]
  rw [show s.home.toNat = h0 by omega]
  refine Comp.body (T := tab) (res := [.tmp 6, .tmp 7, .tmp 8]) tab_ok [] Try.func47 rfl (by kernel_rfl) Try.ntmps47 rfl (by simp only [List.length_cons, List.length_nil]; decide) (by simp only [lowL, AV.low, snL, lowSg]; rfl) ?_; conv => whnf
  repeat' first | ((with_reducible apply XBr.tt); conv => whnf) | (with_reducible apply XBr.not) | ((with_reducible apply XBr.bne) <;> (intro h; first | (exfalso; omega) | (conv => whnf))) | ((first | (refine XCall.ret ho ?_) | (refine XCall.ret hmn ?_) | (refine XArr.dryP h0 hh0 (by omega) ?_) | (refine XArr.dryM m0 rfl (by omega) (by omega) ?_)); conv => whnf) | fail
  refine Walk.loopGK tab_ok [] [(3, _), (9, _), (37, _), (38, _)] ⟨rfl, rfl, rfl, rfl, trivial⟩ (fun g : Nat × Nat × Nat × Nat × Nat => g.1 ≤ l.length ∧ (g.2.1 : Int) < s.places ∧ (g.2.2.1 : Int) ≤ s.last ∧ g.2.2.2.1 < 16 ∧ g.2.2.2.2 ≤ g.1 ∧ fixS s h0 m0 (drN s h0 m0) 0 l = fixS s g.2.1 g.2.2.1 g.2.2.2.1 g.2.2.2.2 (l.drop g.1)) (fun g => [(1, natA g.2.2.1), (6, natA g.2.2.2.1), (7, natA g.2.2.2.2), (8, .int .i64 0), (10, natA g.2.1), (39, natA g.1)]) (fun _ => []) (fun g => l.length - g.1) (0, h0, m0, drN s h0 m0, 0) ⟨Nat.zero_le _, by dsimp only; omega, hm0, drN_lt ok _ _, Nat.le_refl _, rfl⟩ rfl ⟨rfl, rfl, rfl, rfl, congrArg (fun z => some (AV.int .i64 z)) hh0, rfl, trivial⟩ ?_ (fun _ _ => Nat.le_refl _) ?_
  · intro g _
    refine ⟨by simp, fun z hz => ?_⟩
    simp only [List.cons_append, List.nil_append, List.mem_cons, List.not_mem_nil, or_false] at hz
    rcases hz with rfl | rfl | rfl | rfl | rfl | rfl | rfl | rfl | rfl | rfl <;> first | rfl | exact snCL s | exact dskFL s | exact lowSg _
  rintro ⟨k, p, m, a, w⟩ ⟨hk, hp, hm, ha, hw, hs⟩
  dsimp only at hk hp hm ha hw hs ⊢
  conv => whnf
  by_cases hlt : k < l.length
  · rw [drop_next hlt, fixS] at hs
    have hct := contains_sg false (waysL s p) (l.getD k default) (by
      have h := waysK_len s p s.places.toNat
      have h2 : s.places.toNat * (1 + s.ways.length) ≤ 5 * 11 := Nat.mul_le_mul (by omega) (by omega)
      show (waysK s p s.places.toNat).length ≤ 100000
      omega)
    have hmg : mget (p : Int) ((keyF s).zip ((esF s s.places.toNat).map (·.2))) = some (.sl false ((waysL s p).map sgA)) := by
      unfold keyF; rw [zip_fs]; exact esF_get s _ _ (by omega)
    cases hc : (waysL s p).contains (l.getD k default) with
    | false =>
      rw [hc] at hct hs
      rw [if_neg (by simp)] at hs
      repeat' first | ((first | (with_reducible apply XBr.tt) | (with_reducible apply XBr.ff)); conv => whnf) | (with_reducible apply XBr.not) | ((with_reducible apply XBr.dec) <;> (intro h; first | (exfalso; omega) | ((try simp only [List.length_map] at h); first | (exfalso; omega) | (conv => whnf)))) | (((with_reducible refine XIx.nat ?_ ?_ ?_); omega; (intro _; rfl)); conv => whnf) | (with_reducible apply XAnd.mk) | ((first | (with_reducible apply Chk.go) | (with_reducible apply ChkA.go) | (with_reducible apply ChkF.go) | (with_reducible apply ChkB.go)); conv => whnf) | (exact XSame.mk rfl rfl) | (with_reducible exact trivial) | (apply Walk.drawN (id := 11) tab_ok mixed_ok [] [] (hsU _) [_, _, _, _, _, _, _, _, _, _, _, _, _, _, _, _, _, _] (by kernel_rfl) rfl) | ((first | (with_reducible apply XNext.mk) | (refine XDrop.dskF ?_) | (refine XGetM.mk' hmg ?_) | (refine XCall.ret hct ?_)); conv => whnf) | fail
      rw [hfr, hs]
      exact ⟨.low rfl⟩
    | true =>
      rw [hc] at hct hs
      have hwy := waysL_pos ok (List.contains_iff_mem.1 hc)
      by_cases hle : (m : Int) + (l.getD k default).2 ≤ s.last
      · rw [if_pos ⟨rfl, hle⟩] at hs
        obtain ⟨q, hq⟩ : ∃ q : Nat, (l.getD k default).1 = q := ⟨(l.getD k default).1.toNat, by omega⟩
        obtain ⟨m', hm'⟩ : ∃ m' : Nat, (m : Int) + (l.getD k default).2 = m' := ⟨((m : Int) + (l.getD k default).2).toNat, by omega⟩
        rw [hm', Int.toNat_natCast, hq, Int.toNat_natCast] at hs
        have hand : iand .i64 (a : Int) (drN s q m' : Int) = ((a &&& drN s q m' : Nat) : Int) := iand_nat (by omega) (by have := drN_lt ok q m'; omega)
        have hal : a &&& drN s q m' ≤ a := Nat.and_le_left
        by_cases c1 : (p : Int) = s.bed
        · by_cases c2 : (l.getD k default).1 = (p : Int)
          · rw [if_pos ⟨c1, by omega⟩] at hs
            repeat' first | ((with_reducible apply XBr.tt); conv => whnf) | (with_reducible apply XBr.not) | ((with_reducible apply XBr.dec) <;> (intro h; first | (exfalso; omega) | ((try simp only [List.length_map] at h); first | (exfalso; omega) | (conv => whnf)))) | ((with_reducible apply XBr.beq) <;> (intro h; first | (exfalso; omega) | (conv => whnf))) | ((first | (with_reducible refine XInt.i64 (by omega) (by omega) ?_) | ((with_reducible refine XIx.nat ?_ ?_ ?_); omega; (intro _; rfl))); conv => whnf) | (with_reducible apply XAnd.mk) | ((first | (with_reducible apply Chk.go) | (with_reducible apply ChkA.go) | (with_reducible apply ChkF.go) | (with_reducible apply ChkB.go)); conv => whnf) | (exact XSame.mk rfl rfl) | (with_reducible exact trivial) | (apply Walk.drawN (id := 11) tab_ok mixed_ok [] [] (hsU _) [_, _, _, _, _, _, _, _, _, _, _, _, _, _, _, _, _, _] (by kernel_rfl) rfl) | (apply Walk.drawN (id := 15) tab_ok mixed_ok [] [] (hsU _) [_, _, _, _, _, _, _, _] (by kernel_rfl) rfl) | ((first | (with_reducible apply XNext.mk) | (refine XDrop.dskF ?_) | (refine XGetM.mk' hmg ?_) | (refine XCall.ret hct ?_) | (refine XArr.dryP q hq (by omega) ?_) | (refine XArr.dryM m' hm' (by omega) (by omega) ?_)); conv => whnf) | fail
            exact XAgainG.go (k + 1, q, m', a &&& drN s q m', w + 1) [.cells (sgA (l.getD k default)).cells] ⟨by dsimp only; omega, by dsimp only; omega, by dsimp only; omega, by dsimp only; omega, by dsimp only; omega, hs⟩ (by dsimp only; omega) rfl ⟨rfl, rfl, rfl, rfl, congrArg (fun z => some (AV.int .i64 z)) hm', congrArg (fun z => some (AV.int .i64 z)) hand, rfl, rfl, congrArg (fun z => some (AV.int .i64 z)) hq, rfl, trivial⟩
          · rw [if_neg (fun h => c2 (by omega))] at hs
            repeat' first | ((with_reducible apply XBr.tt); conv => whnf) | (with_reducible apply XBr.not) | ((with_reducible apply XBr.dec) <;> (intro h; first | (exfalso; omega) | ((try simp only [List.length_map] at h); first | (exfalso; omega) | (conv => whnf)))) | ((with_reducible apply XBr.beq) <;> (intro h; first | (exfalso; omega) | (conv => whnf))) | ((first | (with_reducible refine XInt.i64 (by omega) (by omega) ?_) | ((with_reducible refine XIx.nat ?_ ?_ ?_); omega; (intro _; rfl))); conv => whnf) | (with_reducible apply XAnd.mk) | ((first | (with_reducible apply Chk.go) | (with_reducible apply ChkA.go) | (with_reducible apply ChkF.go) | (with_reducible apply ChkB.go)); conv => whnf) | (exact XSame.mk rfl rfl) | (with_reducible exact trivial) | (apply Walk.drawN (id := 11) tab_ok mixed_ok [] [] (hsU _) [_, _, _, _, _, _, _, _, _, _, _, _, _, _, _, _, _, _] (by kernel_rfl) rfl) | (apply Walk.drawN (id := 15) tab_ok mixed_ok [] [] (hsU _) [_, _, _, _, _, _, _, _] (by kernel_rfl) rfl) | ((first | (with_reducible apply XNext.mk) | (refine XDrop.dskF ?_) | (refine XGetM.mk' hmg ?_) | (refine XCall.ret hct ?_) | (refine XArr.dryP q hq (by omega) ?_) | (refine XArr.dryM m' hm' (by omega) (by omega) ?_)); conv => whnf) | fail
            exact XAgainG.go (k + 1, q, m', a &&& drN s q m', w) [.cells (sgA (l.getD k default)).cells] ⟨by dsimp only; omega, by dsimp only; omega, by dsimp only; omega, by dsimp only; omega, by dsimp only; omega, hs⟩ (by dsimp only; omega) rfl ⟨rfl, rfl, rfl, rfl, congrArg (fun z => some (AV.int .i64 z)) hm', congrArg (fun z => some (AV.int .i64 z)) hand, rfl, rfl, congrArg (fun z => some (AV.int .i64 z)) hq, rfl, trivial⟩
        · rw [if_neg (fun h => c1 h.1)] at hs
          repeat' first | ((first | (with_reducible apply XBr.tt) | (with_reducible apply XBr.ff)); conv => whnf) | (with_reducible apply XBr.not) | ((with_reducible apply XBr.dec) <;> (intro h; first | (exfalso; omega) | ((try simp only [List.length_map] at h); first | (exfalso; omega) | (conv => whnf)))) | ((with_reducible apply XBr.beq) <;> (intro h; first | (exfalso; omega) | (conv => whnf))) | ((first | (with_reducible refine XInt.i64 (by omega) (by omega) ?_) | ((with_reducible refine XIx.nat ?_ ?_ ?_); omega; (intro _; rfl))); conv => whnf) | (with_reducible apply XAnd.mk) | ((first | (with_reducible apply Chk.go) | (with_reducible apply ChkA.go) | (with_reducible apply ChkF.go) | (with_reducible apply ChkB.go)); conv => whnf) | (exact XSame.mk rfl rfl) | (with_reducible exact trivial) | (apply Walk.drawN (id := 11) tab_ok mixed_ok [] [] (hsU _) [_, _, _, _, _, _, _, _, _, _, _, _, _, _, _, _, _, _] (by kernel_rfl) rfl) | (apply Walk.drawN (id := 15) tab_ok mixed_ok [] [] (hsU _) [_, _, _, _, _, _, _, _] (by kernel_rfl) rfl) | ((first | (with_reducible apply XNext.mk) | (refine XDrop.dskF ?_) | (refine XGetM.mk' hmg ?_) | (refine XCall.ret hct ?_) | (refine XArr.dryP q hq (by omega) ?_) | (refine XArr.dryM m' hm' (by omega) (by omega) ?_)); conv => whnf) | fail
          exact XAgainG.go (k + 1, q, m', a &&& drN s q m', w) [.cells (sgA (l.getD k default)).cells] ⟨by dsimp only; omega, by dsimp only; omega, by dsimp only; omega, by dsimp only; omega, by dsimp only; omega, hs⟩ (by dsimp only; omega) rfl ⟨rfl, rfl, rfl, rfl, congrArg (fun z => some (AV.int .i64 z)) hm', congrArg (fun z => some (AV.int .i64 z)) hand, rfl, rfl, congrArg (fun z => some (AV.int .i64 z)) hq, rfl, trivial⟩
      · rw [if_neg (fun h => hle h.2)] at hs
        repeat' first | ((with_reducible apply XBr.tt); conv => whnf) | (with_reducible apply XBr.not) | ((with_reducible apply XBr.dec) <;> (intro h; first | (exfalso; omega) | ((try simp only [List.length_map] at h); first | (exfalso; omega) | (conv => whnf)))) | ((first | (with_reducible refine XInt.i64 (by omega) (by omega) ?_) | ((with_reducible refine XIx.nat ?_ ?_ ?_); omega; (intro _; rfl))); conv => whnf) | (with_reducible apply XAnd.mk) | ((first | (with_reducible apply Chk.go) | (with_reducible apply ChkA.go) | (with_reducible apply ChkF.go) | (with_reducible apply ChkB.go)); conv => whnf) | (exact XSame.mk rfl rfl) | (with_reducible exact trivial) | (apply Walk.drawN (id := 11) tab_ok mixed_ok [] [] (hsU _) [_, _, _, _, _, _, _, _, _, _, _, _, _, _, _, _, _, _] (by kernel_rfl) rfl) | ((first | (with_reducible apply XNext.mk) | (refine XDrop.dskF ?_) | (refine XGetM.mk' hmg ?_) | (refine XCall.ret hct ?_)); conv => whnf) | fail
        rw [hfr, hs]
        exact ⟨.low rfl⟩
  obtain rfl : k = l.length := by omega
  rw [List.drop_length, fixS] at hs
  have hfr2 : fixR s m0 l = (if (p : Int) = s.home then a else 0, w) := by rw [hfr, hs]
  by_cases hph : (p : Int) = s.home
  · rw [if_pos hph] at hfr2
    repeat' first | ((with_reducible apply XBr.dec) <;> (intro h; first | (exfalso; omega) | ((try simp only [List.length_map] at h); first | (exfalso; omega) | (conv => whnf)))) | ((with_reducible apply XBr.bne) <;> (intro h; first | (exfalso; omega) | (conv => whnf))) | fail
    rw [hfr2, hs]
    exact ⟨.low rfl⟩
  · rw [if_neg hph] at hfr2
    repeat' first | ((with_reducible apply XBr.dec) <;> (intro h; first | (exfalso; omega) | ((try simp only [List.length_map] at h); first | (exfalso; omega) | (conv => whnf)))) | ((with_reducible apply XBr.bne) <;> (intro h; first | (exfalso; omega) | (conv => whnf))) | fail
    rw [hfr2, hs]
    exact ⟨.low rfl⟩
end GA
end

section
namespace GA
open Go Go.RowKit Go.Proofs
set_option maxRecDepth 8000
set_option linter.unusedVariables false
set_option linter.unusedSimpArgs false

def startZ (s : Sn) (m : Nat) : Int := (partsL s s.home.toNat (allN s)).foldl (fun n l => min n (worthZ s ⟨s.home.toNat, m, l⟩)) 60
theorem startZ_le (s : Sn) (m : Nat) : startZ s m ≤ 60 ∧ ∀ l ∈ partsL s s.home.toNat (allN s), startZ s m ≤ worthZ s ⟨s.home.toNat, m, l⟩ := (foldl_min_prop (f := fun l => worthZ s ⟨s.home.toNat, m, l⟩)).2
theorem startZ_ge {s : Sn} {m : Nat} {c : Int} (h0 : c ≤ 60) (h : ∀ l ∈ partsL s s.home.toNat (allN s), c ≤ worthZ s ⟨s.home.toNat, m, l⟩) : c ≤ startZ s m := by
  rcases (foldl_min_prop (f := fun l => worthZ s ⟨s.home.toNat, m, l⟩) (l := partsL s s.home.toNat (allN s)) (b := 60)).1 with e | ⟨l, hl, e⟩
  · unfold startZ; rw [e]; exact h0
  · unfold startZ; rw [e]; exact h l hl
theorem allN_bit (s : Sn) (i : Nat) : (allN s).testBit i = decide (i < s.truths.length) := by unfold allN; exact Nat.testBit_two_pow_sub_one _ _
structure Wider (s u : Sn) : Prop where
  places : s.places = u.places
  home : s.home = u.home
  bed : s.bed = u.bed
  last : s.last = u.last
  ways : s.ways = u.ways
  tr : s.truths.length = u.truths.length
  dry : ∀ i p m, dryT s i p m = true → dryT u i p m = true
  look : ∀ i j p, i < s.truths.length → j < s.truths.length → lookZ u i p = lookZ u j p → lookZ s i p = lookZ s j p
theorem Wider.waysL {s u : Sn} (e : Wider s u) (p : Nat) : waysL s p = waysL u p := by
  unfold GA.waysL
  rw [e.places]
  have : ∀ k, waysK s p k = waysK u p k := fun k => by
    induction k with
    | zero => rfl
    | succ k ih => rw [waysK, waysK, ih]; unfold waysQ; rw [e.ways]
  exact this _
theorem Wider.emb {s u : Sn} (ok : SnOk s) (e : Wider s u) : Emb s u id id fun i => i < s.truths.length := by
  refine ⟨e.last, fun p h => by show (p : Int) < u.places; rw [← e.places]; exact h, fun p h => by rw [← e.home]; exact h, fun p h => by rw [← e.bed]; exact h, fun p t hp ht => ?_, fun i hi => ⟨hi, by show i < _; rw [← e.tr]; exact hi⟩, fun i p m _ h => e.dry i p m h, fun i j p hi hj h => e.look i j p hi hj h⟩
  have hw := waysL_pos ok ht
  rw [e.waysL] at ht
  show (((t.1.toNat : Nat) : Int), t.2) ∈ GA.waysL u p
  rw [Int.toNat_of_nonneg hw.2.2.1]; exact ht
theorem Wider.worth {s u : Sn} (oks : SnOk s) (oku : SnOk u) (e : Wider s u) {p m B A : Nat} (hm : (m : Int) ≤ s.last) (hp : (p : Int) < s.places) (hA : A ≠ 0) (hB : ∀ i, B.testBit i = true → i < s.truths.length) (hAB : ∀ i, A.testBit i = true → B.testBit i = true) : worthZ s ⟨p, m, B⟩ ≤ worthZ u ⟨p, m, A⟩ :=
  worth_mono oks oku (e.emb oks) _ p m B A (Nat.le_refl _) hm hp hA hB fun j hj => ⟨j, hAB j hj, rfl⟩
theorem part_B {s : Sn} (ok : SnOk s) {p left l : Nat} (h : l ∈ partsL s p left) : l ≠ 0 ∧ ∀ i, l.testBit i = true → i < s.truths.length ∧ left.testBit i = true := by
  obtain ⟨n, -, e, hne⟩ := partsL_mem.1 h
  refine ⟨hne, fun i hi => ?_⟩
  rw [e, partN_bit] at hi
  simp only [Bool.and_eq_true, decide_eq_true_eq] at hi
  rw [ok.k1] at hi
  exact ⟨hi.1, hi.2.2⟩
theorem Wider.start {s u : Sn} (oks : SnOk s) (oku : SnOk u) (e : Wider s u) {m : Nat} (hm : (m : Int) ≤ s.last) : startZ s m ≤ startZ u m := by
  refine startZ_ge (startZ_le s m).1 fun l hl => ?_
  obtain ⟨hne, hlB⟩ := part_B oku hl
  have h1 := oks.h1
  obtain ⟨j, hj⟩ := bit_some hne
  have hj' := hlB j hj
  have hjs : j < s.looks.length := by rw [oks.k1, e.tr]; exact hj'.1
  obtain ⟨n, hn, hlk, hpm, hb⟩ := parts_has oks (p := s.home.toNat) (left := allN s) (by omega) hjs (by rw [allN_bit]; exact decide_eq_true (by rw [← oks.k1]; exact hjs))
  refine Int.le_trans ((startZ_le s m).2 _ hpm) ?_
  rw [← e.home]
  obtain ⟨k, -, ek, -⟩ := partsL_mem.1 hl
  have hbits : ∀ i, l.testBit i = true → i < s.truths.length ∧ lookZ u i u.home.toNat = (k : Nat) := fun i hi => by
    rw [ek, partN_bit] at hi
    simp only [Bool.and_eq_true, decide_eq_true_eq, beq_iff_eq] at hi
    rw [oku.k1, ← e.tr] at hi
    exact ⟨hi.1, hi.2.1⟩
  refine e.worth oks oku hm (by omega) hne (fun i hi => ?_) fun i hi => ?_
  · rw [partN_bit, Bool.and_eq_true, decide_eq_true_eq, oks.k1] at hi
    exact hi.1
  · have hi' := hbits i hi
    have hj2 := hbits j hj
    have hll := e.look i j s.home.toNat hi'.1 hj2.1 (by rw [e.home, hi'.2, hj2.2])
    rw [partN_bit, hll, hlk, allN_bit, decide_eq_true hi'.1, decide_eq_true (by rw [oks.k1]; exact hi'.1)]
    simp
where
  bit_some {l : Nat} (h : l ≠ 0) : ∃ j, l.testBit j = true := by
    refine Classical.byContradiction fun h' => h (bit_ext fun j => ?_)
    rw [Nat.zero_testBit]
    cases hb : l.testBit j with
    | false => rfl
    | true => exact absurd ⟨j, hb⟩ h'
end GA
end

section
namespace GA
open Go Go.RowKit Go.Proofs
set_option maxRecDepth 8000
set_option linter.unusedVariables false
set_option linter.unusedSimpArgs false

theorem vecF_map {α β : Type} (f : α → β) (W : Nat) (F : Nat → α) : (vecF W F).map f = vecF W fun i => f (F i) := by rw [vecF_eq, vecF_eq, List.map_map]; rfl
theorem XGet.to {els : List AV} {n e : Nat} {k : List AV → Prop} (v : AV) (h1 : n = els.length) (h2 : e < n) (hv : els.getD e default = v) (h : k v.cells) : XGet els n e k := ⟨h1, h2, by rw [hv]; exact h⟩
theorem XPut.to {els : List AV} {n e : Nat} {v : AV} {k : List AV → Prop} (els' : List AV) (h1 : n = els.length) (h2 : e < n) (hv : els.set e v = els') (h : k els') : XPut els n e v k := ⟨h1, h2, by rw [hv]; exact h⟩
theorem XRun.heap {P : Program} {T : Tab} {N : Nat} {r : Option Nat} {own : List Nat} {c : Code} {Q : Post} {D : List Nat} {σ : St} {H : List Blk} (H' : List Blk) (h : H' = H) (x : XRun P T N r own c Q D σ H') : XRun P T N r own c Q D σ H := h ▸ x
end GA
end

section
namespace GA
open Go Go.RowKit Go.Proofs
set_option pp.deepTerms true
set_option maxRecDepth 8000
set_option linter.unusedVariables false
set_option linter.unusedSimpArgs false

structure XEndE (P : Program) (n : Nat) (H : List Blk) (r' : AV) (k : AV → List Blk → Prop) : Prop where
  o : ∃ r H1, XEnd P n H r' r H1 ∧ k r H1
theorem ACall.bodyE {P : Program} {T : Tab} {N : Nat} {H : List Blk} {f : FuncId} {fn : Func} {c : Code} {rs : List AV} {res : List ResultVar} {k : AV → List Blk → Prop} (ok : TabOk P T) (own : List Nat) (hf : P.funcs[f]? = some fn) (hb : fn.body = some c) (hn : (fn.name == "runtime.NumGoroutine") = false)
    (hN : fn.ntmps = N) (hr : fn.results = res.toArray) (hl : rs.length ≤ N)
    (x : XRun P T N none own c (XIn T res fun r' H' => XEndE P H.length H' r' k) [] (argX rs) H) : ACall P f rs H k := by
  obtain ⟨h1, h2⟩ := ACall.inl ok own hf hb hn hN hr hl x
  refine ⟨h1, fun E h β w vs s hrs => (h2 E h β w vs s hrs).mono ?_⟩
  rintro e w' ⟨r', H', h', β', v, rfl, ⟨r, H1, ⟨g1, g2, g3, g4⟩, hk⟩, X, s', hrep⟩
  have hH : H' = H1 ++ H'.drop H.length := by rw [← g1, List.take_append_drop]
  rw [hH] at s' X hrep g4
  have s2 := s'.allN (by rw [g2]; exact g3)
  have X2 : Ext h β H h' β' H1 := X.cut (by omega)
  rw [g2] at s2
  exact ⟨r, H1, _, β', v, rfl, hk, ⟨fun b o e => hallN_imm s' (X2.imm b o e), by omega, X2.to⟩, s2, g4 E h' β' w' s' v hrep H1⟩
def HpE (f : FuncId) (qs : List AV) (h : Hp) (Φ : AV → Hp → Prop) : Prop :=
  lowL 0 qs = true ∧ ACall Try.prog f (.ptr 0 0 :: qs) [hpC h] fun r' H' => ∃ r h', r.low 0 = true ∧ Φ r h' ∧ r' = r ∧ H' = [hpC h']
theorem XCall.hpE {f : FuncId} {qs : List AV} {h : Hp} {Φ : AV → Hp → Prop} (x : HpE f qs h Φ) {H : List Blk} {k : AV → List Blk → Prop} {j : Nat} (h0 : lget H j = some (hpC h))
    (hk : ∀ r h', Φ r h' → k r (H.set j (hpC h'))) : XCall Try.prog f (.ptr j 0 :: qs) H k := by
  constructor
  have e := ACall.frame (ρ := fun i => j + i) (H := H) (k := k) x.2 (fun a b _ _ h => by have : j + a = j + b := h; omega) ?_ (fun y hy => by simp at hy; subst hy; exact hpC_low h) ?_ ?_
  · have hd : renL (fun i => j + i) qs = qs := renL_low0 x.1
    rw [List.map_cons, ← renL_eq, hd] at e
    exact e
  · intro i x1 hi
    rw [lget_eq] at h0
    rcases i with _ | i
    · simp only [List.getElem?_cons_zero, Option.some.injEq] at hi; subst hi
      rw [hpC_ren]; exact h0
    · simp at hi
  · simp only [lowL, AV.low, lowL_mono (Nat.zero_le _) x.1]; rfl
  · rintro r1 H1' ⟨r, h', hr, hΦ, rfl, rfl⟩
    rw [lget_eq] at h0
    have hj := (List.getElem?_eq_some_iff.1 h0).1
    refine ⟨rfl, H.set j (hpC h'), by simp, fun i x1 hi => ?_, fun q hq => ?_, ?_⟩
    · rcases i with _ | i
      · simp only [List.getElem?_cons_zero, Option.some.injEq] at hi; subst hi
        rw [hpC_ren]; simp [hj]
      · simp at hi
    · exact List.getElem?_set_ne (by have := hq 0 (by simp); simpa using this)
    · rw [AV.ren_low (n := 0) (fun i hi => by omega) hr]; exact hk _ _ hΦ
theorem upto_e (u : Hp) (n : Int) (o : u.Ok) (h1 : -100000 ≤ n) (h2 : n ≤ 100000) : ∃ z u', (0 ≤ z ∧ z ≤ max 0 n) ∧ Hp.Ok u' ∧ HpOk 16 [.int .i64 n] u (.int .i64 z) u' :=
  ⟨_, _, modV_bound u n, hpS_ok o, upto_c u n o h1 h2⟩
theorem from_e (u : Hp) (lo hi : Int) (o : u.Ok) (h1 : -10000 ≤ lo) (h2 : lo ≤ 10000) (h3 : -10000 ≤ hi) (h4 : hi ≤ 10000) : ∃ z u', (lo ≤ z ∧ z ≤ max lo hi) ∧ Hp.Ok u' ∧ HpOk 15 [.int .i64 lo, .int .i64 hi] u (.int .i64 z) u' :=
  ⟨_, _, by have := modV_bound u (hi - lo); omega, hpS_ok o, from_c u lo hi o h1 h2 h3 h4⟩
theorem once_e (u : Hp) (n : Int) (o : u.Ok) (h1 : -10000 ≤ n) (h2 : n ≤ 10000) : ∃ b u', Hp.Ok u' ∧ HpOk 28 [.int .i64 n] u (.bool b) u' :=
  ⟨_, _, hpS_ok o, once_c u n o h1 h2⟩
structure MkOk (s : Sn) (last : Int) : Prop where
  ok : SnOk s
  b : SnB s
  p : 2 ≤ s.places
  h : s.home = 0
  l1 : 4 ≤ s.last
  l2 : s.last ≤ last
  b1 : 1 ≤ s.bed
structure WyOk (P p : Int) (W : List Wy) : Prop where
  w : ∀ w ∈ W, 1 ≤ w.2.2 ∧ w.2.2 ≤ 5 ∧ ((w.1 = w.2.1 - 1 ∧ 1 ≤ w.2.1 ∧ w.2.1 < p) ∨ (0 ≤ w.2.1 ∧ w.2.1 ≤ w.1 - 2 ∧ w.1 < p))
  n : ∀ i, i < W.length → ((W.getD i default).1 == (W.getD i default).2.1 || (W.take i).any fun x => leadB x (W.getD i default).1 (W.getD i default).2.1) = false
  l : (W.length : Int) ≤ 2 * (p - 1)
theorem WyOk.nil {P : Int} : WyOk P 1 [] := ⟨by simp, fun i hi => by simp at hi, by simp⟩
theorem rep_app {W : List Wy} {w : Wy} (h : ∀ i, i < W.length → ((W.getD i default).1 == (W.getD i default).2.1 || (W.take i).any fun x => leadB x (W.getD i default).1 (W.getD i default).2.1) = false) (h1 : w.1 ≠ w.2.1) (h2 : ∀ x ∈ W, leadB x w.1 w.2.1 = false) :
    ∀ i, i < (W ++ [w]).length → (((W ++ [w]).getD i default).1 == ((W ++ [w]).getD i default).2.1 || ((W ++ [w]).take i).any fun x => leadB x ((W ++ [w]).getD i default).1 ((W ++ [w]).getD i default).2.1) = false := by
  intro i hi
  rw [List.length_append, List.length_singleton] at hi
  by_cases e : i < W.length
  · have e1 : (W ++ [w]).getD i default = W.getD i default := by rw [List.getD_eq_getElem?_getD, List.getD_eq_getElem?_getD, List.getElem?_append_left e]
    rw [e1, List.take_append_of_le_length (by omega)]
    exact h i e
  · have e0 : i = W.length := by omega
    have e1 : (W ++ [w]).getD i default = w := by rw [List.getD_eq_getElem?_getD, e0, List.getElem?_append_right (Nat.le_refl _), Nat.sub_self]; rfl
    rw [e1, e0, List.take_append_of_le_length (Nat.le_refl _), List.take_length, Bool.or_eq_false_iff]
    refine ⟨by simpa using h1, ?_⟩
    rw [List.any_eq_false]
    intro x hx
    rw [h2 x hx]; simp
theorem WyOk.one {P p m : Int} {W : List Wy} (h : WyOk P p W) (hp : 1 ≤ p) (h1 : 1 ≤ m) (h2 : m ≤ 5) : WyOk P (p + 1) (W ++ [(p - 1, p, m)]) := by
  refine ⟨fun w hw => ?_, rep_app h.n (by dsimp only; omega) fun x hx => ?_, ?_⟩
  · rcases List.mem_append.1 hw with hw | hw
    · have := h.w w hw; omega
    · rw [List.mem_singleton] at hw; subst hw; dsimp only; omega
  · rw [← Bool.not_eq_true, leadB_iff]
    have := h.w x hx
    dsimp only; omega
  · have := h.l
    rw [List.length_append, List.length_singleton]; omega
theorem WyOk.two {P p q m m2 : Int} {W : List Wy} (h : WyOk P p W) (hp : 1 ≤ p) (h1 : 1 ≤ m) (h2 : m ≤ 5) (h3 : 1 ≤ m2) (h4 : m2 ≤ 5) (hq : 0 ≤ q) (hq2 : q ≤ p - 2) : WyOk P (p + 1) ((W ++ [(p - 1, p, m)]) ++ [(p, q, m2)]) := by
  have h' := h.one hp h1 h2
  refine ⟨fun w hw => ?_, rep_app h'.n (by dsimp only; omega) fun x hx => ?_, ?_⟩
  · rcases List.mem_append.1 hw with hw | hw
    · exact h'.w w hw
    · rw [List.mem_singleton] at hw; subst hw; dsimp only; omega
  · rw [← Bool.not_eq_true, leadB_iff]
    dsimp only
    rcases List.mem_append.1 hx with hx | hx
    · have := h.w x hx; omega
    · rw [List.mem_singleton] at hx; subst hx; dsimp only; omega
  · have := h.l
    rw [List.length_append, List.length_append, List.length_singleton, List.length_singleton]; omega
theorem mk_ok {P bed last lim : Int} {W : List Wy} {looks : List Rw} {truths : List Tru} {nw nk nt : Bool} (hP : 2 ≤ P ∧ P ≤ 5) (hb : 1 ≤ bed ∧ bed ≤ P - 1) (hl : 4 ≤ last ∧ last ≤ lim) (hlim : lim ≤ 60) (hW : WyOk P P W)
    (hk : ∀ r ∈ looks, (r.2.length : Int) = P ∧ ∀ n ∈ r.2, 0 ≤ n ∧ n ≤ 3) (ht : ∀ t ∈ truths, (t.2.length : Int) = P ∧ ∀ r ∈ t.2, spE last none r.2 = 0 ∧ r.2.length ≤ 2) (hkl : looks.length = truths.length) (ht1 : 1 ≤ truths.length) (ht2 : truths.length ≤ 4) :
    MkOk ⟨P, 0, bed, last, nw, W, nk, looks, nt, truths⟩ lim := by
  have hwl := hW.l
  refine ⟨⟨by dsimp only; omega, by dsimp only; omega, ht1, ht2, by dsimp only; omega, hkl, fun l h => (hk l h).1, fun t h => (ht t h).1, by dsimp only; omega, by dsimp only; omega, fun w hw => ?_, fun l h n hn => (hk l h).2 n hn, by dsimp only; omega, by dsimp only; omega, fun w hw => ?_, by dsimp only; omega, hW.n, fun t h r hr => ((ht t h).2 r hr).1⟩,
    ⟨by dsimp only; omega, by dsimp only; omega, by dsimp only; omega, fun r h => by have := (hk r h).1; omega, fun t h => by have := (ht t h).1; omega, fun t h r hr => by have := ((ht t h).2 r hr).2; omega⟩, hP.1, rfl, hl.1, hl.2, hb.1⟩
  · have := hW.w w hw; first | omega | (dsimp only; omega)
  · have := hW.w w hw; first | omega | (dsimp only; omega)
theorem sp_one {last lo hi : Int} (h1 : 0 ≤ lo) (h2 : lo ≤ hi) (h3 : hi ≤ last) : spE last none [(lo, hi)] = 0 := by
  rw [spE, spE]
  rw [if_neg (by rw [inZ_iff.2 ⟨h1, by first | omega | (dsimp only; omega)⟩, inZ_iff.2 ⟨h2, h3⟩]; simp), if_neg (by simp [spBad])]
theorem sp_two {last lo cut hi : Int} (h1 : 0 ≤ lo) (h2 : lo + 1 < cut) (h3 : cut < hi - 1) (h4 : hi ≤ last) : spE last none [(lo, cut - 1), (cut + 1, hi)] = 0 := by
  rw [spE, spE, spE]
  rw [if_neg (by rw [inZ_iff.2 ⟨h1, by first | omega | (dsimp only; omega)⟩, inZ_iff.2 ⟨by first | omega | (dsimp only; omega), by first | omega | (dsimp only; omega)⟩]; simp), if_neg (by simp [spBad]), if_neg (by rw [inZ_iff.2 ⟨by first | omega | (dsimp only; omega), by first | omega | (dsimp only; omega)⟩, inZ_iff.2 ⟨by first | omega | (dsimp only; omega), by first | omega | (dsimp only; omega)⟩]; simp), if_neg (by show ¬ decide (cut + 1 ≤ cut - 1 + 1) = true; simp; omega)]
end GA
end

section
namespace GA
open Go Go.RowKit Go.Proofs
set_option pp.deepTerms true
set_option maxRecDepth 8000
set_option linter.unusedVariables false
set_option linter.unusedSimpArgs false

def zSn : List AV := [.int .i64 0, .int .i64 0, .int .i64 0, .int .i64 0, .sl true [], .sl true [], .sl true []]
theorem ints_app (a b : List Int) : ints (a ++ b) = ints a ++ ints b := List.map_append
theorem hpLow {h : Hp} {x : Blk} (hx : x ∈ [hpC h]) : x.low 1 = true := by rw [List.mem_singleton] at hx; subst hx; exact hpC_low _
theorem Walk.heapE {P : Program} {N : Nat} {r : Option Nat} {c : Code} {Q : Post} {D : List Nat} {σ : St} {H : List Blk} (H' : List Blk) (h : H' = H) (x : Walk P N r c Q D σ H') : Walk P N r c Q D σ H := h ▸ x
set_option maxHeartbeats 8000000 in
theorem fordMade_c (u : Hp) (last : Int) (o : u.Ok) (hl1 : 4 ≤ last) (hl2 : last ≤ 60) : HpE 7 [.int .i64 last] u fun r u' => ∃ s, r = snA s ∧ MkOk s last ∧ u'.Ok := by
  refine ⟨rfl, ?_⟩
  obtain ⟨P, u1, hP, o1, hc1⟩ := from_e u 2 5 o (by omega) (by omega) (by omega) (by omega)
  have hmn : min 4 last = 4 := by omega
  obtain ⟨L, u2, hL, o2, hc2⟩ := from_e u1 4 last o1 (by omega) (by omega) (by omega) (by omega)
  obtain ⟨bd, u3, hbd, o3, hc3⟩ := from_e u2 1 (P - 1) o2 (by omega) (by omega) (by omega) (by omega)
  rw [← hmn] at hc2
  refine ACall.bodyE (T := tab) (res := [.cell 4 27]) tab_ok [] Try.func7 rfl (by kernel_rfl) Try.ntmps7 rfl (by simp only [List.length_cons, List.length_nil]; decide) ?_; conv => whnf
  repeat' first | ((first | (with_reducible refine XInt.i64 (by omega) (by omega) ?_) | (refine XCall.hp (j := 0) hc1 rfl rfl ?_) | (refine XCall.hp (j := 0) hc2 rfl rfl ?_) | (refine XCall.hp (j := 0) hc3 rfl rfl ?_)); conv => whnf) | fail
  refine Walk.nilcell 2 4 56 rfl rfl ?_
  refine Walk.heapE [hpC u3, .cells zSn, .cells [.int .i64 P, .int .i64 0, .int .i64 bd, .int .i64 L, .gr 3 0, .sl true [], .sl true []], .grow 56 true []] rfl ?_
  clear hc1 hc2 hc3 hmn o o1 o2
  refine Walk.loopK tab_ok [] [(0, _), (4, _), (5, _)] ⟨rfl, rfl, rfl, trivial⟩ (fun g : Nat × List Wy × Hp => (1 ≤ g.1 ∧ (g.1 : Int) ≤ P) ∧ g.2.2.Ok ∧ WyOk P g.1 g.2.1) (fun g => [(6, natA g.1)]) (fun g => [hpC g.2.2, .cells zSn, .cells [.int .i64 P, .int .i64 0, .int .i64 bd, .int .i64 L, .gr 3 g.2.1.length, .sl true [], .sl true []], .grow 56 g.2.1.isEmpty (g.2.1.map wyA)]) (fun g => P.toNat - g.1) (1, [], u3) ⟨⟨Nat.le_refl _, by dsimp only; omega⟩, o3, WyOk.nil⟩ rfl ⟨rfl, trivial⟩ ?_
  clear o3
  rintro ⟨p, W, v⟩ ⟨⟨hp1, hp2⟩, ov, hW⟩
  dsimp only at hp1 hp2 ov hW ⊢
  have hWl := hW.l
  have hWm : (W.map wyA).length = W.length := List.length_map _
  conv => whnf
  by_cases hlt : (p : Int) < P
  · obtain ⟨m1, v1, hm1, ov1, hd1⟩ := from_e v 1 3 ov (by omega) (by omega) (by omega) (by omega)
    have hW1 := hW.one (m := m1) (by omega) (by omega) (by omega)
    by_cases hp : 1 < p
    · obtain ⟨b, v2, ov2, hd2⟩ := once_e v1 3 ov1 (by omega) (by omega)
      cases b with
      | false =>
        repeat' first | ((first | (with_reducible apply XBr.tt) | (with_reducible apply XBr.ff)); conv => whnf) | ((with_reducible apply XBr.dec) <;> (intro h; first | (exfalso; omega) | ((try simp only [List.length_map] at h); first | (exfalso; omega) | (conv => whnf)))) | ((with_reducible refine XInt.i64 (by omega) (by omega) ?_); conv => whnf) | ((with_reducible refine XHold.mk ?_ ?_); (first | omega | rfl | decide | exact ⟨rfl, by decide, rfl⟩ | exact wideI _ | exact widePr _ | exact wideSk _ | (unfold Room; constructor <;> ((try simp) <;> omega)) | exact ⟨rfl, by simp only [List.length_map], by unfold Room; constructor <;> ((try simp) <;> omega)⟩ | exact ⟨by omega, by omega, by unfold Room; constructor <;> ((try simp) <;> omega)⟩); conv => whnf) | (with_reducible apply XAnd.mk) | ((first | (with_reducible apply Chk.go) | (with_reducible apply ChkA.go) | (with_reducible apply ChkF.go) | (with_reducible apply ChkB.go)); conv => whnf) | (exact XSame.mk rfl rfl) | (with_reducible exact trivial) | (apply Walk.drawN (id := 6) tab_ok mixed_ok [] [6, 9, 11] (hsC [_, _, _, _]) [_, _, _, _, _, _, _, _, _, _, _, _] (by kernel_rfl) rfl) | ((first | (with_reducible apply XNext.mk) | (refine XCall.hp (j := 0) hd1 rfl rfl ?_) | (refine XCall.hp (j := 0) hd2 rfl rfl ?_)); conv => whnf) | fail
        refine XAgain.go (p + 1, W ++ [((p : Int) - 1, (p : Int), m1)], v2) ⟨⟨by dsimp only; omega, by dsimp only; omega⟩, ov2, hW1⟩ (by dsimp only; omega) ?_ ⟨rfl, rfl, rfl, rfl, trivial⟩
        dsimp only
        rw [List.length_append, isEmpty_app, List.map_append]; rfl
      | true =>
        obtain ⟨q, v3, hq, ov3, hd3⟩ := upto_e v2 ((p : Int) - 2) ov2 (by omega) (by omega)
        obtain ⟨m2, v4, hm2, ov4, hd4⟩ := from_e v3 1 5 ov3 (by omega) (by omega) (by omega) (by omega)
        have hW2 := hW.two (m := m1) (q := q) (m2 := m2) (by omega) (by omega) (by omega) (by omega) (by omega) (by omega) (by omega)
        repeat' first | ((with_reducible apply XBr.tt); conv => whnf) | ((with_reducible apply XBr.dec) <;> (intro h; first | (exfalso; omega) | ((try simp only [List.length_map] at h); first | (exfalso; omega) | (conv => whnf)))) | ((with_reducible refine XInt.i64 (by omega) (by omega) ?_); conv => whnf) | ((with_reducible refine XHold.mk ?_ ?_); (first | omega | rfl | decide | exact ⟨rfl, by decide, rfl⟩ | exact wideI _ | exact widePr _ | exact wideSk _ | (unfold Room; constructor <;> ((try simp) <;> omega)) | exact ⟨rfl, by simp only [List.length_map], by unfold Room; constructor <;> ((try simp) <;> omega)⟩ | exact ⟨by omega, by omega, by unfold Room; constructor <;> ((try simp) <;> omega)⟩); conv => whnf) | (with_reducible apply XAnd.mk) | ((first | (with_reducible apply Chk.go) | (with_reducible apply ChkA.go) | (with_reducible apply ChkF.go) | (with_reducible apply ChkB.go)); conv => whnf) | (exact XSame.mk rfl rfl) | (with_reducible exact trivial) | (apply Walk.drawN (id := 6) tab_ok mixed_ok [] [6, 9, 11] (hsC [_, _, _, _]) [_, _, _, _, _, _, _, _, _, _, _, _] (by kernel_rfl) rfl) | ((first | (with_reducible apply XNext.mk) | (refine XCall.hp (j := 0) hd1 rfl rfl ?_) | (refine XCall.hp (j := 0) hd2 rfl rfl ?_)); conv => whnf) | fail
        apply Walk.drawX tab_ok mixed_ok [] [6, 8, 11, 13] (hsC [_, _, _, _, _]) [_, _, _, _, _, _, _, _, _, _, _, _, _, _] (by kernel_rfl) rfl
        · skip
          repeat' first | ((with_reducible refine XInt.i64 (by omega) (by omega) ?_); conv => whnf) | ((with_reducible refine XHold.mk ?_ ?_); (first | omega | rfl | decide | exact ⟨rfl, by decide, rfl⟩ | exact wideI _ | exact widePr _ | exact wideSk _ | (unfold Room; constructor <;> ((try simp) <;> omega)) | exact ⟨rfl, by simp only [List.length_map], by unfold Room; constructor <;> ((try simp) <;> omega)⟩ | exact ⟨by omega, by omega, by unfold Room; constructor <;> ((try simp) <;> omega)⟩); conv => whnf) | (with_reducible apply XAnd.mk) | ((first | (with_reducible apply Chk.go) | (with_reducible apply ChkA.go)); conv => whnf) | (exact XSame.mk rfl rfl) | (with_reducible exact trivial) | ((first | (refine XCall.hp (j := 0) hd3 rfl rfl ?_) | (refine XCall.hp (j := 0) hd4 rfl rfl ?_)); conv => whnf) | fail
        · skip
          repeat' first | ((with_reducible refine XHold.mk ?_ ?_); (first | omega | rfl | decide | exact ⟨rfl, by decide, rfl⟩ | exact wideI _ | exact widePr _ | exact wideSk _ | (unfold Room; constructor <;> ((try simp) <;> omega)) | exact ⟨rfl, by simp only [List.length_map], by unfold Room; constructor <;> ((try simp) <;> omega)⟩ | exact ⟨by omega, by omega, by unfold Room; constructor <;> ((try simp) <;> omega)⟩); conv => whnf) | (with_reducible apply XAnd.mk) | ((first | (with_reducible apply Chk.go) | (with_reducible apply ChkF.go) | (with_reducible apply ChkB.go)); conv => whnf) | (exact XSame.mk rfl rfl) | (with_reducible exact trivial) | fail
        conv => whnf
        repeat' first | ((with_reducible refine XInt.i64 (by omega) (by omega) ?_); conv => whnf) | fail
        refine XAgain.go (p + 1, (W ++ [((p : Int) - 1, (p : Int), m1)]) ++ [((p : Int), q, m2)], v4) ⟨⟨by dsimp only; omega, by dsimp only; omega⟩, ov4, hW2⟩ (by dsimp only; omega) ?_ ⟨rfl, rfl, rfl, rfl, trivial⟩
        dsimp only
        rw [List.length_append, isEmpty_app, List.map_append, List.length_append, isEmpty_app, List.map_append]; rfl
    · skip
      repeat' first | ((with_reducible apply XBr.ff); conv => whnf) | ((with_reducible apply XBr.dec) <;> (intro h; first | (exfalso; omega) | ((try simp only [List.length_map] at h); first | (exfalso; omega) | (conv => whnf)))) | ((with_reducible refine XInt.i64 (by omega) (by omega) ?_); conv => whnf) | ((with_reducible refine XHold.mk ?_ ?_); (first | omega | rfl | decide | exact ⟨rfl, by decide, rfl⟩ | exact wideI _ | exact widePr _ | exact wideSk _ | (unfold Room; constructor <;> ((try simp) <;> omega)) | exact ⟨rfl, by simp only [List.length_map], by unfold Room; constructor <;> ((try simp) <;> omega)⟩ | exact ⟨by omega, by omega, by unfold Room; constructor <;> ((try simp) <;> omega)⟩); conv => whnf) | (with_reducible apply XAnd.mk) | ((first | (with_reducible apply Chk.go) | (with_reducible apply ChkA.go) | (with_reducible apply ChkF.go) | (with_reducible apply ChkB.go)); conv => whnf) | (exact XSame.mk rfl rfl) | (with_reducible exact trivial) | (apply Walk.drawN (id := 6) tab_ok mixed_ok [] [6, 9, 11] (hsC [_, _, _, _]) [_, _, _, _, _, _, _, _, _, _, _, _] (by kernel_rfl) rfl) | ((first | (with_reducible apply XNext.mk) | (refine XCall.hp (j := 0) hd1 rfl rfl ?_)); conv => whnf) | fail
      refine XAgain.go (p + 1, W ++ [((p : Int) - 1, (p : Int), m1)], v1) ⟨⟨by dsimp only; omega, by dsimp only; omega⟩, ov1, hW1⟩ (by dsimp only; omega) ?_ ⟨rfl, rfl, rfl, rfl, trivial⟩
      dsimp only
      rw [List.length_append, isEmpty_app, List.map_append]; rfl
  have hpP : (p : Int) = P := by omega
  rw [hpP] at hW
  obtain ⟨N, v1, hN, ov1, hd1⟩ := from_e v 1 4 ov (by omega) (by omega) (by omega) (by omega)
  repeat' first | ((with_reducible apply XBr.dec) <;> (intro h; first | (exfalso; omega) | ((try simp only [List.length_map] at h); first | (exfalso; omega) | (conv => whnf)))) | ((refine XCall.hp (j := 0) hd1 rfl rfl ?_); conv => whnf) | fail
  refine Walk.freezeCell 2 4 3 W.length rfl rfl rfl hWm ?_
  refine Walk.nilcell 2 5 43 rfl rfl ?_
  refine Walk.nilcell 2 6 37 rfl rfl ?_
  refine Walk.heapE [hpC v1, .cells zSn, .cells [.int .i64 P, .int .i64 0, .int .i64 bd, .int .i64 L, .sl W.isEmpty (W.map wyA), .gr 4 0, .gr 5 0], .dead, .grow 43 true [], .grow 37 true []] rfl ?_
  clear hd1 ov
  refine Walk.loopGK tab_ok [] [(0, _), (4, _), (5, _), (66, _)] ⟨rfl, rfl, rfl, rfl, trivial⟩ (fun g : Nat × List Rw × List Tru × Hp => (g.1 : Int) ≤ N ∧ g.2.2.2.Ok ∧ (g.2.1.length = g.1 ∧ g.2.2.1.length = g.1) ∧ (∀ r ∈ g.2.1, (r.2.length : Int) = P ∧ ∀ n ∈ r.2, 0 ≤ n ∧ n ≤ 3) ∧ ∀ t ∈ g.2.2.1, (t.2.length : Int) = P ∧ ∀ r ∈ t.2, spE L none r.2 = 0 ∧ r.2.length ≤ 2) (fun g => [(67, natA g.1)]) (fun g => [hpC g.2.2.2, .cells zSn, .cells [.int .i64 P, .int .i64 0, .int .i64 bd, .int .i64 L, .sl W.isEmpty (W.map wyA), .gr 4 g.2.1.length, .gr 5 g.2.2.1.length], .dead, .grow 43 g.2.1.isEmpty (g.2.1.map rwA), .grow 37 g.2.2.1.isEmpty (g.2.2.1.map trA)]) (fun g => N.toNat - g.1) (0, [], [], v1) ⟨by dsimp only; omega, ov1, ⟨rfl, rfl⟩, by simp, by simp⟩ rfl ⟨rfl, trivial⟩ ?_ (fun _ _ => (show (6 : Nat) ≤ 6 from Nat.le_refl 6)) ?_
  · intro g _
    refine ⟨fun z hz => ?_, fun z hz => ?_⟩
    · simp only [List.mem_cons, List.not_mem_nil, or_false] at hz
      rcases hz with rfl | rfl | rfl | rfl | rfl | rfl
      · exact hpC_low _
      · rfl
      · simp only [Blk.low, lowL, AV.low, lowWy]; rfl
      · rfl
      · exact lowRk _
      · exact lowTr _
    · simp only [List.cons_append, List.nil_append, List.mem_cons, List.not_mem_nil, or_false] at hz
      rcases hz with rfl | rfl | rfl | rfl | rfl <;> rfl
  clear ov1
  rintro ⟨k, looks, truths, v⟩ ⟨hk, ov, ⟨hll, htl⟩, hlk, htr⟩
  dsimp only at hk ov hll htl hlk htr ⊢
  have hlm : (looks.map rwA).length = looks.length := List.length_map _
  have htm : (truths.map trA).length = truths.length := List.length_map _
  conv => whnf
  by_cases hlt : (k : Int) < N
  · skip
    repeat' first | ((with_reducible apply XBr.dec) <;> (intro h; first | (exfalso; omega) | ((try simp only [List.length_map] at h); first | (exfalso; omega) | (conv => whnf)))) | fail
    refine Walk.nilgr 7 3 rfl ?_
    refine Walk.nilcell 6 0 34 rfl rfl ?_
    refine Walk.heapE [hpC v, .cells zSn, .cells [.int .i64 P, .int .i64 0, .int .i64 bd, .int .i64 L, .sl W.isEmpty (W.map wyA), .gr 4 looks.length, .gr 5 truths.length], .dead, .grow 43 looks.isEmpty (looks.map rwA), .grow 37 truths.isEmpty (truths.map trA), .cells [.gr 8 0], .grow 3 true [], .grow 34 true []] rfl ?_
    refine Walk.loopK tab_ok [] [(0, _), (4, _), (5, _), (8, _), (66, _), (67, _), (70, _)] ⟨rfl, rfl, rfl, rfl, rfl, rfl, rfl, trivial⟩ (fun g : Nat × List Int × List Sps × Hp => (g.1 : Int) ≤ P ∧ g.2.2.2.Ok ∧ (g.2.1.length = g.1 ∧ g.2.2.1.length = g.1) ∧ (∀ n ∈ g.2.1, 0 ≤ n ∧ n ≤ 3) ∧ ∀ r ∈ g.2.2.1, spE L none r.2 = 0 ∧ r.2.length ≤ 2) (fun g => [(7, .gr 7 g.2.1.length), (71, natA g.1)]) (fun g => [hpC g.2.2.2, .cells zSn, .cells [.int .i64 P, .int .i64 0, .int .i64 bd, .int .i64 L, .sl W.isEmpty (W.map wyA), .gr 4 looks.length, .gr 5 truths.length], .dead, .grow 43 looks.isEmpty (looks.map rwA), .grow 37 truths.isEmpty (truths.map trA), .cells [.gr 8 g.2.2.1.length], .grow 3 g.2.1.isEmpty (ints g.2.1), .grow 34 g.2.2.1.isEmpty (g.2.2.1.map spsA)]) (fun g => P.toNat - g.1) (0, [], [], v) ⟨by dsimp only; omega, ov, ⟨rfl, rfl⟩, by simp, by simp⟩ rfl ⟨rfl, rfl, trivial⟩ ?_
    clear ov
    rintro ⟨q, row, dry, v⟩ ⟨hq, ov, ⟨hrl, hdl⟩, hrow, hdry⟩
    dsimp only at hq ov hrl hdl hrow hdry ⊢
    have hrm : (ints row).length = row.length := ints_len _
    have hdm : (dry.map spsA).length = dry.length := List.length_map _
    conv => whnf
    by_cases hlt2 : (q : Int) < P
    · have htd : L.tdiv 2 = L / 2 := Int.tdiv_eq_ediv_of_nonneg (by omega)
      have htd1 : 0 ≤ L.tdiv 2 ∧ L.tdiv 2 ≤ L - 2 := by rw [htd]; omega
      obtain ⟨z1, v1, hz1, ov1, hd1⟩ := upto_e v 3 ov (by omega) (by omega)
      obtain ⟨z2, v2, hz2, ov2, hd2⟩ := upto_e v1 1 ov1 (by omega) (by omega)
      obtain ⟨z3, v3, hz3, ov3, hd3⟩ := upto_e v2 2 ov2 (by omega) (by omega)
      obtain ⟨z4, v4, hz4, ov4, hd4⟩ := upto_e v3 (L.tdiv 2) ov3 (by omega) (by omega)
      obtain ⟨z5, v5, hz5, ov5, hd5⟩ := upto_e v4 L ov4 (by omega) (by omega)
      obtain ⟨b, v6, ov6, hd6⟩ := once_e v5 4 ov5 (by omega) (by omega)
      have hzz : 0 ≤ z1 * z2 ∧ z1 * z2 ≤ 3 := by
        have : z2 = 0 ∨ z2 = 1 := by omega
        rcases this with h | h <;> rw [h] <;> omega
      have hrow' : ∀ n ∈ row ++ [z1 * z2], 0 ≤ n ∧ n ≤ 3 := fun n hn => by
        rcases List.mem_append.1 hn with hn | hn
        · exact hrow n hn
        · rw [List.mem_singleton] at hn; rw [hn]; exact hzz
      have hstep : ∀ r : Sps, spE L none r.2 = 0 → r.2.length ≤ 2 → ((q + 1 : Nat) : Int) ≤ P ∧ v6.Ok ∧ ((row ++ [z1 * z2]).length = q + 1 ∧ (dry ++ [r]).length = q + 1) ∧ (∀ n ∈ row ++ [z1 * z2], 0 ≤ n ∧ n ≤ 3) ∧ ∀ r' ∈ dry ++ [r], spE L none r'.2 = 0 ∧ r'.2.length ≤ 2 := fun r h1 h2 => ⟨by omega, ov6, ⟨by rw [List.length_append, hrl]; rfl, by rw [List.length_append, hdl]; rfl⟩, hrow', fun r' hr' => by
        rcases List.mem_append.1 hr' with hr' | hr'
        · exact hdry r' hr'
        · rw [List.mem_singleton] at hr'; rw [hr']; exact ⟨h1, h2⟩⟩
      by_cases hq0 : (q : Int) = 0
      · skip
        by_cases hc : b = true ∧ 0 + 1 < z5 ∧ z5 < L - 1
        · obtain ⟨hcb, hc1, hc2⟩ := hc
          subst hcb
          repeat' first | ((with_reducible apply XBr.tt); conv => whnf) | ((with_reducible apply XBr.dec) <;> (intro h; first | (exfalso; omega) | ((try simp only [List.length_map] at h); first | (exfalso; omega) | (conv => whnf)))) | ((with_reducible apply XBr.beq) <;> (intro h; first | (exfalso; omega) | (conv => whnf))) | ((with_reducible refine XInt.i64 (by omega) (by omega) ?_); conv => whnf) | ((with_reducible refine XHold.mk ?_ ?_); (first | omega | rfl | decide | exact ⟨rfl, by decide, rfl⟩ | exact wideI _ | exact widePr _ | exact wideSk _ | (unfold Room; constructor <;> ((try simp) <;> omega)) | exact ⟨rfl, by simp only [List.length_map], by unfold Room; constructor <;> ((try simp) <;> omega)⟩ | exact ⟨by omega, by omega, by unfold Room; constructor <;> ((try simp) <;> omega)⟩); conv => whnf) | (with_reducible apply XAnd.mk) | ((first | (with_reducible apply Chk.go) | (with_reducible apply ChkA.go) | (with_reducible apply ChkF.go) | (with_reducible apply ChkB.go)); conv => whnf) | (exact XSame.mk rfl rfl) | (with_reducible exact trivial) | (apply Walk.drawN (id := 17) tab_ok mixed_ok [] [1, 8] (hsC [_, _, _]) [_, _, _, _, _, _, _, _, _, _, _, _] (by kernel_rfl) rfl) | (apply Walk.drawN (id := 19) tab_ok mixed_ok [] [] (hsU _) [_, _, _, _] (by kernel_rfl) rfl) | ((first | (with_reducible apply XNext.mk) | (refine XCall.hp (j := 0) hd1 rfl rfl ?_) | (refine XCall.hp (j := 0) hd2 rfl rfl ?_) | (refine XCall.hp (j := 0) hd3 rfl rfl ?_) | (refine XCall.hp (j := 0) hd4 rfl rfl ?_) | (refine XCall.hp (j := 0) hd5 rfl rfl ?_) | (refine XCall.hp (j := 0) hd6 rfl rfl ?_)); conv => whnf) | fail
          all_goals
            refine XAgain.go (q + 1, row ++ [z1 * z2], dry ++ [((false, [(0, z5 - 1), (z5 + 1, L)]) : Sps)], v6) (hstep _ (by exact sp_two (by omega) (by omega) (by omega) (by omega)) (by simp)) (by dsimp only; omega) ?_ ⟨rfl, rfl, rfl, rfl, rfl, rfl, rfl, (by rw [List.length_append]; rfl), rfl, trivial⟩
            dsimp only
            rw [List.length_append, isEmpty_app, isEmpty_app, List.map_append, ints_app]; rfl
        cases b with
        | false =>
          repeat' first | ((with_reducible apply XBr.ff); conv => whnf) | ((with_reducible apply XBr.dec) <;> (intro h; first | (exfalso; omega) | ((try simp only [List.length_map] at h); first | (exfalso; omega) | (conv => whnf)))) | ((with_reducible apply XBr.beq) <;> (intro h; first | (exfalso; omega) | (conv => whnf))) | ((with_reducible refine XInt.i64 (by omega) (by omega) ?_); conv => whnf) | ((with_reducible refine XHold.mk ?_ ?_); (first | omega | rfl | decide | exact ⟨rfl, by decide, rfl⟩ | exact wideI _ | exact widePr _ | exact wideSk _ | (unfold Room; constructor <;> ((try simp) <;> omega)) | exact ⟨rfl, by simp only [List.length_map], by unfold Room; constructor <;> ((try simp) <;> omega)⟩ | exact ⟨by omega, by omega, by unfold Room; constructor <;> ((try simp) <;> omega)⟩); conv => whnf) | (with_reducible apply XAnd.mk) | ((first | (with_reducible apply Chk.go) | (with_reducible apply ChkA.go) | (with_reducible apply ChkF.go) | (with_reducible apply ChkB.go)); conv => whnf) | (exact XSame.mk rfl rfl) | (with_reducible exact trivial) | (apply Walk.drawN (id := 17) tab_ok mixed_ok [] [1, 8] (hsC [_, _, _]) [_, _, _, _, _, _, _, _, _, _, _, _] (by kernel_rfl) rfl) | (apply Walk.drawN (id := 19) tab_ok mixed_ok [] [] (hsU _) [_, _, _, _] (by kernel_rfl) rfl) | ((first | (with_reducible apply XNext.mk) | (refine XCall.hp (j := 0) hd1 rfl rfl ?_) | (refine XCall.hp (j := 0) hd2 rfl rfl ?_) | (refine XCall.hp (j := 0) hd3 rfl rfl ?_) | (refine XCall.hp (j := 0) hd4 rfl rfl ?_) | (refine XCall.hp (j := 0) hd5 rfl rfl ?_) | (refine XCall.hp (j := 0) hd6 rfl rfl ?_)); conv => whnf) | fail
          all_goals
            refine XAgain.go (q + 1, row ++ [z1 * z2], dry ++ [((false, [(0, max 0 (L))]) : Sps)], v6) (hstep _ (by exact sp_one (by omega) (by omega) (by omega)) (by simp)) (by dsimp only; omega) ?_ ⟨rfl, rfl, rfl, rfl, rfl, rfl, rfl, (by rw [List.length_append]; rfl), rfl, trivial⟩
            dsimp only
            rw [List.length_append, isEmpty_app, isEmpty_app, List.map_append, ints_app]; rfl
        | true =>
          have hc' : ¬ (0 + 1 < z5 ∧ z5 < L - 1) := fun h => hc ⟨rfl, h⟩
          repeat' first | ((first | (with_reducible apply XBr.tt) | (with_reducible apply XBr.ff)); conv => whnf) | ((with_reducible apply XBr.dec) <;> (intro h; first | (exfalso; omega) | ((try simp only [List.length_map] at h); first | (exfalso; omega) | (conv => whnf)))) | ((with_reducible apply XBr.beq) <;> (intro h; first | (exfalso; omega) | (conv => whnf))) | ((with_reducible refine XInt.i64 (by omega) (by omega) ?_); conv => whnf) | ((with_reducible refine XHold.mk ?_ ?_); (first | omega | rfl | decide | exact ⟨rfl, by decide, rfl⟩ | exact wideI _ | exact widePr _ | exact wideSk _ | (unfold Room; constructor <;> ((try simp) <;> omega)) | exact ⟨rfl, by simp only [List.length_map], by unfold Room; constructor <;> ((try simp) <;> omega)⟩ | exact ⟨by omega, by omega, by unfold Room; constructor <;> ((try simp) <;> omega)⟩); conv => whnf) | (with_reducible apply XAnd.mk) | ((first | (with_reducible apply Chk.go) | (with_reducible apply ChkA.go) | (with_reducible apply ChkF.go) | (with_reducible apply ChkB.go)); conv => whnf) | (exact XSame.mk rfl rfl) | (with_reducible exact trivial) | (apply Walk.drawN (id := 17) tab_ok mixed_ok [] [1, 8] (hsC [_, _, _]) [_, _, _, _, _, _, _, _, _, _, _, _] (by kernel_rfl) rfl) | (apply Walk.drawN (id := 19) tab_ok mixed_ok [] [] (hsU _) [_, _, _, _] (by kernel_rfl) rfl) | ((first | (with_reducible apply XNext.mk) | (refine XCall.hp (j := 0) hd1 rfl rfl ?_) | (refine XCall.hp (j := 0) hd2 rfl rfl ?_) | (refine XCall.hp (j := 0) hd3 rfl rfl ?_) | (refine XCall.hp (j := 0) hd4 rfl rfl ?_) | (refine XCall.hp (j := 0) hd5 rfl rfl ?_) | (refine XCall.hp (j := 0) hd6 rfl rfl ?_)); conv => whnf) | fail
          all_goals
            refine XAgain.go (q + 1, row ++ [z1 * z2], dry ++ [((false, [(0, max 0 (L))]) : Sps)], v6) (hstep _ (by exact sp_one (by omega) (by omega) (by omega)) (by simp)) (by dsimp only; omega) ?_ ⟨rfl, rfl, rfl, rfl, rfl, rfl, rfl, (by rw [List.length_append]; rfl), rfl, trivial⟩
            dsimp only
            rw [List.length_append, isEmpty_app, isEmpty_app, List.map_append, ints_app]; rfl
      · skip
        by_cases hc : b = true ∧ z3 + 1 < z5 ∧ z5 < (L - z4) - 1
        · obtain ⟨hcb, hc1, hc2⟩ := hc
          subst hcb
          repeat' first | ((with_reducible apply XBr.tt); conv => whnf) | ((with_reducible apply XBr.dec) <;> (intro h; first | (exfalso; omega) | ((try simp only [List.length_map] at h); first | (exfalso; omega) | (conv => whnf)))) | ((with_reducible apply XBr.beq) <;> (intro h; first | (exfalso; omega) | (conv => whnf))) | ((with_reducible refine XInt.i64 (by omega) (by omega) ?_); conv => whnf) | ((with_reducible refine XHold.mk ?_ ?_); (first | omega | rfl | decide | exact ⟨rfl, by decide, rfl⟩ | exact wideI _ | exact widePr _ | exact wideSk _ | (unfold Room; constructor <;> ((try simp) <;> omega)) | exact ⟨rfl, by simp only [List.length_map], by unfold Room; constructor <;> ((try simp) <;> omega)⟩ | exact ⟨by omega, by omega, by unfold Room; constructor <;> ((try simp) <;> omega)⟩); conv => whnf) | (with_reducible apply XAnd.mk) | ((first | (with_reducible apply Chk.go) | (with_reducible apply ChkA.go) | (with_reducible apply ChkF.go) | (with_reducible apply ChkB.go)); conv => whnf) | (exact XSame.mk rfl rfl) | (with_reducible exact trivial) | (apply Walk.drawN (id := 17) tab_ok mixed_ok [] [1, 8] (hsC [_, _, _]) [_, _, _, _, _, _, _, _, _, _, _, _] (by kernel_rfl) rfl) | ((first | (with_reducible apply XNext.mk) | (refine XCall.hp (j := 0) hd1 rfl rfl ?_) | (refine XCall.hp (j := 0) hd2 rfl rfl ?_) | (refine XCall.hp (j := 0) hd3 rfl rfl ?_) | (refine XCall.hp (j := 0) hd4 rfl rfl ?_) | (refine XCall.hp (j := 0) hd5 rfl rfl ?_) | (refine XCall.hp (j := 0) hd6 rfl rfl ?_)); conv => whnf) | fail
          all_goals
            refine XAgain.go (q + 1, row ++ [z1 * z2], dry ++ [((false, [(z3, z5 - 1), (z5 + 1, (L - z4))]) : Sps)], v6) (hstep _ (by exact sp_two (by omega) (by omega) (by omega) (by omega)) (by simp)) (by dsimp only; omega) ?_ ⟨rfl, rfl, rfl, rfl, rfl, rfl, rfl, (by rw [List.length_append]; rfl), rfl, trivial⟩
            dsimp only
            rw [List.length_append, isEmpty_app, isEmpty_app, List.map_append, ints_app]; rfl
        cases b with
        | false =>
          repeat' first | ((with_reducible apply XBr.ff); conv => whnf) | ((with_reducible apply XBr.dec) <;> (intro h; first | (exfalso; omega) | ((try simp only [List.length_map] at h); first | (exfalso; omega) | (conv => whnf)))) | ((with_reducible apply XBr.beq) <;> (intro h; first | (exfalso; omega) | (conv => whnf))) | ((with_reducible refine XInt.i64 (by omega) (by omega) ?_); conv => whnf) | ((with_reducible refine XHold.mk ?_ ?_); (first | omega | rfl | decide | exact ⟨rfl, by decide, rfl⟩ | exact wideI _ | exact widePr _ | exact wideSk _ | (unfold Room; constructor <;> ((try simp) <;> omega)) | exact ⟨rfl, by simp only [List.length_map], by unfold Room; constructor <;> ((try simp) <;> omega)⟩ | exact ⟨by omega, by omega, by unfold Room; constructor <;> ((try simp) <;> omega)⟩); conv => whnf) | (with_reducible apply XAnd.mk) | ((first | (with_reducible apply Chk.go) | (with_reducible apply ChkA.go) | (with_reducible apply ChkF.go) | (with_reducible apply ChkB.go)); conv => whnf) | (exact XSame.mk rfl rfl) | (with_reducible exact trivial) | (apply Walk.drawN (id := 17) tab_ok mixed_ok [] [1, 8] (hsC [_, _, _]) [_, _, _, _, _, _, _, _, _, _, _, _] (by kernel_rfl) rfl) | ((first | (with_reducible apply XNext.mk) | (refine XCall.hp (j := 0) hd1 rfl rfl ?_) | (refine XCall.hp (j := 0) hd2 rfl rfl ?_) | (refine XCall.hp (j := 0) hd3 rfl rfl ?_) | (refine XCall.hp (j := 0) hd4 rfl rfl ?_) | (refine XCall.hp (j := 0) hd5 rfl rfl ?_) | (refine XCall.hp (j := 0) hd6 rfl rfl ?_)); conv => whnf) | fail
          all_goals
            refine XAgain.go (q + 1, row ++ [z1 * z2], dry ++ [((false, [(z3, max z3 ((L - z4)))]) : Sps)], v6) (hstep _ (by exact sp_one (by omega) (by omega) (by omega)) (by simp)) (by dsimp only; omega) ?_ ⟨rfl, rfl, rfl, rfl, rfl, rfl, rfl, (by rw [List.length_append]; rfl), rfl, trivial⟩
            dsimp only
            rw [List.length_append, isEmpty_app, isEmpty_app, List.map_append, ints_app]; rfl
        | true =>
          have hc' : ¬ (z3 + 1 < z5 ∧ z5 < (L - z4) - 1) := fun h => hc ⟨rfl, h⟩
          repeat' first | ((first | (with_reducible apply XBr.tt) | (with_reducible apply XBr.ff)); conv => whnf) | ((with_reducible apply XBr.dec) <;> (intro h; first | (exfalso; omega) | ((try simp only [List.length_map] at h); first | (exfalso; omega) | (conv => whnf)))) | ((with_reducible apply XBr.beq) <;> (intro h; first | (exfalso; omega) | (conv => whnf))) | ((with_reducible refine XInt.i64 (by omega) (by omega) ?_); conv => whnf) | ((with_reducible refine XHold.mk ?_ ?_); (first | omega | rfl | decide | exact ⟨rfl, by decide, rfl⟩ | exact wideI _ | exact widePr _ | exact wideSk _ | (unfold Room; constructor <;> ((try simp) <;> omega)) | exact ⟨rfl, by simp only [List.length_map], by unfold Room; constructor <;> ((try simp) <;> omega)⟩ | exact ⟨by omega, by omega, by unfold Room; constructor <;> ((try simp) <;> omega)⟩); conv => whnf) | (with_reducible apply XAnd.mk) | ((first | (with_reducible apply Chk.go) | (with_reducible apply ChkA.go) | (with_reducible apply ChkF.go) | (with_reducible apply ChkB.go)); conv => whnf) | (exact XSame.mk rfl rfl) | (with_reducible exact trivial) | (apply Walk.drawN (id := 17) tab_ok mixed_ok [] [1, 8] (hsC [_, _, _]) [_, _, _, _, _, _, _, _, _, _, _, _] (by kernel_rfl) rfl) | ((first | (with_reducible apply XNext.mk) | (refine XCall.hp (j := 0) hd1 rfl rfl ?_) | (refine XCall.hp (j := 0) hd2 rfl rfl ?_) | (refine XCall.hp (j := 0) hd3 rfl rfl ?_) | (refine XCall.hp (j := 0) hd4 rfl rfl ?_) | (refine XCall.hp (j := 0) hd5 rfl rfl ?_) | (refine XCall.hp (j := 0) hd6 rfl rfl ?_)); conv => whnf) | fail
          all_goals
            refine XAgain.go (q + 1, row ++ [z1 * z2], dry ++ [((false, [(z3, max z3 ((L - z4)))]) : Sps)], v6) (hstep _ (by exact sp_one (by omega) (by omega) (by omega)) (by simp)) (by dsimp only; omega) ?_ ⟨rfl, rfl, rfl, rfl, rfl, rfl, rfl, (by rw [List.length_append]; rfl), rfl, trivial⟩
            dsimp only
            rw [List.length_append, isEmpty_app, isEmpty_app, List.map_append, ints_app]; rfl
    have hqP : (q : Int) = P := by omega
    repeat' first | ((with_reducible apply XBr.dec) <;> (intro h; first | (exfalso; omega) | ((try simp only [List.length_map] at h); first | (exfalso; omega) | (conv => whnf)))) | fail
    refine Walk.freeze 7 7 row.length rfl rfl hrm ?_
    refine Walk.freezeCell 6 0 8 dry.length rfl rfl rfl hdm ?_
    apply Walk.drawX tab_ok mixed_ok [] [4, 9, 11, 13] (hsC [_, _, _, _, _]) [_, _, _, _, _, _, _, _, _, _, _, _, _, _] (by kernel_rfl) rfl
    · skip
      repeat' first | ((with_reducible refine XHold.mk ?_ ?_); (first | omega | rfl | decide | exact ⟨rfl, by decide, rfl⟩ | exact wideI _ | exact widePr _ | exact wideSk _ | (unfold Room; constructor <;> ((try simp) <;> omega)) | exact ⟨rfl, by simp only [List.length_map], by unfold Room; constructor <;> ((try simp) <;> omega)⟩ | exact ⟨by omega, by omega, by unfold Room; constructor <;> ((try simp) <;> omega)⟩); conv => whnf) | (with_reducible apply XAnd.mk) | ((first | (with_reducible apply Chk.go) | (with_reducible apply ChkA.go)); conv => whnf) | (exact XSame.mk rfl rfl) | (with_reducible exact trivial) | fail
    · skip
      repeat' first | ((with_reducible refine XHold.mk ?_ ?_); (first | omega | rfl | decide | exact ⟨rfl, by decide, rfl⟩ | exact wideI _ | exact widePr _ | exact wideSk _ | (unfold Room; constructor <;> ((try simp) <;> omega)) | exact ⟨rfl, by simp only [List.length_map], by unfold Room; constructor <;> ((try simp) <;> omega)⟩ | exact ⟨by omega, by omega, by unfold Room; constructor <;> ((try simp) <;> omega)⟩); conv => whnf) | (with_reducible apply XAnd.mk) | ((first | (with_reducible apply Chk.go) | (with_reducible apply ChkF.go) | (with_reducible apply ChkB.go)); conv => whnf) | (exact XSame.mk rfl rfl) | (with_reducible exact trivial) | fail
    conv => whnf
    repeat' first | ((with_reducible refine XInt.i64 (by omega) (by omega) ?_); conv => whnf) | fail
    refine XAgainG.go (k + 1, looks ++ [((row.isEmpty, row) : Rw)], truths ++ [((dry.isEmpty, dry) : Tru)], v) [.cells [.sl dry.isEmpty (dry.map spsA)], .dead, .dead] ⟨by dsimp only; omega, ov, ⟨by dsimp only; rw [List.length_append, hll]; rfl, by dsimp only; rw [List.length_append, htl]; rfl⟩, fun r hr => ?_, fun t ht => ?_⟩ (by dsimp only; omega) ?_ ⟨rfl, rfl, rfl, rfl, rfl, trivial⟩
    · rcases List.mem_append.1 hr with hr | hr
      · exact hlk r hr
      · rw [List.mem_singleton] at hr; rw [hr]; exact ⟨by dsimp only; omega, hrow⟩
    · rcases List.mem_append.1 ht with ht | ht
      · exact htr t ht
      · rw [List.mem_singleton] at ht; rw [ht]; exact ⟨by dsimp only; omega, hdry⟩
    dsimp only
    rw [List.length_append, List.length_append, isEmpty_app, isEmpty_app, List.map_append, List.map_append]; rfl
  have hkN : (k : Int) = N := by omega
  repeat' first | ((with_reducible apply XBr.dec) <;> (intro h; first | (exfalso; omega) | ((try simp only [List.length_map] at h); first | (exfalso; omega) | (conv => whnf)))) | fail
  exact ⟨_, [hpC v], ⟨rfl, rfl, fun x hx => hpLow hx, FrozN.agg (snOne ⟨P, 0, bd, L, W.isEmpty, W, looks.isEmpty, looks, truths.isEmpty, truths⟩) (.cons (.low rfl) (.cons (.low rfl) (.cons (.low rfl) (.cons (.low rfl) (.cons (.low (lowWy _)) (.cons (FrozN.grow (show (1 : Nat) ≤ 4 by omega) rfl hlm (lowRk _)) (.cons (FrozN.grow (show (1 : Nat) ≤ 5 by omega) rfl htm (lowTr _)) .nil)))))))⟩, _, v, snL _, ⟨_, rfl, mk_ok (by omega) (by omega) (by omega) hl2 hW hlk htr (by omega) (by omega) (by omega), ov⟩, rfl, rfl⟩
end GA
end

section
namespace GA
open Go Go.RowKit Go.Proofs
set_option pp.deepTerms true
set_option maxRecDepth 8000
set_option linter.unusedVariables false
set_option linter.unusedSimpArgs false

def lowB (l : Nat) : Nat := ((List.range 4).find? fun i => l.testBit i).getD 0
end GA
end

section
namespace GA
open Go Go.RowKit Go.Proofs
set_option pp.deepTerms true
set_option maxRecDepth 8000
set_option linter.unusedVariables false
set_option linter.unusedSimpArgs false

theorem hpB_ok {nl : Bool} {bs : List Int} (h : bs.length < 9223372036854775808) : (hp0 nl bs).Ok := ⟨h, .inr rfl⟩
theorem XInt.shlL {α : Type} {f : α → AV} {xs : List α} {w : Nat} {k : AV → Prop} (hw : w = 2 ^ xs.length) (h : xs.length ≤ 62) (hk : k (natA w)) : XInt .i64 (1 * 2 ^ min (((xs.map f).length : Nat) : Int).toNat IntKind.i64.bits) k := by
  rw [List.length_map]; subst hw; exact XInt.shl h hk
theorem bit_sh {l i : Nat} (hl : l < 1000000) (hi : i ≤ 64) : iand .i64 ((l : Int).fdiv (2 ^ (min (i : Int).toNat IntKind.i64.bits))) 1 = if l.testBit i = true then 1 else 0 := by
  rw [shr_nat hi]
  have h1 : iand .i64 ((l / 2 ^ i : Nat) : Int) ((1 : Nat) : Int) = ((l / 2 ^ i &&& 1 : Nat) : Int) := iand_nat (by have := Nat.div_le_self l (2 ^ i); omega) (by omega)
  refine Eq.trans h1 ?_
  rw [Nat.and_one_is_mod, Nat.testBit_eq_decide_div_mod_eq]
  by_cases e : l / 2 ^ i % 2 = 1
  · rw [e, decide_eq_true rfl, if_pos rfl]; rfl
  · rw [decide_eq_false e, if_neg (by simp)]; omega
end GA
end

section
namespace GA
open Go Go.RowKit Go.Proofs
set_option pp.deepTerms true
set_option maxRecDepth 8000
set_option linter.unusedVariables false
set_option linter.unusedSimpArgs false

abbrev Rs := Bool × List Rw
def tbN (T : List Rs) (y : Sta) : Int := (((T.getD y.p default).2.getD y.m default).2).getD y.l default
structure TbOk (s : Sn) (T : List Rs) : Prop where
  a : (T.length : Int) = s.places
  b : ∀ p, p < T.length → ((T.getD p default).2.length : Int) = s.last + 1
  c : ∀ p m, p < T.length → m < (T.getD p default).2.length → ((T.getD p default).2.getD m default).2.length = allN s + 1
  d : ∀ p m l, p < T.length → m < (T.getD p default).2.length → l < ((T.getD p default).2.getD m default).2.length → -1 ≤ tbN T ⟨p, m, l⟩ ∧ tbN T ⟨p, m, l⟩ ≤ 60
theorem TbOk.at {s : Sn} {T : List Rs} (h : TbOk s T) {y : Sta} (hy : vld s y) : y.p < T.length ∧ y.m < (T.getD y.p default).2.length ∧ y.l < ((T.getD y.p default).2.getD y.m default).2.length ∧ -1 ≤ tbN T y ∧ tbN T y ≤ 60 := by
  obtain ⟨v1, v2, v3⟩ := hy
  have h1 := h.a
  have h2 : y.p < T.length := by omega
  have h3 := h.b _ h2
  have h4 : y.m < (T.getD y.p default).2.length := by omega
  have h5 := h.c _ _ h2 h4
  have h6 : y.l < ((T.getD y.p default).2.getD y.m default).2.length := by omega
  exact ⟨h2, h4, h6, h.d _ _ _ h2 h4 h6⟩
end GA
end

section
namespace GA
open Go Go.RowKit Go.Proofs
set_option pp.deepTerms true
set_option maxRecDepth 8000
set_option linter.unusedVariables false
set_option linter.unusedSimpArgs false

structure TbB (T : List Rs) : Prop where
  a : T.length ≤ 1000
  b : ∀ l ∈ T, l.2.length ≤ 1000
  c : ∀ l ∈ T, ∀ r ∈ l.2, r.2.length ≤ 1000
end GA
end

section
namespace GA
open Go Go.RowKit Go.Proofs
set_option pp.deepTerms true
set_option maxRecDepth 8000
set_option linter.unusedVariables false
set_option linter.unusedSimpArgs false

theorem st_vld {s : Sn} {p m l : Int} (h : sttE s p m l = 0) : vld s (stN p m l) := by
  obtain ⟨ok, h1, h2, h3, h4⟩ := sttE_iff.1 h
  exact ⟨by show ((p.toNat : Nat) : Int) < s.places; omega, by show ((m.toNat : Nat) : Int) ≤ s.last; omega, by show l.toNat ≤ allN s; omega⟩
theorem fWorth_ok (s : Sn) (hb : SnB s) (p m l : Int) (h : sttE s p m l = 0) : Comp Try.prog 22 [snA s, xA p m l] (.tup [.int .i64 (worthZ s (stN p m l)), .int .i64 0]) := by
  have hs := stated_ok s hb p m l h
  obtain ⟨ok, h1, h2, h3, h4⟩ := sttE_iff.1 h
  have hx := xA_st h1.1 h2.1 (show 0 ≤ l by omega)
  have hw := worths_c s ok
  have hc := wof_c s ok (stN p m l) (st_vld h)
  rw [← hx] at hc
  refine Comp.body (T := tab) (res := [.tmp 4, .tmp 5]) tab_ok [] Try.func22 rfl (by kernel_rfl) Try.ntmps22 rfl (by simp only [List.length_cons, List.length_nil]; decide) (by simp only [lowL, snL, xL]; rfl) ?_; conv => whnf
  repeat' first | ((with_reducible first | apply XBr.tt | apply XBr.ff | apply Chk.go | apply ChkA.go | apply ChkF.go | apply ChkB.go | apply XArr.pim0 | apply XArr.pim1); conv => whnf) | (with_reducible apply XBr.not) | ((with_reducible apply XBr.dec) <;> (intro h; first | (exfalso; omega) | ((try simp only [List.length_map] at h); first | (exfalso; omega) | (conv => whnf)))) | ((with_reducible first | apply XBr.beq | apply XBr.bne) <;> (intro h; first | (exfalso; omega) | (conv => whnf))) | ((with_reducible refine XInt.i64 (by omega) (by omega) ?_); conv => whnf) | ((with_reducible refine XHold.mk ?_ ?_); (first | omega | rfl | decide | exact ⟨rfl, by decide, rfl⟩ | exact wideI _ | exact widePr _ | exact wideSk _ | (unfold Room; constructor <;> ((try simp) <;> omega)) | exact ⟨rfl, by simp only [List.length_map], by unfold Room; constructor <;> ((try simp) <;> omega)⟩ | exact ⟨by omega, by omega, by unfold Room; constructor <;> ((try simp) <;> omega)⟩); conv => whnf) | ((first | ((with_reducible refine XIx.nat ?_ ?_ ?_); omega; (intro _; rfl)) | ((with_reducible refine XIx.map ?_ ?_ ?_ ?_); omega; omega; (intro _; rfl))); conv => whnf) | (with_reducible apply XAnd.mk) | (exact XSame.mk rfl rfl) | (exact XSame.mk (by first | rfl | (simp only [List.map_append, List.length_append, List.length_map]; done) | (simp only [List.map_append, List.length_append, List.length_map]; rfl)) (by first | rfl | (simp only [List.map_append]; done) | (simp only [List.map_append]; rfl))) | (with_reducible exact trivial) | ((first | (with_reducible refine xdrop_app (by rw [List.length_map]; omega) ?_) | (with_reducible refine XDrop.desk (by assumption) ?_) | (with_reducible first | refine XArr.ints (by omega) (by omega) (by omega) ?_ | refine XArr.intsA (by omega) (by omega) (by omega) ?_) | ((with_reducible first | refine XArr.nats ?_ ?_ ?_ | refine XArr.natsA ?_ ?_ ?_ | refine XArr.ptr ?_ ?_ ?_); omega; omega)); conv => whnf) | (apply Walk.drawN (id := 4) tab_ok mixed_ok [] [] (hsU _) [_, _, _, _, _, _] (by kernel_rfl) rfl) | ((first | (with_reducible apply XNext.mk) | (refine XCall.ret hs ?_) | (refine XCall.ret hw ?_) | (refine XCall.ret hc ?_)); conv => whnf) | ((with_reducible apply XBr.mk') <;> (intro h; conv => whnf))
  exact ⟨.low rfl⟩
theorem XCall.as {P : Program} {f : FuncId} {rs rs' : List AV} {H : List Blk} {k : AV → List Blk → Prop} (e : rs' = rs) (x : XCall P f rs' H k) : XCall P f rs H k := e ▸ x
end GA
end

section
namespace GA
open Go Go.RowKit Go.Proofs
set_option pp.deepTerms true
set_option maxRecDepth 8000
set_option linter.unusedVariables false
set_option linter.unusedSimpArgs false

theorem subAnd {a b : Nat} (h : ∀ i, a.testBit i = true → b.testBit i = true) : a &&& b = a := by
  refine bit_ext fun i => ?_
  rw [Nat.testBit_and]
  cases e : a.testBit i with
  | false => rfl
  | true => rw [h i e]; rfl
def orK (A : List Sta) : Nat → Nat
  | 0 => 0
  | i + 1 => orK A i ||| (A.getD i default).l
structure AftOk (s : Sn) (x : Sta) (t : Int × Int) (A : List Sta) : Prop where
  h : ∀ i, i < A.length → (A.getD i default).p = t.1.toNat ∧ (A.getD i default).m = (x.m + t.2).toNat ∧ (A.getD i default).l ≠ 0 ∧ (A.getD i default).l ≤ allN s ∧ lowB (A.getD i default).l < s.looks.length
  dry : ∀ i, i < A.length → iandn .i64 ((A.getD i default).l : Int) (drN s t.1.toNat (x.m + t.2).toNat : Int) = 0
  dis : ∀ i, i < A.length → orK A i &&& (A.getD i default).l = 0
  lk : ∀ i, 0 < i → i < A.length → lookZ s (lowB (A.getD (i - 1) default).l) t.1.toNat < lookZ s (lowB (A.getD i default).l) t.1.toNat
  all : orK A A.length = x.l
  le : ∀ i, i ≤ A.length → orK A i ≤ allN s
theorem all_sub {s : Sn} {a : Nat} (h : a ≤ allN s) : ∀ i, a.testBit i = true → i < s.truths.length := fun i hi => by
  have h1 : a < 2 ^ s.truths.length := by
    have : 1 ≤ 2 ^ s.truths.length := Nat.one_le_two_pow
    have e : allN s = 2 ^ s.truths.length - 1 := rfl
    omega
  refine Classical.byContradiction fun hn => ?_
  rw [Nat.testBit_lt_two_pow (Nat.lt_of_lt_of_le h1 (Nat.pow_le_pow_right (by omega) (Nat.le_of_not_lt hn)))] at hi
  cases hi
theorem sub_all {s : Sn} {a : Nat} (h : ∀ i, a.testBit i = true → i < s.truths.length) : a ≤ allN s := by
  have e : a &&& allN s = a := subAnd fun i hi => by rw [allN_bit]; exact decide_eq_true (h i hi)
  rw [← e]; exact Nat.and_le_right
end GA
end

section
namespace GA
open Go Go.RowKit Go.Proofs
set_option pp.deepTerms true
set_option maxRecDepth 8000
set_option linter.unusedVariables false
set_option linter.unusedSimpArgs false

structure PermOk (n : Nat) (f g : Nat → Nat) : Prop where
  f_lt : ∀ i, i < n → f i < n
  g_lt : ∀ i, i < n → g i < n
  gf : ∀ i, i < n → g (f i) = i
  fg : ∀ i, i < n → f (g i) = i
theorem PermOk.inj {n : Nat} {f g : Nat → Nat} (h : PermOk n f g) {i j : Nat} (hi : i < n) (hj : j < n) (e : f i = f j) : i = j := by rw [← h.gf i hi, e, h.gf j hj]
theorem PermOk.symm {n : Nat} {f g : Nat → Nat} (h : PermOk n f g) : PermOk n g f := ⟨h.g_lt, h.f_lt, h.fg, h.gf⟩
theorem Emb.start {s u : Sn} (oks : SnOk s) (oku : SnOk u) {π τ : Nat → Nat} (E : Emb s u π τ fun i => i < s.truths.length) (hsur : ∀ j, j < u.truths.length → ∃ i, i < s.truths.length ∧ τ i = j) {m : Nat} (hm : (m : Int) ≤ s.last) : startZ s m ≤ startZ u m := by
  refine startZ_ge (startZ_le s m).1 fun l hl => ?_
  obtain ⟨hne, hlB⟩ := part_B oku hl
  have h1 := oks.h1
  obtain ⟨j, hj⟩ := Wider.start.bit_some hne
  obtain ⟨i0, hi0, hij⟩ := hsur j (hlB j hj).1
  have hjs : i0 < s.looks.length := by rw [oks.k1]; exact hi0
  obtain ⟨n, hn, hlk, hpm, hb⟩ := parts_has oks (p := s.home.toNat) (left := allN s) (by omega) hjs (by rw [allN_bit]; exact decide_eq_true hi0)
  refine Int.le_trans ((startZ_le s m).2 _ hpm) ?_
  have hho := E.home s.home.toNat (by omega)
  have hho' : u.home.toNat = π s.home.toNat := by omega
  obtain ⟨k, -, ek, -⟩ := partsL_mem.1 hl
  have hbits : ∀ i, l.testBit i = true → i < u.truths.length ∧ lookZ u i u.home.toNat = (k : Nat) := fun i hi => by
    rw [ek, partN_bit] at hi
    simp only [Bool.and_eq_true, decide_eq_true_eq, beq_iff_eq] at hi
    rw [oku.k1] at hi
    exact ⟨hi.1, hi.2.1⟩
  rw [hho'] at hbits ⊢
  refine worth_mono oks oku E _ s.home.toNat m (partN s s.home.toNat (allN s) n) l (Nat.le_refl _) hm (by omega) hne (fun i hi => ?_) fun j' hj' => ?_
  · rw [partN_bit, Bool.and_eq_true, decide_eq_true_eq, oks.k1] at hi
    exact hi.1
  · obtain ⟨i', hi', e'⟩ := hsur j' (hbits j' hj').1
    refine ⟨i', ?_, e'⟩
    have hll := E.look i' i0 s.home.toNat hi' hi0 (by rw [e', hij, (hbits j' hj').2, (hbits j hj).2])
    rw [partN_bit, hll, hlk, allN_bit, decide_eq_true hi', decide_eq_true (by rw [oks.k1]; exact hi')]
    simp
def othK (a : Nat → Nat) (left : Nat) : Nat → Nat
  | 0 => 0
  | k + 1 => if left.testBit k = true then othK a left k ||| 2 ^ a k else othK a left k
theorem othK_bit {a : Nat → Nat} {left j : Nat} : ∀ {k : Nat}, (othK a left k).testBit j = true ↔ ∃ i, i < k ∧ left.testBit i = true ∧ a i = j
  | 0 => by
    rw [othK, Nat.zero_testBit]
    exact ⟨fun h => absurd h (by simp), fun ⟨i, h, _⟩ => by omega⟩
  | k + 1 => by
    rw [othK]
    by_cases h : left.testBit k = true
    · rw [if_pos h, Nat.testBit_or, Bool.or_eq_true, othK_bit, Nat.testBit_two_pow, decide_eq_true_eq]
      constructor
      · rintro (⟨i, h1, h2, h3⟩ | e)
        · exact ⟨i, by omega, h2, h3⟩
        · exact ⟨k, by omega, h, e⟩
      · rintro ⟨i, h1, h2, h3⟩
        by_cases e : i = k
        · subst e; exact .inr h3
        · exact .inl ⟨i, by omega, h2, h3⟩
    · rw [if_neg h, othK_bit]
      constructor
      · rintro ⟨i, h1, h2, h3⟩; exact ⟨i, by omega, h2, h3⟩
      · rintro ⟨i, h1, h2, h3⟩
        by_cases e : i = k
        · subst e; exact absurd h2 h
        · exact ⟨i, by omega, h2, h3⟩
def nmW (f : Nat → Nat) (w : Wy) : Wy := ((f w.2.1.toNat : Int), (f w.1.toNat : Int), w.2.2)
def nmR (s : Sn) (g b : Nat → Nat) (j : Nat) : Rw := (false, vecF s.places.toNat fun q => (s.looks.getD (b j) default).2.getD (g q) default)
def nmD (s : Sn) (g b : Nat → Nat) (j : Nat) : Tru := (false, vecF s.places.toNat fun q => (false, ((s.truths.getD (b j) default).2.getD (g q) default).2))
def nmS (s : Sn) (f g a b : Nat → Nat) : Sn := ⟨s.places, f s.home.toNat, f s.bed.toNat, s.last, s.ways.isEmpty, s.ways.map (nmW f), false, vecF s.truths.length (nmR s g b), false, vecF s.truths.length (nmD s g b)⟩
section
variable {s : Sn} {f g a b : Nat → Nat}
theorem nm_tl : (nmS s f g a b).truths.length = s.truths.length := vecF_len _ _
theorem nm_kl : (nmS s f g a b).looks.length = s.truths.length := vecF_len _ _
theorem nm_look {j q : Nat} (hj : j < s.truths.length) (hq : (q : Int) < s.places) : lookZ (nmS s f g a b) j q = lookZ s (b j) (g q) := by
  unfold lookZ
  show ((vecF s.truths.length (nmR s g b)).getD j default).2.getD q default = _
  rw [vecF_get _ hj]
  show (vecF s.places.toNat _).getD q default = _
  rw [vecF_get _ (by omega)]
theorem nm_dry {j q m : Nat} (hj : j < s.truths.length) (hq : (q : Int) < s.places) : dryT (nmS s f g a b) j q m = dryT s (b j) (g q) m := by
  unfold dryT
  show (((vecF s.truths.length (nmD s g b)).getD j default).2.getD q default).2.any _ = _
  rw [vecF_get _ hj]
  show ((vecF s.places.toNat fun q => ((false, ((s.truths.getD (b j) default).2.getD (g q) default).2) : Sps)).getD q default).2.any _ = _
  rw [vecF_get _ (by omega)]
theorem nm_lead {P : Nat} (hf : PermOk P f g) (hP : s.places = P) {w : Wy} (hw : 0 ≤ w.1 ∧ w.1 < s.places ∧ 0 ≤ w.2.1 ∧ w.2.1 < s.places) {p q : Nat} (hp : p < P) (hq : q < P) : leadB (nmW f w) (f p : Int) (f q : Int) = leadB w p q := by
  rw [Bool.eq_iff_iff, leadB_iff, leadB_iff]
  show (((f w.2.1.toNat : Int) = f p ∧ (f w.1.toNat : Int) = f q) ∨ ((f w.2.1.toNat : Int) = f q ∧ (f w.1.toNat : Int) = f p)) ↔ _
  have e : ∀ (z : Int) (k : Nat), 0 ≤ z ∧ z < s.places → k < P → ((f z.toNat : Int) = f k ↔ z = k) := fun z k hz hk => by
    constructor
    · intro h
      have := hf.inj (i := z.toNat) (j := k) (by omega) hk (by omega)
      omega
    · rintro rfl; rw [Int.toNat_natCast]
  rw [e _ _ ⟨hw.2.2.1, hw.2.2.2⟩ hp, e _ _ ⟨hw.1, hw.2.1⟩ hq, e _ _ ⟨hw.2.2.1, hw.2.2.2⟩ hq, e _ _ ⟨hw.1, hw.2.1⟩ hp]
  constructor
  · rintro (⟨h1, h2⟩ | ⟨h1, h2⟩)
    · exact .inr ⟨h2, h1⟩
    · exact .inl ⟨h2, h1⟩
  · rintro (⟨h1, h2⟩ | ⟨h1, h2⟩)
    · exact .inr ⟨h2, h1⟩
    · exact .inl ⟨h2, h1⟩
theorem nm_ok (ok : SnOk s) {P : Nat} (hP : s.places = P) (hf : PermOk P f g) (ha : PermOk s.truths.length a b) : SnOk (nmS s f g a b) := by
  have p1 := ok.p1; have h1 := ok.h1; have b1 := ok.b1
  have fl := hf.f_lt; have gl := hf.g_lt; have bl := ha.g_lt
  have hlm : ∀ l ∈ (nmS s f g a b).looks, ∃ j, j < s.truths.length ∧ nmR s g b j = l := fun l hl => vecF_mem.1 hl
  have htm : ∀ l ∈ (nmS s f g a b).truths, ∃ j, j < s.truths.length ∧ nmD s g b j = l := fun l hl => vecF_mem.1 hl
  refine ⟨ok.p1, ok.p2, by rw [nm_tl]; exact ok.t1, by rw [nm_tl]; exact ok.t2, by show (s.ways.map _).length ≤ 10; rw [List.length_map]; exact ok.w1, by rw [nm_tl, nm_kl], fun l hl => ?_, fun t ht => ?_, ok.l1, ok.l2, fun w hw => ?_, fun l hl n hn => ?_, ?_, ?_, fun w hw => ?_, fun e => ?_, fun i hi => ?_, fun t ht r hr => ?_⟩
  · obtain ⟨j, hj, rfl⟩ := hlm l hl
    show ((vecF s.places.toNat _).length : Int) = s.places
    rw [vecF_len]; omega
  · obtain ⟨j, hj, rfl⟩ := htm t ht
    show ((vecF s.places.toNat _).length : Int) = s.places
    rw [vecF_len]; omega
  · obtain ⟨w0, hw0, rfl⟩ := List.mem_map.1 (show w ∈ s.ways.map (nmW f) from hw)
    exact ok.wm w0 hw0
  · obtain ⟨j, hj, rfl⟩ := hlm l hl
    obtain ⟨q, hq, rfl⟩ := vecF_mem.1 (show n ∈ vecF s.places.toNat _ from hn)
    have hr : (s.looks.getD (b j) default) ∈ s.looks := getD_mem (by rw [ok.k1]; exact bl j hj)
    have := ok.kl _ hr
    have hgq := gl q (by omega)
    exact ok.kn _ hr _ (getD_mem (by omega))
  · have := fl s.home.toNat (by omega)
    show 0 ≤ ((f s.home.toNat : Nat) : Int) ∧ ((f s.home.toNat : Nat) : Int) < s.places
    omega
  · have := fl s.bed.toNat (by omega)
    show 0 ≤ ((f s.bed.toNat : Nat) : Int) ∧ ((f s.bed.toNat : Nat) : Int) < s.places
    omega
  · obtain ⟨w0, hw0, rfl⟩ := List.mem_map.1 (show w ∈ s.ways.map (nmW f) from hw)
    have hw := ok.wp w0 hw0
    have := fl w0.1.toNat (by omega)
    have := fl w0.2.1.toNat (by omega)
    show 0 ≤ ((f w0.2.1.toNat : Nat) : Int) ∧ ((f w0.2.1.toNat : Nat) : Int) < s.places ∧ 0 ≤ ((f w0.1.toNat : Nat) : Int) ∧ ((f w0.1.toNat : Nat) : Int) < s.places
    omega
  · have := hf.inj (i := s.home.toNat) (j := s.bed.toNat) (by omega) (by omega) (by have : ((f s.home.toNat : Nat) : Int) = ((f s.bed.toNat : Nat) : Int) := e; omega)
    exact ok.hb (by omega)
  · have hi' : i < s.ways.length := by rw [show (nmS s f g a b).ways.length = s.ways.length from List.length_map _] at hi; exact hi
    have hw0 : s.ways.getD i default ∈ s.ways := getD_mem hi'
    have hwp := ok.wp _ hw0
    have hag := ok.wa i hi'
    unfold agnI at hag ⊢
    have e1 : wyB (nmS s f g a b) i = nmW f (wyB s i) := by
      unfold wyB
      show (s.ways.map (nmW f)).getD i default = _
      rw [List.getD_eq_getElem?_getD, List.getElem?_map, List.getD_eq_getElem?_getD, List.getElem?_eq_getElem hi']; rfl
    have hwB : wyB s i = s.ways.getD i default := rfl
    rw [e1]
    rw [Bool.or_eq_false_iff] at hag ⊢
    rw [hwB] at hag ⊢
    refine ⟨?_, ?_⟩
    · rw [beq_eq_false_iff_ne]
      intro e
      have e' : ((f (s.ways.getD i default).2.1.toNat : Nat) : Int) = ((f (s.ways.getD i default).1.toNat : Nat) : Int) := e
      have := hf.inj (i := (s.ways.getD i default).2.1.toNat) (j := (s.ways.getD i default).1.toNat) (by omega) (by omega) (by omega)
      have h2 := hag.1
      rw [beq_eq_false_iff_ne] at h2
      omega
    · rw [List.any_eq_false]
      intro x hx
      have hx' : x ∈ (s.ways.take i).map (nmW f) := by rw [List.map_take]; exact hx
      obtain ⟨x0, hx0, rfl⟩ := List.mem_map.1 hx'
      have hle := nm_lead hf hP (ok.wp x0 (List.mem_of_mem_take hx0)) (p := (s.ways.getD i default).2.1.toNat) (q := (s.ways.getD i default).1.toNat) (by omega) (by omega)
      rw [Int.toNat_of_nonneg (by omega), Int.toNat_of_nonneg (by omega)] at hle
      have h2 := hag.2
      rw [List.any_eq_false] at h2
      have h3 := h2 x0 hx0
      show ¬ leadB (nmW f x0) ((f (s.ways.getD i default).2.1.toNat : Nat) : Int) ((f (s.ways.getD i default).1.toNat : Nat) : Int) = true
      rw [hle]
      intro h
      refine h3 ?_
      rw [leadB_iff] at h ⊢
      omega
  · obtain ⟨j, hj, rfl⟩ := htm t ht
    obtain ⟨q, hq, rfl⟩ := vecF_mem.1 (show r ∈ vecF s.places.toNat _ from hr)
    have hr : (s.truths.getD (b j) default) ∈ s.truths := getD_mem (bl j hj)
    have := ok.tl _ hr
    have hgq := gl q (by omega)
    exact ok.sp _ hr ((s.truths.getD (b j) default).2.getD (g q) default) (getD_mem (by omega))
theorem nm_B (ok : SnOk s) (hb : SnB s) {P : Nat} (hP : s.places = P) (hf : PermOk P f g) (ha : PermOk s.truths.length a b) : SnB (nmS s f g a b) := by
  have p1 := ok.p1; have p2 := ok.p2
  have gl := hf.g_lt; have bl := ha.g_lt
  refine ⟨by show (s.ways.map _).length ≤ 1000; rw [List.length_map]; exact hb.w, by rw [nm_kl]; exact hb.t, by rw [nm_tl]; exact hb.t, fun r hr => ?_, fun t ht => ?_, fun t ht r hr => ?_⟩
  · obtain ⟨j, hj, rfl⟩ := vecF_mem.1 (show r ∈ vecF _ _ from hr)
    show (vecF _ _).length ≤ 1000
    rw [vecF_len]; omega
  · obtain ⟨j, hj, rfl⟩ := vecF_mem.1 (show t ∈ vecF _ _ from ht)
    show (vecF _ _).length ≤ 1000
    rw [vecF_len]; omega
  · obtain ⟨j, hj, rfl⟩ := vecF_mem.1 (show t ∈ vecF _ _ from ht)
    obtain ⟨q, hq, rfl⟩ := vecF_mem.1 (show r ∈ vecF s.places.toNat _ from hr)
    have hr : (s.truths.getD (b j) default) ∈ s.truths := getD_mem (bl j hj)
    have := ok.tl _ hr
    have hgq := gl q (by omega)
    exact hb.sl _ hr ((s.truths.getD (b j) default).2.getD (g q) default) (getD_mem (by omega))
theorem look_far {t q : Nat} (ok : SnOk s) (h : s.places ≤ (q : Int)) : lookZ s t q = 0 := by
  unfold lookZ
  rw [List.getD_eq_getElem?_getD (l := (s.looks.getD t default).2), List.getElem?_eq_none]
  · rfl
  · by_cases ht : t < s.looks.length
    · have := ok.kl _ (getD_mem (d := default) ht); omega
    · rw [List.getD_eq_getElem?_getD, List.getElem?_eq_none (by omega)]; exact Nat.zero_le _
theorem dry_far {t q m : Nat} (ok : SnOk s) (ht : t < s.truths.length) (h : s.places ≤ (q : Int)) : dryT s t q m = false :=
  dryT_far (by have := ok.tl _ (getD_mem (d := default) ht); omega)
theorem nm_ways (ok : SnOk s) {P : Nat} (hP : s.places = P) (hf : PermOk P f g) (ha : PermOk s.truths.length a b) {p q : Nat} {m : Int} (hp : p < P) (hq : q < P) : (((f q : Nat) : Int), m) ∈ waysL (nmS s f g a b) (f p) ↔ ((q : Int), m) ∈ waysL s p := by
  have oku := nm_ok ok hP hf ha
  have h1 := real_ways oku (p := f p) (by have := hf.f_lt p hp; show ((f p : Nat) : Int) < s.places; omega) (((f q : Nat) : Int), m)
  have h2 := real_ways ok (p := p) (by omega) ((q : Int), m)
  rw [← List.contains_iff_mem, ← List.contains_iff_mem, h1, h2]
  have e : realB (nmS s f g a b) (f p) (((f q : Nat) : Int), m) = realB s p ((q : Int), m) := by
    unfold realB
    dsimp only
    by_cases e : q = p
    · subst e; rw [if_pos rfl, if_pos rfl]
    · rw [if_neg (fun h => e (hf.inj hq hp (by omega))), if_neg (by omega)]
      show (s.ways.map (nmW f)).any _ = _
      rw [List.any_map, Bool.eq_iff_iff, List.any_eq_true, List.any_eq_true]
      constructor
      · rintro ⟨w, hw, h⟩
        refine ⟨w, hw, ?_⟩
        have h' : (leadB (nmW f w) (f p : Int) (f q : Int) && w.2.2 == m) = true := h
        rw [nm_lead hf hP (ok.wp w hw) hp hq] at h'; exact h'
      · rintro ⟨w, hw, h⟩
        refine ⟨w, hw, ?_⟩
        show (leadB (nmW f w) (f p : Int) (f q : Int) && w.2.2 == m) = true
        rw [nm_lead hf hP (ok.wp w hw) hp hq]; exact h
  rw [e]
theorem nm_emb (ok : SnOk s) {P : Nat} (hP : s.places = P) (hf : PermOk P f g) (ha : PermOk s.truths.length a b) : Emb s (nmS s f g a b) (fun p => if p < P then f p else p) a fun i => i < s.truths.length := by
  have h1 := ok.h1; have b1 := ok.b1
  refine ⟨rfl, fun p hp => ?_, fun p hp => ?_, fun p hp => ?_, fun p t hp ht => ?_, fun i hi => ⟨hi, by rw [nm_tl]; exact ha.f_lt i hi⟩, fun i p m hi h => ?_, fun i j p hi hj h => ?_⟩
  · (try dsimp only)
    rw [if_pos (by omega)]
    have := hf.f_lt p (by omega)
    show ((f p : Nat) : Int) < s.places
    omega
  · (try dsimp only)
    rw [if_pos (by omega)]
    show ((f p : Nat) : Int) = ((f s.home.toNat : Nat) : Int)
    rw [show s.home.toNat = p by omega]
  · (try dsimp only)
    rw [if_pos (by omega)]
    show ((f p : Nat) : Int) = ((f s.bed.toNat : Nat) : Int)
    rw [show s.bed.toNat = p by omega]
  · have hw := waysL_pos ok ht
    (try dsimp only)
    rw [if_pos (by omega), if_pos (by omega)]
    refine (nm_ways ok hP hf ha (p := p) (q := t.1.toNat) (by omega) (by omega)).2 ?_
    rw [Int.toNat_of_nonneg hw.2.2.1]; exact ht
  · by_cases hp : p < P
    · (try dsimp only)
      rw [if_pos hp, nm_dry (ha.f_lt i hi) (by have := hf.f_lt p hp; omega), ha.gf i hi, hf.gf p hp]; exact h
    · rw [dry_far ok hi (by omega)] at h; cases h
  · by_cases hp : p < P
    · (try dsimp only at h)
      rw [if_pos hp, nm_look (ha.f_lt i hi) (by have := hf.f_lt p hp; omega), nm_look (ha.f_lt j hj) (by have := hf.f_lt p hp; omega), ha.gf i hi, ha.gf j hj, hf.gf p hp] at h; exact h
    · rw [look_far ok (by omega), look_far ok (by omega)]
theorem nm_emb' (ok : SnOk s) {P : Nat} (hP : s.places = P) (hf : PermOk P f g) (ha : PermOk s.truths.length a b) : Emb (nmS s f g a b) s (fun p => if p < P then g p else p) b fun i => i < (nmS s f g a b).truths.length := by
  have h1 := ok.h1; have b1 := ok.b1
  have oku := nm_ok ok hP hf ha
  have hpl : (nmS s f g a b).places = P := hP
  refine ⟨rfl, fun p hp => ?_, fun p hp => ?_, fun p hp => ?_, fun p t hp ht => ?_, fun i hi => ⟨hi, by rw [nm_tl] at hi; exact ha.g_lt i hi⟩, fun i p m hi h => ?_, fun i j p hi hj h => ?_⟩
  · (try dsimp only)
    rw [if_pos (by omega)]
    have := hf.g_lt p (by omega)
    omega
  · have e : ((p : Nat) : Int) = ((f s.home.toNat : Nat) : Int) := hp
    have e2 : p = f s.home.toNat := by omega
    have := hf.f_lt s.home.toNat (by omega)
    (try dsimp only)
    rw [if_pos (by omega), e2, hf.gf _ (by omega)]; omega
  · have e : ((p : Nat) : Int) = ((f s.bed.toNat : Nat) : Int) := hp
    have e2 : p = f s.bed.toNat := by omega
    have := hf.f_lt s.bed.toNat (by omega)
    (try dsimp only)
    rw [if_pos (by omega), e2, hf.gf _ (by omega)]; omega
  · have hw := waysL_pos oku ht
    have hp' : p < P := by omega
    have ht' : t.1.toNat < P := by omega
    (try dsimp only)
    rw [if_pos hp', if_pos ht']
    refine (nm_ways ok hP hf ha (p := g p) (q := g t.1.toNat) (m := t.2) (hf.g_lt p hp') (hf.g_lt _ ht')).1 ?_
    rw [hf.fg p hp', hf.fg _ ht', Int.toNat_of_nonneg hw.2.2.1]; exact ht
  · rw [nm_tl] at hi
    by_cases hp : p < P
    · (try dsimp only)
      rw [if_pos hp]
      rw [nm_dry hi (by omega)] at h; exact h
    · rw [dry_far oku (by rw [nm_tl]; exact hi) (by omega)] at h; cases h
  · rw [nm_tl] at hi hj
    by_cases hp : p < P
    · (try dsimp only at h)
      rw [if_pos hp] at h
      rw [nm_look hi (by omega), nm_look hj (by omega)]; exact h
    · rw [look_far oku (by omega), look_far oku (by omega)]
theorem nm_start (ok : SnOk s) {P : Nat} (hP : s.places = P) (hf : PermOk P f g) (ha : PermOk s.truths.length a b) {m : Nat} (hm : (m : Int) ≤ s.last) : startZ (nmS s f g a b) m = startZ s m := by
  have oku := nm_ok ok hP hf ha
  refine Int.le_antisymm ?_ ?_
  · exact (nm_emb' ok hP hf ha).start oku ok (fun j hj => ⟨a j, by rw [nm_tl]; exact ha.f_lt j hj, ha.gf j hj⟩) hm
  · exact (nm_emb ok hP hf ha).start ok oku (fun j hj => by rw [nm_tl] at hj; exact ⟨b j, ha.g_lt j hj, ha.fg j hj⟩) hm
theorem nm_worth (ok : SnOk s) {P : Nat} (hP : s.places = P) (hf : PermOk P f g) (ha : PermOk s.truths.length a b) {p m l : Nat} (hp : p < P) (hm : (m : Int) ≤ s.last) (h0 : l ≠ 0) (hl : l ≤ allN s) :
    othK a l s.truths.length ≠ 0 ∧ othK a l s.truths.length ≤ allN s ∧ worthZ (nmS s f g a b) ⟨f p, m, othK a l s.truths.length⟩ = worthZ s ⟨p, m, l⟩ := by
  have oku := nm_ok ok hP hf ha
  have hlb := fun j (h : l.testBit j = true) => all_sub hl j h
  obtain ⟨j0, hj0⟩ := Wider.start.bit_some h0
  have hne : othK a l s.truths.length ≠ 0 := fun e => by
    have : (othK a l s.truths.length).testBit (a j0) = true := othK_bit.2 ⟨j0, hlb j0 hj0, hj0, rfl⟩
    rw [e, Nat.zero_testBit] at this; cases this
  refine ⟨hne, sub_all fun j hj => ?_, Int.le_antisymm ?_ ?_⟩
  · obtain ⟨i, hi, -, rfl⟩ := othK_bit.1 hj
    exact ha.f_lt i hi
  · have h := worth_mono oku ok (nm_emb' ok hP hf ha) _ (f p) m (othK a l s.truths.length) l (Nat.le_refl _) hm (by have := hf.f_lt p hp; show ((f p : Nat) : Int) < s.places; omega) h0 (fun i hi => by
      rw [nm_tl]
      obtain ⟨k, hk, -, rfl⟩ := othK_bit.1 hi
      exact ha.f_lt k hk) fun j hj => ⟨a j, othK_bit.2 ⟨j, hlb j hj, hj, rfl⟩, ha.gf j (hlb j hj)⟩
    (try dsimp only at h)
    rw [if_pos (hf.f_lt p hp), hf.gf p hp] at h; exact h
  · have h := worth_mono ok oku (nm_emb ok hP hf ha) _ p m l (othK a l s.truths.length) (Nat.le_refl _) hm (by omega) hne hlb fun j hj => by
      obtain ⟨i, hi, h1, h2⟩ := othK_bit.1 hj
      exact ⟨i, h1, h2⟩
    (try dsimp only at h)
    rw [if_pos hp] at h; exact h
end
end GA
end

section
namespace GA
open Go Go.RowKit Go.Proofs
set_option pp.deepTerms true
set_option maxRecDepth 8000
set_option linter.unusedVariables false
set_option linter.unusedSimpArgs false

theorem fstart_c (s : Sn) (ok : SnOk s) (m : Nat) (hm : (m : Int) ≤ s.last) : Comp Try.prog 57 [dskFA s, wsA s, natA m] (.int .i64 (startZ s m)) := by
  have h1 := ok.h1; have hal := allN_lt ok; have l2 := ok.l2
  have hac := fall_c s ok
  obtain ⟨h0, hh0⟩ : ∃ h0 : Nat, s.home = h0 := ⟨s.home.toNat, by omega⟩
  have hpa := fparts_c s ok h0 (allN s) (by omega) (by omega)
  have hle := fun l (h : l ∈ partsL s h0 (allN s)) => partsL_all ok h
  have hlen := partsL_len s h0 (allN s)
  have hsd : startZ s m = (partsL s h0 (allN s)).foldl (fun n l => min n (worthZ s ⟨h0, m, l⟩)) 60 := by unfold startZ; rw [hh0]; rfl
  rw [hsd]
  generalize partsL s h0 (allN s) = L at hpa hle hlen
  have hpa' : Comp Try.prog 100 [dskFA s, .int .i64 s.home, natA (allN s)] (nsA L) := by rw [hh0]; exact hpa
  have e1 : ((L.map natA).length : Int) = L.length := by rw [List.length_map]
  refine Comp.body (T := tab) (res := [.tmp 6]) tab_ok [] Try.func57 rfl (by kernel_rfl) Try.ntmps57 rfl (by simp only [List.length_cons, List.length_nil]; decide) (by simp only [lowL, AV.low, dskFL, worsL, natA]; rfl) ?_; conv => whnf
  repeat' first | ((with_reducible first | apply XBr.tt | apply XBr.ff | apply Chk.go | apply ChkA.go | apply ChkF.go | apply ChkB.go | apply XArr.pim0 | apply XArr.pim1); conv => whnf) | (with_reducible apply XBr.not) | ((with_reducible apply XBr.dec) <;> (intro h; first | (exfalso; omega) | ((try simp only [List.length_map] at h); first | (exfalso; omega) | (conv => whnf)))) | ((with_reducible first | apply XBr.beq | apply XBr.bne) <;> (intro h; first | (exfalso; omega) | (conv => whnf))) | ((with_reducible refine XInt.i64 (by omega) (by omega) ?_); conv => whnf) | ((with_reducible refine XHold.mk ?_ ?_); (first | omega | rfl | decide | exact ⟨rfl, by decide, rfl⟩ | exact wideI _ | exact widePr _ | exact wideSk _ | (unfold Room; constructor <;> ((try simp) <;> omega)) | exact ⟨rfl, by simp only [List.length_map], by unfold Room; constructor <;> ((try simp) <;> omega)⟩ | exact ⟨by omega, by omega, by unfold Room; constructor <;> ((try simp) <;> omega)⟩); conv => whnf) | ((first | ((with_reducible refine XIx.nat ?_ ?_ ?_); omega; (intro _; rfl)) | ((with_reducible refine XIx.map ?_ ?_ ?_ ?_); omega; omega; (intro _; rfl))); conv => whnf) | (with_reducible apply XAnd.mk) | (exact XSame.mk rfl rfl) | (exact XSame.mk (by first | rfl | (simp only [List.map_append, List.length_append, List.length_map]; done) | (simp only [List.map_append, List.length_append, List.length_map]; rfl)) (by first | rfl | (simp only [List.map_append]; done) | (simp only [List.map_append]; rfl))) | (with_reducible exact trivial) | ((first | (with_reducible refine xdrop_app (by rw [List.length_map]; omega) ?_) | (with_reducible refine XDrop.desk (by assumption) ?_) | (with_reducible first | refine XArr.ints (by omega) (by omega) (by omega) ?_ | refine XArr.intsA (by omega) (by omega) (by omega) ?_) | ((with_reducible first | refine XArr.nats ?_ ?_ ?_ | refine XArr.natsA ?_ ?_ ?_ | refine XArr.ptr ?_ ?_ ?_); omega; omega)); conv => whnf) | (apply Walk.drawN (id := 2) tab_ok mixed_ok [] [] (hsU _) [_, _, _, _, _, _, _, _, _, _, _] (by kernel_rfl) rfl) | ((first | (with_reducible apply XNext.mk) | (refine XCall.ret hac ?_) | (refine XCall.ret hpa' ?_)); conv => whnf) | ((with_reducible apply XBr.mk') <;> (intro h; conv => whnf))
  refine Walk.loopK tab_ok [] [(0, _), (1, _), (2, _), (18, _), (19, _)] ⟨rfl, rfl, rfl, rfl, rfl, trivial⟩ (fun k : Nat => k ≤ L.length) (fun k => [(7, .int .i64 ((L.take k).foldl (fun n l => min n (worthZ s ⟨h0, m, l⟩)) 60)), (20, natA k)]) (fun _ => []) (fun k => L.length - k) 0 (Nat.zero_le _) rfl ⟨rfl, rfl, trivial⟩ ?_
  intro k hk
  have hnx : k < L.length → (L.take (k + 1)).foldl (fun n l => min n (worthZ s ⟨h0, m, l⟩)) 60 = min ((L.take k).foldl (fun n l => min n (worthZ s ⟨h0, m, l⟩)) 60) (worthZ s ⟨h0, m, L.getD k default⟩) := fun h => by rw [take_next h, List.foldl_append]; rfl
  have hend : k = L.length → (L.take k).foldl (fun n l => min n (worthZ s ⟨h0, m, l⟩)) 60 = L.foldl (fun n l => min n (worthZ s ⟨h0, m, l⟩)) 60 := fun h => by rw [h, List.take_length]
  generalize (L.take k).foldl (fun n l => min n (worthZ s ⟨h0, m, l⟩)) 60 = v at hnx hend
  conv => whnf
  by_cases hlt : k < L.length
  · have hnx := hnx hlt
    have hof := wof_c s ok ⟨h0, m, L.getD k default⟩ ⟨by show (h0 : Int) < s.places; omega, hm, hle _ (getD_mem hlt)⟩
    have hst : staA ⟨h0, m, L.getD k default⟩ = .agg [.int .i64 s.home, natA m, natA (L.getD k default)] := by rw [hh0]; rfl
    rw [hst] at hof
    generalize worthZ s ⟨h0, m, L.getD k default⟩ = w at hof hnx
    have hls := fleast_c v false [w] (by simp)
    repeat' first | ((with_reducible first | apply XBr.tt | apply XBr.ff | apply Chk.go | apply ChkA.go | apply ChkF.go | apply ChkB.go | apply XArr.pim0 | apply XArr.pim1); conv => whnf) | (with_reducible apply XBr.not) | ((with_reducible apply XBr.dec) <;> (intro h; first | (exfalso; omega) | ((try simp only [List.length_map] at h); first | (exfalso; omega) | (conv => whnf)))) | ((with_reducible first | apply XBr.beq | apply XBr.bne) <;> (intro h; first | (exfalso; omega) | (conv => whnf))) | ((with_reducible refine XInt.i64 (by omega) (by omega) ?_); conv => whnf) | ((with_reducible refine XHold.mk ?_ ?_); (first | omega | rfl | decide | exact ⟨rfl, by decide, rfl⟩ | exact wideI _ | exact widePr _ | exact wideSk _ | (unfold Room; constructor <;> ((try simp) <;> omega)) | exact ⟨rfl, by simp only [List.length_map], by unfold Room; constructor <;> ((try simp) <;> omega)⟩ | exact ⟨by omega, by omega, by unfold Room; constructor <;> ((try simp) <;> omega)⟩); conv => whnf) | ((first | ((with_reducible refine XIx.nat ?_ ?_ ?_); omega; (intro _; rfl)) | ((with_reducible refine XIx.map ?_ ?_ ?_ ?_); omega; omega; (intro _; rfl))); conv => whnf) | (with_reducible apply XAnd.mk) | (exact XSame.mk rfl rfl) | (exact XSame.mk (by first | rfl | (simp only [List.map_append, List.length_append, List.length_map]; done) | (simp only [List.map_append, List.length_append, List.length_map]; rfl)) (by first | rfl | (simp only [List.map_append]; done) | (simp only [List.map_append]; rfl))) | (with_reducible exact trivial) | ((first | (with_reducible refine xdrop_app (by rw [List.length_map]; omega) ?_) | (with_reducible refine XDrop.desk (by assumption) ?_) | (with_reducible first | refine XArr.ints (by omega) (by omega) (by omega) ?_ | refine XArr.intsA (by omega) (by omega) (by omega) ?_) | ((with_reducible first | refine XArr.nats ?_ ?_ ?_ | refine XArr.natsA ?_ ?_ ?_ | refine XArr.ptr ?_ ?_ ?_); omega; omega)); conv => whnf) | (apply Walk.drawN (id := 2) tab_ok mixed_ok [] [] (hsU _) [_, _, _, _, _, _, _, _, _, _, _] (by kernel_rfl) rfl) | ((first | (with_reducible apply XNext.mk) | (refine XCall.ret hof ?_) | (refine XCall.ret hls ?_)); conv => whnf) | ((with_reducible apply XBr.mk') <;> (intro h; conv => whnf))
    exact XAgain.go (k + 1) (by omega) (by omega) rfl ⟨rfl, rfl, rfl, rfl, rfl, (by rw [hnx]; rfl), rfl, trivial⟩
  obtain rfl : k = L.length := by omega
  repeat' first | ((with_reducible first | apply XBr.tt | apply XBr.ff | apply Chk.go | apply ChkA.go | apply ChkF.go | apply ChkB.go | apply XArr.pim0 | apply XArr.pim1); conv => whnf) | (with_reducible apply XBr.not) | ((with_reducible apply XBr.dec) <;> (intro h; first | (exfalso; omega) | ((try simp only [List.length_map] at h); first | (exfalso; omega) | (conv => whnf)))) | ((with_reducible first | apply XBr.beq | apply XBr.bne) <;> (intro h; first | (exfalso; omega) | (conv => whnf))) | ((with_reducible refine XInt.i64 (by omega) (by omega) ?_); conv => whnf) | ((with_reducible refine XHold.mk ?_ ?_); (first | omega | rfl | decide | exact ⟨rfl, by decide, rfl⟩ | exact wideI _ | exact widePr _ | exact wideSk _ | (unfold Room; constructor <;> ((try simp) <;> omega)) | exact ⟨rfl, by simp only [List.length_map], by unfold Room; constructor <;> ((try simp) <;> omega)⟩ | exact ⟨by omega, by omega, by unfold Room; constructor <;> ((try simp) <;> omega)⟩); conv => whnf) | ((first | ((with_reducible refine XIx.nat ?_ ?_ ?_); omega; (intro _; rfl)) | ((with_reducible refine XIx.map ?_ ?_ ?_ ?_); omega; omega; (intro _; rfl))); conv => whnf) | (with_reducible apply XAnd.mk) | (exact XSame.mk rfl rfl) | (exact XSame.mk (by first | rfl | (simp only [List.map_append, List.length_append, List.length_map]; done) | (simp only [List.map_append, List.length_append, List.length_map]; rfl)) (by first | rfl | (simp only [List.map_append]; done) | (simp only [List.map_append]; rfl))) | (with_reducible exact trivial) | ((first | (with_reducible refine xdrop_app (by rw [List.length_map]; omega) ?_) | (with_reducible refine XDrop.desk (by assumption) ?_) | (with_reducible first | refine XArr.ints (by omega) (by omega) (by omega) ?_ | refine XArr.intsA (by omega) (by omega) (by omega) ?_) | ((with_reducible first | refine XArr.nats ?_ ?_ ?_ | refine XArr.natsA ?_ ?_ ?_ | refine XArr.ptr ?_ ?_ ?_); omega; omega)); conv => whnf) | (apply Walk.drawN (id := 2) tab_ok mixed_ok [] [] (hsU _) [_, _, _, _, _, _, _, _, _, _, _] (by kernel_rfl) rfl) | ((with_reducible apply XNext.mk); conv => whnf) | ((with_reducible apply XBr.mk') <;> (intro h; conv => whnf))
  exact XOut.int (hend rfl)
def begE (s : Sn) (m : Int) : Int := if snE s ≠ 0 then snE s else if inZ m 0 s.last = false then 3 else 0
theorem begE_iff {s : Sn} {m : Int} : begE s m = 0 ↔ SnOk s ∧ 0 ≤ m ∧ m ≤ s.last := by
  unfold begE
  by_cases h : snE s = 0
  · rw [if_neg (by simp [h]), snE_iff.symm]
    by_cases h2 : inZ m 0 s.last = false
    · rw [if_pos h2]
      simp only [inZ, Bool.and_eq_false_iff, decide_eq_false_iff_not] at h2
      constructor
      · intro h3; cases h3
      · rintro ⟨-, h3, h4⟩; omega
    · rw [if_neg h2]
      have h3 : inZ m 0 s.last = true := by simpa using h2
      rw [inZ_iff] at h3
      exact ⟨fun _ => ⟨h, h3⟩, fun _ => rfl⟩
  · rw [if_pos h, snE_iff.symm]
    exact ⟨fun h' => absurd h' h, fun h' => absurd h'.1 h⟩
theorem begun_ok (s : Sn) (hb : SnB s) (m : Int) (h : begE s m = 0) : Comp Try.prog 56 [snA s, .int .i64 m] (.tup [dskFA s, .int .i64 0]) := by
  obtain ⟨ok, h1⟩ := begE_iff.1 h
  have ho := fdOpened_c s hb ok
  have hmn := fminute_c s m
  rw [inZ_iff.2 h1] at hmn
  refine Comp.body (T := tab) (res := [.tmp 4, .tmp 5]) tab_ok [] Try.func56 rfl (by kernel_rfl) Try.ntmps56 rfl (by simp only [List.length_cons, List.length_nil]; decide) (by simp only [lowL, AV.low, snL]; rfl) ?_; conv => whnf
  repeat' first | ((with_reducible first | apply XBr.tt | apply XBr.ff | apply Chk.go | apply ChkA.go | apply ChkF.go | apply ChkB.go | apply XArr.pim0 | apply XArr.pim1); conv => whnf) | (with_reducible apply XBr.not) | ((with_reducible apply XBr.dec) <;> (intro h; first | (exfalso; omega) | ((try simp only [List.length_map] at h); first | (exfalso; omega) | (conv => whnf)))) | ((with_reducible first | apply XBr.beq | apply XBr.bne) <;> (intro h; first | (exfalso; omega) | (conv => whnf))) | ((with_reducible refine XInt.i64 (by omega) (by omega) ?_); conv => whnf) | ((with_reducible refine XHold.mk ?_ ?_); (first | omega | rfl | decide | exact ⟨rfl, by decide, rfl⟩ | exact wideI _ | exact widePr _ | exact wideSk _ | (unfold Room; constructor <;> ((try simp) <;> omega)) | exact ⟨rfl, by simp only [List.length_map], by unfold Room; constructor <;> ((try simp) <;> omega)⟩ | exact ⟨by omega, by omega, by unfold Room; constructor <;> ((try simp) <;> omega)⟩); conv => whnf) | ((first | ((with_reducible refine XIx.nat ?_ ?_ ?_); omega; (intro _; rfl)) | ((with_reducible refine XIx.map ?_ ?_ ?_ ?_); omega; omega; (intro _; rfl))); conv => whnf) | (with_reducible apply XAnd.mk) | (exact XSame.mk rfl rfl) | (exact XSame.mk (by first | rfl | (simp only [List.map_append, List.length_append, List.length_map]; done) | (simp only [List.map_append, List.length_append, List.length_map]; rfl)) (by first | rfl | (simp only [List.map_append]; done) | (simp only [List.map_append]; rfl))) | (with_reducible exact trivial) | ((first | (with_reducible refine xdrop_app (by rw [List.length_map]; omega) ?_) | (with_reducible refine XDrop.desk (by assumption) ?_) | (with_reducible first | refine XArr.ints (by omega) (by omega) (by omega) ?_ | refine XArr.intsA (by omega) (by omega) (by omega) ?_) | ((with_reducible first | refine XArr.nats ?_ ?_ ?_ | refine XArr.natsA ?_ ?_ ?_ | refine XArr.ptr ?_ ?_ ?_); omega; omega) | (with_reducible apply XNext.mk) | (refine XCall.ret ho ?_) | (refine XCall.ret hmn ?_)); conv => whnf) | ((with_reducible apply XBr.mk') <;> (intro h; conv => whnf))
  exact ⟨.low (by show ((dskFA s).low 0 && true) = true; rw [dskFL]; rfl)⟩
theorem fStart_ok (s : Sn) (hb : SnB s) (ok : SnOk s) (m : Nat) (hm : (m : Int) ≤ s.last) : Comp Try.prog 21 [snA s, natA m] (.tup [.int .i64 (startZ s m), .int .i64 0]) := by
  have hc := begun_ok s hb m (begE_iff.2 ⟨ok, by omega, hm⟩)
  have hw := worths_c s ok
  have hs := fstart_c s ok m hm
  refine Comp.body (T := tab) (res := [.tmp 4, .tmp 5]) tab_ok [] Try.func21 rfl (by kernel_rfl) Try.ntmps21 rfl (by simp only [List.length_cons, List.length_nil]; decide) (by simp only [lowL, AV.low, snL]; rfl) ?_; conv => whnf
  repeat' first | ((with_reducible first | apply XBr.tt | apply XBr.ff | apply Chk.go | apply ChkA.go | apply ChkF.go | apply ChkB.go | apply XArr.pim0 | apply XArr.pim1); conv => whnf) | (with_reducible apply XBr.not) | ((with_reducible apply XBr.dec) <;> (intro h; first | (exfalso; omega) | ((try simp only [List.length_map] at h); first | (exfalso; omega) | (conv => whnf)))) | ((with_reducible first | apply XBr.beq | apply XBr.bne) <;> (intro h; first | (exfalso; omega) | (conv => whnf))) | ((with_reducible refine XInt.i64 (by omega) (by omega) ?_); conv => whnf) | ((with_reducible refine XHold.mk ?_ ?_); (first | omega | rfl | decide | exact ⟨rfl, by decide, rfl⟩ | exact wideI _ | exact widePr _ | exact wideSk _ | (unfold Room; constructor <;> ((try simp) <;> omega)) | exact ⟨rfl, by simp only [List.length_map], by unfold Room; constructor <;> ((try simp) <;> omega)⟩ | exact ⟨by omega, by omega, by unfold Room; constructor <;> ((try simp) <;> omega)⟩); conv => whnf) | ((first | ((with_reducible refine XIx.nat ?_ ?_ ?_); omega; (intro _; rfl)) | ((with_reducible refine XIx.map ?_ ?_ ?_ ?_); omega; omega; (intro _; rfl))); conv => whnf) | (with_reducible apply XAnd.mk) | (exact XSame.mk rfl rfl) | (exact XSame.mk (by first | rfl | (simp only [List.map_append, List.length_append, List.length_map]; done) | (simp only [List.map_append, List.length_append, List.length_map]; rfl)) (by first | rfl | (simp only [List.map_append]; done) | (simp only [List.map_append]; rfl))) | (with_reducible exact trivial) | ((first | (with_reducible refine xdrop_app (by rw [List.length_map]; omega) ?_) | (with_reducible refine XDrop.desk (by assumption) ?_) | (with_reducible first | refine XArr.ints (by omega) (by omega) (by omega) ?_ | refine XArr.intsA (by omega) (by omega) (by omega) ?_) | ((with_reducible first | refine XArr.nats ?_ ?_ ?_ | refine XArr.natsA ?_ ?_ ?_ | refine XArr.ptr ?_ ?_ ?_); omega; omega) | (with_reducible apply XNext.mk) | (refine XCall.ret hc ?_) | (refine XCall.ret hw ?_) | (refine XCall.ret hs ?_)); conv => whnf) | ((with_reducible apply XBr.mk') <;> (intro h; conv => whnf))
  exact ⟨.low rfl⟩
end GA
end

section
namespace GA
open Go Go.RowKit Go.Proofs
set_option pp.deepTerms true
set_option maxRecDepth 8000
set_option linter.unusedVariables false
set_option linter.unusedSimpArgs false

theorem equal_sg (n1 n2 : Bool) (xs : List (Int × Int)) (hx : xs.length ≤ 100000) : Comp Try.prog 88 [.sl n1 (xs.map (sgA)), .sl n2 (xs.map (sgA))] (.bool true) := by
  refine Comp.body (T := tab) (res := [.tmp 4]) tab_ok [] Try.func88 rfl (by kernel_rfl) Try.ntmps88 rfl (by simp only [List.length_cons, List.length_nil]; decide) (by simp only [lowL, AV.low, lowSg]; rfl) ?_; conv => whnf
  repeat' first | ((with_reducible first | apply XBr.tt | apply XBr.ff | apply Chk.go | apply ChkA.go | apply ChkF.go | apply ChkB.go | apply XArr.pim0 | apply XArr.pim1); conv => whnf) | (with_reducible apply XBr.not) | ((with_reducible apply XBr.dec) <;> (intro h; first | (exfalso; omega) | ((try simp only [List.length_map] at h); first | (exfalso; omega) | (conv => whnf)))) | ((with_reducible first | apply XBr.beq | apply XBr.bne) <;> (intro h; first | (exfalso; omega) | (conv => whnf))) | ((with_reducible refine XInt.i64 (by omega) (by omega) ?_); conv => whnf) | ((with_reducible refine XHold.mk ?_ ?_); (first | omega | rfl | decide | exact ⟨rfl, by decide, rfl⟩ | exact wideI _ | exact widePr _ | exact wideSk _ | (unfold Room; constructor <;> ((try simp) <;> omega)) | exact ⟨rfl, by simp only [List.length_map], by unfold Room; constructor <;> ((try simp) <;> omega)⟩ | exact ⟨by omega, by omega, by unfold Room; constructor <;> ((try simp) <;> omega)⟩); conv => whnf) | ((first | ((with_reducible refine XIx.nat ?_ ?_ ?_); omega; (intro _; rfl)) | ((with_reducible refine XIx.map ?_ ?_ ?_ ?_); omega; omega; (intro _; rfl))); conv => whnf) | (with_reducible apply XAnd.mk) | (exact XSame.mk rfl rfl) | (exact XSame.mk (by first | rfl | (simp only [List.map_append, List.length_append, List.length_map]; done) | (simp only [List.map_append, List.length_append, List.length_map]; rfl)) (by first | rfl | (simp only [List.map_append]; done) | (simp only [List.map_append]; rfl))) | (with_reducible exact trivial) | ((first | (with_reducible refine xdrop_app (by rw [List.length_map]; omega) ?_) | (with_reducible refine XDrop.desk (by assumption) ?_) | (with_reducible first | refine XArr.ints (by omega) (by omega) (by omega) ?_ | refine XArr.intsA (by omega) (by omega) (by omega) ?_) | ((with_reducible first | refine XArr.nats ?_ ?_ ?_ | refine XArr.natsA ?_ ?_ ?_ | refine XArr.ptr ?_ ?_ ?_); omega; omega)); conv => whnf) | (apply Walk.drawN (id := 6) tab_ok mixed_ok [] [] (hsU _) [_, _, _, _, _, _, _, _, _] (by kernel_rfl) rfl) | ((with_reducible apply XNext.mk); conv => whnf) | ((with_reducible apply XBr.mk') <;> (intro h; conv => whnf))
  refine Walk.loopK tab_ok [] [(0, _), (1, _), (12, _)] ⟨rfl, rfl, rfl, trivial⟩ (fun i : Nat => i ≤ xs.length) (fun i => [(13, natA i)]) (fun _ => []) (fun i => xs.length - i) 0 (Nat.zero_le _) rfl ⟨rfl, trivial⟩ ?_
  intro i hi
  conv => whnf
  have e1 : ((xs.map (sgA)).length : Int) = xs.length := by rw [List.length_map]
  by_cases hlt : i < xs.length
  · skip
    repeat' first | ((with_reducible first | apply XBr.tt | apply XBr.ff | apply Chk.go | apply ChkA.go | apply ChkF.go | apply ChkB.go | apply XArr.pim0 | apply XArr.pim1); conv => whnf) | (with_reducible apply XBr.not) | ((with_reducible apply XBr.dec) <;> (intro h; first | (exfalso; omega) | ((try simp only [List.length_map] at h); first | (exfalso; omega) | (conv => whnf)))) | ((with_reducible first | apply XBr.beq | apply XBr.bne) <;> (intro h; first | (exfalso; omega) | (conv => whnf))) | ((with_reducible refine XInt.i64 (by omega) (by omega) ?_); conv => whnf) | ((with_reducible refine XHold.mk ?_ ?_); (first | omega | rfl | decide | exact ⟨rfl, by decide, rfl⟩ | exact wideI _ | exact widePr _ | exact wideSk _ | (unfold Room; constructor <;> ((try simp) <;> omega)) | exact ⟨rfl, by simp only [List.length_map], by unfold Room; constructor <;> ((try simp) <;> omega)⟩ | exact ⟨by omega, by omega, by unfold Room; constructor <;> ((try simp) <;> omega)⟩); conv => whnf) | ((first | ((with_reducible refine XIx.nat ?_ ?_ ?_); omega; (intro _; rfl)) | ((with_reducible refine XIx.map ?_ ?_ ?_ ?_); omega; omega; (intro _; rfl))); conv => whnf) | (with_reducible apply XAnd.mk) | (exact XSame.mk rfl rfl) | (exact XSame.mk (by first | rfl | (simp only [List.map_append, List.length_append, List.length_map]; done) | (simp only [List.map_append, List.length_append, List.length_map]; rfl)) (by first | rfl | (simp only [List.map_append]; done) | (simp only [List.map_append]; rfl))) | (with_reducible exact trivial) | ((first | (with_reducible refine xdrop_app (by rw [List.length_map]; omega) ?_) | (with_reducible refine XDrop.desk (by assumption) ?_) | (with_reducible first | refine XArr.ints (by omega) (by omega) (by omega) ?_ | refine XArr.intsA (by omega) (by omega) (by omega) ?_) | ((with_reducible first | refine XArr.nats ?_ ?_ ?_ | refine XArr.natsA ?_ ?_ ?_ | refine XArr.ptr ?_ ?_ ?_); omega; omega)); conv => whnf) | (apply Walk.drawN (id := 6) tab_ok mixed_ok [] [] (hsU _) [_, _, _, _, _, _, _, _, _] (by kernel_rfl) rfl) | ((with_reducible apply XNext.mk); conv => whnf) | ((refine XEqA.mk ⟨[(xs.getD i default).1, (xs.getD i default).2], [(xs.getD i default).1, (xs.getD i default).2], rfl, rfl, rfl, rfl, ?_⟩); exact XSame.mk (show AV.bool (!(_ == _)) = AV.bool false by simp) rfl) | ((with_reducible apply XBr.mk') <;> (intro h; conv => whnf))
    exact XAgain.go (i + 1) (by omega) (by omega) rfl ⟨rfl, rfl, rfl, rfl, trivial⟩
  obtain rfl : i = xs.length := by omega
  repeat' first | ((with_reducible first | apply XBr.tt | apply XBr.ff | apply Chk.go | apply ChkA.go | apply ChkF.go | apply ChkB.go | apply XArr.pim0 | apply XArr.pim1); conv => whnf) | (with_reducible apply XBr.not) | ((with_reducible apply XBr.dec) <;> (intro h; first | (exfalso; omega) | ((try simp only [List.length_map] at h); first | (exfalso; omega) | (conv => whnf)))) | ((with_reducible first | apply XBr.beq | apply XBr.bne) <;> (intro h; first | (exfalso; omega) | (conv => whnf))) | ((with_reducible refine XInt.i64 (by omega) (by omega) ?_); conv => whnf) | ((with_reducible refine XHold.mk ?_ ?_); (first | omega | rfl | decide | exact ⟨rfl, by decide, rfl⟩ | exact wideI _ | exact widePr _ | exact wideSk _ | (unfold Room; constructor <;> ((try simp) <;> omega)) | exact ⟨rfl, by simp only [List.length_map], by unfold Room; constructor <;> ((try simp) <;> omega)⟩ | exact ⟨by omega, by omega, by unfold Room; constructor <;> ((try simp) <;> omega)⟩); conv => whnf) | ((first | ((with_reducible refine XIx.nat ?_ ?_ ?_); omega; (intro _; rfl)) | ((with_reducible refine XIx.map ?_ ?_ ?_ ?_); omega; omega; (intro _; rfl))); conv => whnf) | (with_reducible apply XAnd.mk) | (exact XSame.mk rfl rfl) | (exact XSame.mk (by first | rfl | (simp only [List.map_append, List.length_append, List.length_map]; done) | (simp only [List.map_append, List.length_append, List.length_map]; rfl)) (by first | rfl | (simp only [List.map_append]; done) | (simp only [List.map_append]; rfl))) | (with_reducible exact trivial) | ((first | (with_reducible refine xdrop_app (by rw [List.length_map]; omega) ?_) | (with_reducible refine XDrop.desk (by assumption) ?_) | (with_reducible first | refine XArr.ints (by omega) (by omega) (by omega) ?_ | refine XArr.intsA (by omega) (by omega) (by omega) ?_) | ((with_reducible first | refine XArr.nats ?_ ?_ ?_ | refine XArr.natsA ?_ ?_ ?_ | refine XArr.ptr ?_ ?_ ?_); omega; omega)); conv => whnf) | (apply Walk.drawN (id := 6) tab_ok mixed_ok [] [] (hsU _) [_, _, _, _, _, _, _, _, _] (by kernel_rfl) rfl) | ((with_reducible apply XNext.mk); conv => whnf) | ((with_reducible apply XBr.mk') <;> (intro h; conv => whnf))
  exact XOut.bool rfl
theorem eq_sg (n1 n2 : Bool) (xs : List (Int × Int)) (hx : xs.length ≤ 100000) : Comp Try.prog 48 [.sl n1 (xs.map (sgA)), .sl n2 (xs.map (sgA))] (.bool true) := by
  refine Comp.body (T := tab) (res := [.tmp 4]) tab_ok [] Try.func48 rfl (by kernel_rfl) Try.ntmps48 rfl (by simp only [List.length_cons, List.length_nil]; decide) (by simp only [lowL, AV.low, lowSg]; rfl) ?_; conv => whnf
  repeat' first | ((with_reducible first | apply XBr.tt | apply XBr.ff | apply Chk.go | apply ChkA.go | apply ChkF.go | apply ChkB.go | apply XArr.pim0 | apply XArr.pim1); conv => whnf) | (with_reducible apply XBr.not) | ((with_reducible apply XBr.dec) <;> (intro h; first | (exfalso; omega) | ((try simp only [List.length_map] at h); first | (exfalso; omega) | (conv => whnf)))) | ((with_reducible first | apply XBr.beq | apply XBr.bne) <;> (intro h; first | (exfalso; omega) | (conv => whnf))) | ((with_reducible refine XInt.i64 (by omega) (by omega) ?_); conv => whnf) | ((with_reducible refine XHold.mk ?_ ?_); (first | omega | rfl | decide | exact ⟨rfl, by decide, rfl⟩ | exact wideI _ | exact widePr _ | exact wideSk _ | (unfold Room; constructor <;> ((try simp) <;> omega)) | exact ⟨rfl, by simp only [List.length_map], by unfold Room; constructor <;> ((try simp) <;> omega)⟩ | exact ⟨by omega, by omega, by unfold Room; constructor <;> ((try simp) <;> omega)⟩); conv => whnf) | ((first | ((with_reducible refine XIx.nat ?_ ?_ ?_); omega; (intro _; rfl)) | ((with_reducible refine XIx.map ?_ ?_ ?_ ?_); omega; omega; (intro _; rfl))); conv => whnf) | (with_reducible apply XAnd.mk) | (exact XSame.mk rfl rfl) | (exact XSame.mk (by first | rfl | (simp only [List.map_append, List.length_append, List.length_map]; done) | (simp only [List.map_append, List.length_append, List.length_map]; rfl)) (by first | rfl | (simp only [List.map_append]; done) | (simp only [List.map_append]; rfl))) | (with_reducible exact trivial) | ((first | (with_reducible refine xdrop_app (by rw [List.length_map]; omega) ?_) | (with_reducible refine XDrop.desk (by assumption) ?_) | (with_reducible first | refine XArr.ints (by omega) (by omega) (by omega) ?_ | refine XArr.intsA (by omega) (by omega) (by omega) ?_) | ((with_reducible first | refine XArr.nats ?_ ?_ ?_ | refine XArr.natsA ?_ ?_ ?_ | refine XArr.ptr ?_ ?_ ?_); omega; omega) | (with_reducible apply XNext.mk) | (refine XCall.ret (equal_sg n1 n2 xs hx) ?_)); conv => whnf) | ((with_reducible apply XBr.mk') <;> (intro h; conv => whnf))
  exact XOut.bool rfl
def threeS : Sn := ⟨3, 0, 2, 12, false, [(0, 1, 2), (1, 2, 2)], false, [(false, [0, 0, 0]), (false, [0, 0, 0])], false, [(false, [(false, [(0, 12)]), (false, [(0, 9)]), (false, [(0, 7)])]), (false, [(false, [(0, 12)]), (false, [(0, 6)]), (false, [(0, 5)])])]⟩
theorem three1_c (nl : Bool) (hi : List Int) (hh : hi.length ≤ 100) : Comp Try.prog 83 [.sl nl (ints hi)] (trA (hi.isEmpty, hi.map fun n => (false, [((0 : Int), n)]))) := by
  have e1 : ((ints hi).length : Int) = hi.length := by rw [ints_len]
  refine Comp.body (T := tab) (res := [.cell 2 37]) tab_ok [] Try.func83 rfl (by kernel_rfl) Try.ntmps83 rfl (by simp only [List.length_cons, List.length_nil]; decide) (by simp only [lowL, AV.low, lowI]; rfl) ?_; conv => whnf
  repeat' first | ((with_reducible first | apply XBr.tt | apply XBr.ff | apply Chk.go | apply ChkA.go | apply ChkF.go | apply ChkB.go | apply XArr.pim0 | apply XArr.pim1); conv => whnf) | (with_reducible apply XBr.not) | ((with_reducible apply XBr.dec) <;> (intro h; first | (exfalso; omega) | ((try simp only [List.length_map] at h); first | (exfalso; omega) | (conv => whnf)))) | ((with_reducible first | apply XBr.beq | apply XBr.bne) <;> (intro h; first | (exfalso; omega) | (conv => whnf))) | ((with_reducible refine XInt.i64 (by omega) (by omega) ?_); conv => whnf) | ((with_reducible refine XHold.mk ?_ ?_); (first | omega | rfl | decide | exact ⟨rfl, by decide, rfl⟩ | exact wideI _ | exact widePr _ | exact wideSk _ | (unfold Room; constructor <;> ((try simp) <;> omega)) | exact ⟨rfl, by simp only [List.length_map], by unfold Room; constructor <;> ((try simp) <;> omega)⟩ | exact ⟨by omega, by omega, by unfold Room; constructor <;> ((try simp) <;> omega)⟩); conv => whnf) | ((first | ((with_reducible refine XIx.nat ?_ ?_ ?_); omega; (intro _; rfl)) | ((with_reducible refine XIx.map ?_ ?_ ?_ ?_); omega; omega; (intro _; rfl))); conv => whnf) | (with_reducible apply XAnd.mk) | (exact XSame.mk rfl rfl) | (exact XSame.mk (by first | rfl | (simp only [List.map_append, List.length_append, List.length_map]; done) | (simp only [List.map_append, List.length_append, List.length_map]; rfl)) (by first | rfl | (simp only [List.map_append]; done) | (simp only [List.map_append]; rfl))) | (with_reducible exact trivial) | ((first | (with_reducible refine xdrop_app (by rw [List.length_map]; omega) ?_) | (with_reducible refine XDrop.desk (by assumption) ?_) | (with_reducible first | refine XArr.ints (by omega) (by omega) (by omega) ?_ | refine XArr.intsA (by omega) (by omega) (by omega) ?_) | ((with_reducible first | refine XArr.nats ?_ ?_ ?_ | refine XArr.natsA ?_ ?_ ?_ | refine XArr.ptr ?_ ?_ ?_); omega; omega) | (with_reducible apply XNext.mk)); conv => whnf) | ((with_reducible apply XBr.mk') <;> (intro h; conv => whnf))
  refine Walk.nilcell 1 0 34 rfl rfl ?_
  refine Walk.loopGK tab_ok [] [(2, _), (3, _), (6, _), (7, _)] ⟨rfl, rfl, rfl, rfl, trivial⟩ (fun k : Nat => k ≤ hi.length) (fun k => [(8, natA k)]) (fun k => [.cells [.sl true []], .cells [.gr 2 k], .grow 34 (hi.take k).isEmpty (((hi.take k).map fun n => ((false, [((0 : Int), n)]) : Sps)).map spsA)]) (fun k => hi.length - k) 0 (Nat.zero_le _) rfl ⟨rfl, trivial⟩ ?_ (fun _ _ => (show (3 : Nat) ≤ 3 from Nat.le_refl 3)) ?_
  · intro k _
    refine ⟨fun z hz => ?_, fun z hz => ?_⟩
    · simp only [List.mem_cons, List.not_mem_nil, or_false] at hz
      rcases hz with rfl | rfl | rfl <;> first | rfl | exact lowSps _
    · simp only [List.cons_append, List.nil_append, List.mem_cons, List.not_mem_nil, or_false] at hz
      rcases hz with rfl | rfl | rfl | rfl | rfl <;> first | rfl | exact lowI _
  intro k hk
  have hnx := fun h => take_next (xs := hi) (i := k) h
  have hall : k = hi.length → hi.take k = hi := fun h => by rw [h, List.take_length]
  have hkl : (hi.take k).length = k := by rw [List.length_take]; omega
  generalize hi.take k = R at hnx hall hkl
  have hRl : ((R.map fun n => ((false, [((0 : Int), n)]) : Sps)).map spsA).length = k := by rw [List.length_map, List.length_map]; exact hkl
  conv => whnf
  by_cases hlt : k < hi.length
  · skip
    repeat' first | ((with_reducible first | apply XBr.tt | apply XBr.ff | apply Chk.go | apply ChkA.go | apply ChkF.go | apply ChkB.go | apply XArr.pim0 | apply XArr.pim1); conv => whnf) | (with_reducible apply XBr.not) | ((with_reducible apply XBr.dec) <;> (intro h; first | (exfalso; omega) | ((try simp only [List.length_map] at h); first | (exfalso; omega) | (conv => whnf)))) | ((with_reducible first | apply XBr.beq | apply XBr.bne) <;> (intro h; first | (exfalso; omega) | (conv => whnf))) | ((with_reducible refine XInt.i64 (by omega) (by omega) ?_); conv => whnf) | ((with_reducible refine XHold.mk ?_ ?_); (first | omega | rfl | decide | exact ⟨rfl, by decide, rfl⟩ | exact wideI _ | exact widePr _ | exact wideSk _ | (unfold Room; constructor <;> ((try simp) <;> omega)) | exact ⟨rfl, by simp only [List.length_map], by unfold Room; constructor <;> ((try simp) <;> omega)⟩ | exact ⟨by omega, by omega, by unfold Room; constructor <;> ((try simp) <;> omega)⟩); conv => whnf) | ((first | ((with_reducible refine XIx.nat ?_ ?_ ?_); omega; (intro _; rfl)) | ((with_reducible refine XIx.map ?_ ?_ ?_ ?_); omega; omega; (intro _; rfl))); conv => whnf) | (with_reducible apply XAnd.mk) | (exact XSame.mk rfl rfl) | (exact XSame.mk (by first | rfl | (simp only [List.map_append, List.length_append, List.length_map]; done) | (simp only [List.map_append, List.length_append, List.length_map]; rfl)) (by first | rfl | (simp only [List.map_append]; done) | (simp only [List.map_append]; rfl))) | (with_reducible exact trivial) | ((first | (with_reducible refine xdrop_app (by rw [List.length_map]; omega) ?_) | (with_reducible refine XDrop.desk (by assumption) ?_) | (with_reducible first | refine XArr.ints (by omega) (by omega) (by omega) ?_ | refine XArr.intsA (by omega) (by omega) (by omega) ?_) | ((with_reducible first | refine XArr.nats ?_ ?_ ?_ | refine XArr.natsA ?_ ?_ ?_ | refine XArr.ptr ?_ ?_ ?_); omega; omega) | (with_reducible apply XNext.mk)); conv => whnf) | ((refine XHold.mk ⟨rfl, hRl, by unfold Room; constructor <;> ((try simp) <;> omega)⟩ ?_); conv => whnf) | ((with_reducible apply XBr.mk') <;> (intro h; conv => whnf))
    refine XAgainG.go (k + 1) [] (by omega) (by omega) ?_ ⟨rfl, rfl, rfl, rfl, rfl, trivial⟩
    show [Blk.cells _, Blk.cells _, Blk.grow _ (hi.take (k + 1)).isEmpty (((hi.take (k + 1)).map fun n => ((false, [((0 : Int), n)]) : Sps)).map spsA)] ++ [] = _
    rw [hnx hlt, isEmpty_app, List.map_append, List.map_append]; rfl
  obtain rfl : k = hi.length := by omega
  obtain rfl := hall rfl
  repeat' first | ((with_reducible first | apply XBr.tt | apply XBr.ff | apply Chk.go | apply ChkA.go | apply ChkF.go | apply ChkB.go | apply XArr.pim0 | apply XArr.pim1); conv => whnf) | (with_reducible apply XBr.not) | ((with_reducible apply XBr.dec) <;> (intro h; first | (exfalso; omega) | ((try simp only [List.length_map] at h); first | (exfalso; omega) | (conv => whnf)))) | ((with_reducible first | apply XBr.beq | apply XBr.bne) <;> (intro h; first | (exfalso; omega) | (conv => whnf))) | ((with_reducible refine XInt.i64 (by omega) (by omega) ?_); conv => whnf) | ((with_reducible refine XHold.mk ?_ ?_); (first | omega | rfl | decide | exact ⟨rfl, by decide, rfl⟩ | exact wideI _ | exact widePr _ | exact wideSk _ | (unfold Room; constructor <;> ((try simp) <;> omega)) | exact ⟨rfl, by simp only [List.length_map], by unfold Room; constructor <;> ((try simp) <;> omega)⟩ | exact ⟨by omega, by omega, by unfold Room; constructor <;> ((try simp) <;> omega)⟩); conv => whnf) | ((first | ((with_reducible refine XIx.nat ?_ ?_ ?_); omega; (intro _; rfl)) | ((with_reducible refine XIx.map ?_ ?_ ?_ ?_); omega; omega; (intro _; rfl))); conv => whnf) | (with_reducible apply XAnd.mk) | (exact XSame.mk rfl rfl) | (exact XSame.mk (by first | rfl | (simp only [List.map_append, List.length_append, List.length_map]; done) | (simp only [List.map_append, List.length_append, List.length_map]; rfl)) (by first | rfl | (simp only [List.map_append]; done) | (simp only [List.map_append]; rfl))) | (with_reducible exact trivial) | ((first | (with_reducible refine xdrop_app (by rw [List.length_map]; omega) ?_) | (with_reducible refine XDrop.desk (by assumption) ?_) | (with_reducible first | refine XArr.ints (by omega) (by omega) (by omega) ?_ | refine XArr.intsA (by omega) (by omega) (by omega) ?_) | ((with_reducible first | refine XArr.nats ?_ ?_ ?_ | refine XArr.natsA ?_ ?_ ?_ | refine XArr.ptr ?_ ?_ ?_); omega; omega) | (with_reducible apply XNext.mk)); conv => whnf) | ((with_reducible apply XBr.mk') <;> (intro h; conv => whnf))
  exact ⟨Froz.agg (one1 rfl) (.cons (Froz.grow rfl hRl (lowSps _)) .nil)⟩
theorem three_c : Comp Try.prog 44 [] (snA threeS) := by
  have h1 := three1_c false [12, 9, 7] (by decide)
  have h2 := three1_c false [12, 6, 5] (by decide)
  refine Comp.body (T := tab) (res := [.cell 0 27]) tab_ok [] Try.func44 rfl (by kernel_rfl) Try.ntmps44 rfl (by simp only [List.length_cons, List.length_nil]; decide) (by rfl) ?_; conv => whnf
  repeat' first | ((with_reducible first | apply XBr.tt | apply XBr.ff | apply Chk.go | apply ChkA.go | apply ChkF.go | apply ChkB.go | apply XArr.pim0 | apply XArr.pim1); conv => whnf) | (with_reducible apply XBr.not) | ((with_reducible apply XBr.dec) <;> (intro h; first | (exfalso; omega) | ((try simp only [List.length_map] at h); first | (exfalso; omega) | (conv => whnf)))) | ((with_reducible first | apply XBr.beq | apply XBr.bne) <;> (intro h; first | (exfalso; omega) | (conv => whnf))) | ((with_reducible refine XInt.i64 (by omega) (by omega) ?_); conv => whnf) | ((with_reducible refine XHold.mk ?_ ?_); (first | omega | rfl | decide | exact ⟨rfl, by decide, rfl⟩ | exact wideI _ | exact widePr _ | exact wideSk _ | (unfold Room; constructor <;> ((try simp) <;> omega)) | exact ⟨rfl, by simp only [List.length_map], by unfold Room; constructor <;> ((try simp) <;> omega)⟩ | exact ⟨by omega, by omega, by unfold Room; constructor <;> ((try simp) <;> omega)⟩); conv => whnf) | ((first | ((with_reducible refine XIx.nat ?_ ?_ ?_); omega; (intro _; rfl)) | ((with_reducible refine XIx.map ?_ ?_ ?_ ?_); omega; omega; (intro _; rfl))); conv => whnf) | (with_reducible apply XAnd.mk) | (exact XSame.mk rfl rfl) | (exact XSame.mk (by first | rfl | (simp only [List.map_append, List.length_append, List.length_map]; done) | (simp only [List.map_append, List.length_append, List.length_map]; rfl)) (by first | rfl | (simp only [List.map_append]; done) | (simp only [List.map_append]; rfl))) | (with_reducible exact trivial) | ((first | (with_reducible refine xdrop_app (by rw [List.length_map]; omega) ?_) | (with_reducible refine XDrop.desk (by assumption) ?_) | (with_reducible first | refine XArr.ints (by omega) (by omega) (by omega) ?_ | refine XArr.intsA (by omega) (by omega) (by omega) ?_) | ((with_reducible first | refine XArr.nats ?_ ?_ ?_ | refine XArr.natsA ?_ ?_ ?_ | refine XArr.ptr ?_ ?_ ?_); omega; omega) | (with_reducible apply XNext.mk) | (refine XCall.ret h1 ?_) | (refine XCall.ret h2 ?_)); conv => whnf) | ((with_reducible apply XBr.mk') <;> (intro h; conv => whnf))
  exact ⟨Froz.low (snL threeS)⟩
theorem threeB : SnB threeS := ⟨by decide, by decide, by decide, by decide, by decide, by decide⟩
theorem threeOk : SnOk threeS := snE_iff.1 (by decide +kernel)
theorem awake02_c : Comp Try.prog 12 [] (.bool true) := by
  have h0 := three_c
  have h1 := fTurn_ok threeS threeB 1 threeOk (by decide) (by decide +kernel)
  have t1 : turnN threeS 1 = 7 := by decide +kernel
  rw [t1] at h1
  have h2 := fDry_c threeS threeB 1 7
  rw [show dryE threeS 1 7 = 0 by decide +kernel, show (if (0 : Int) = 0 then drN threeS (1 : Int).toNat (7 : Int).toNat else 0) = 1 by decide +kernel] at h2
  have h3 := fSteps_ok threeS threeB 1 2 3 (by decide +kernel)
  rw [show stepsS threeS (stN 1 2 3) = [(0, 2), (1, 1), (2, 2)] by decide +kernel] at h3
  have h4 := fFixed_ok threeS threeB threeOk 0 (by decide) false [(1, 2), (2, 2), (2, 1), (1, 2), (0, 2)] (by decide)
  rw [show fixR threeS ((0 : Nat) : Int) [(1, 2), (2, 2), (2, 1), (1, 2), (0, 2)] = (1, 1) by decide +kernel, if_neg (by decide +kernel)] at h4
  have h5 := eq_sg false false [(0, 2), (1, 1), (2, 2)] (by decide)
  refine Comp.body (T := tab) (res := [.tmp 0]) tab_ok [] Try.func12 rfl (by kernel_rfl) Try.ntmps12 rfl (by simp only [List.length_cons, List.length_nil]; decide) (by rfl) ?_; conv => whnf
  repeat' first | ((with_reducible first | apply XBr.tt | apply XBr.ff | apply Chk.go | apply ChkA.go | apply ChkF.go | apply ChkB.go | apply XArr.pim0 | apply XArr.pim1); conv => whnf) | (with_reducible apply XBr.not) | ((with_reducible apply XBr.dec) <;> (intro h; first | (exfalso; omega) | ((try simp only [List.length_map] at h); first | (exfalso; omega) | (conv => whnf)))) | ((with_reducible first | apply XBr.beq | apply XBr.bne) <;> (intro h; first | (exfalso; omega) | (conv => whnf))) | ((with_reducible refine XInt.i64 (by omega) (by omega) ?_); conv => whnf) | ((with_reducible refine XHold.mk ?_ ?_); (first | omega | rfl | decide | exact ⟨rfl, by decide, rfl⟩ | exact wideI _ | exact widePr _ | exact wideSk _ | (unfold Room; constructor <;> ((try simp) <;> omega)) | exact ⟨rfl, by simp only [List.length_map], by unfold Room; constructor <;> ((try simp) <;> omega)⟩ | exact ⟨by omega, by omega, by unfold Room; constructor <;> ((try simp) <;> omega)⟩); conv => whnf) | ((first | ((with_reducible refine XIx.nat ?_ ?_ ?_); omega; (intro _; rfl)) | ((with_reducible refine XIx.map ?_ ?_ ?_ ?_); omega; omega; (intro _; rfl))); conv => whnf) | (with_reducible apply XAnd.mk) | (exact XSame.mk rfl rfl) | (exact XSame.mk (by first | rfl | (simp only [List.map_append, List.length_append, List.length_map]; done) | (simp only [List.map_append, List.length_append, List.length_map]; rfl)) (by first | rfl | (simp only [List.map_append]; done) | (simp only [List.map_append]; rfl))) | (with_reducible exact trivial) | ((first | (with_reducible refine xdrop_app (by rw [List.length_map]; omega) ?_) | (with_reducible refine XDrop.desk (by assumption) ?_) | (with_reducible first | refine XArr.ints (by omega) (by omega) (by omega) ?_ | refine XArr.intsA (by omega) (by omega) (by omega) ?_) | ((with_reducible first | refine XArr.nats ?_ ?_ ?_ | refine XArr.natsA ?_ ?_ ?_ | refine XArr.ptr ?_ ?_ ?_); omega; omega) | (with_reducible apply XNext.mk) | (refine XCall.ret h0 ?_) | (refine XCall.ret h1 ?_) | (refine XCall.ret h2 ?_) | (refine XCall.ret h3 ?_) | (refine XCall.ret h4 ?_) | (refine XCall.ret h5 ?_)); conv => whnf) | ((with_reducible apply XBr.mk') <;> (intro h; conv => whnf))
  refine Walk.norm tab_ok [] [(1, _), (2, _), (3, _), (4, _), (5, _), (6, _), (7, _), (8, _), (9, _)] ⟨rfl, rfl, rfl, rfl, rfl, rfl, rfl, rfl, rfl, trivial⟩ ?_
  conv => whnf
  repeat' first | ((with_reducible first | apply XBr.tt | apply XBr.ff | apply Chk.go | apply ChkA.go | apply ChkF.go | apply ChkB.go | apply XArr.pim0 | apply XArr.pim1); conv => whnf) | (with_reducible apply XBr.not) | ((with_reducible apply XBr.dec) <;> (intro h; first | (exfalso; omega) | ((try simp only [List.length_map] at h); first | (exfalso; omega) | (conv => whnf)))) | ((with_reducible first | apply XBr.beq | apply XBr.bne) <;> (intro h; first | (exfalso; omega) | (conv => whnf))) | ((with_reducible refine XInt.i64 (by omega) (by omega) ?_); conv => whnf) | ((with_reducible refine XHold.mk ?_ ?_); (first | omega | rfl | decide | exact ⟨rfl, by decide, rfl⟩ | exact wideI _ | exact widePr _ | exact wideSk _ | (unfold Room; constructor <;> ((try simp) <;> omega)) | exact ⟨rfl, by simp only [List.length_map], by unfold Room; constructor <;> ((try simp) <;> omega)⟩ | exact ⟨by omega, by omega, by unfold Room; constructor <;> ((try simp) <;> omega)⟩); conv => whnf) | ((first | ((with_reducible refine XIx.nat ?_ ?_ ?_); omega; (intro _; rfl)) | ((with_reducible refine XIx.map ?_ ?_ ?_ ?_); omega; omega; (intro _; rfl))); conv => whnf) | (with_reducible apply XAnd.mk) | (exact XSame.mk rfl rfl) | (exact XSame.mk (by first | rfl | (simp only [List.map_append, List.length_append, List.length_map]; done) | (simp only [List.map_append, List.length_append, List.length_map]; rfl)) (by first | rfl | (simp only [List.map_append]; done) | (simp only [List.map_append]; rfl))) | (with_reducible exact trivial) | ((first | (with_reducible refine xdrop_app (by rw [List.length_map]; omega) ?_) | (with_reducible refine XDrop.desk (by assumption) ?_) | (with_reducible first | refine XArr.ints (by omega) (by omega) (by omega) ?_ | refine XArr.intsA (by omega) (by omega) (by omega) ?_) | ((with_reducible first | refine XArr.nats ?_ ?_ ?_ | refine XArr.natsA ?_ ?_ ?_ | refine XArr.ptr ?_ ?_ ?_); omega; omega) | (with_reducible apply XNext.mk) | (refine XCall.ret h5 ?_)); conv => whnf) | ((with_reducible apply XBr.mk') <;> (intro h; conv => whnf))
  exact ⟨.low rfl⟩
end GA
end

section
namespace GA
open Go Go.RowKit Go.Proofs
set_option pp.deepTerms true
set_option maxRecDepth 8000
set_option linter.unusedVariables false
set_option linter.unusedSimpArgs false

theorem XCall.hpS {f : FuncId} {qs : List AV} {h h' : Hp} {r : AV} (x : HpOk f qs h r h') (hr : r.low 0 = true) {H H' : List Blk} {k : AV → List Blk → Prop} {j : Nat} (h0 : lget H j = some (hpC h)) (hs : H.set j (hpC h') = H')
    (hk : k r H') : XCall Try.prog f (.ptr j 0 :: qs) H k := XCall.hp x hr h0 (hs ▸ hk)
end GA
end

section
namespace GA
open Go Go.RowKit Go.Proofs
set_option pp.deepTerms true
set_option maxRecDepth 8000
set_option linter.unusedVariables false
set_option linter.unusedSimpArgs false

theorem XInt.shlN {i O : Nat} {k : AV → Prop} (hO : O = 2 ^ i) (hi : i ≤ 62) (h : k (natA O)) : XInt .i64 (1 * 2 ^ min (i : Int).toNat IntKind.i64.bits) k := XInt.shl hi (hO ▸ h)
structure ChW (s : Sn) (c : Nat) (W : T3 Int) : Prop where
  w : ∀ p m l : Nat, (p : Int) < s.places → (m : Int) ≤ s.last → l ≤ allN s → -1 ≤ W p m l ∧ W p m l ≤ s.last + 2 * c
theorem ChW.next {s : Sn} {c p m l : Nat} {W : T3 Int} {v : Int} (h : ChW s c W) (h1 : -1 ≤ v) (h2 : v ≤ s.last + 2 * (c + 1 : Nat)) : ChW s (c + 1) (upd3 W p m l v) := by
  refine ⟨fun p' m' l' hp hm hl => ?_⟩
  by_cases e : p' = p ∧ m' = m ∧ l' = l
  · obtain ⟨rfl, rfl, rfl⟩ := e
    rw [upd3_at]; exact ⟨h1, h2⟩
  · rw [upd3_ne _ _ e]
    have := h.w p' m' l' hp hm hl
    omega
end GA
end

section
namespace GA
open Go Go.RowKit
set_option linter.unusedVariables false
set_option linter.unusedSimpArgs false

def lexP (A : Array Oper) : Nat → List Oper → Bool
  | _, [] => true
  | k, o :: l => o.after.toList.all (fun e => !Region.binds .any e || Nat.blt e.on k) && l.all (fun oj => oj.after.toList.any (fun e => Region.binds .any e && Nat.beq e.on k) || o.apart A oj) && lexP A (k + 1) l
theorem lex_from {ops : List Oper} : ∀ (l : List Oper) (k : Nat) (listed : Array Bool), (∀ j, l[j]? = ops[k + j]?) → k + l.length = ops.length → listed.size = ops.length → (∀ j, listed.getD j true = decide (j < k ∨ ops.length ≤ j)) → lexP ops.toArray k l = true → Region.lexFrom .any ops.toArray l.length k listed = true
  | [], k, listed, hl, hk, hs, hL, h => by
    rw [List.length_nil, Region.lexFrom, List.isEmpty_iff]
    refine List.eq_nil_iff_forall_not_mem.2 fun j hj => ?_
    obtain ⟨h1, o, ho, -⟩ := mem_ready.1 hj
    have hlt : j < ops.length := by simpa using (Array.getElem?_eq_some_iff.1 ho).1
    rw [hL, decide_eq_false_iff_not] at h1
    rw [List.length_nil] at hk
    omega
  | o :: l, k, listed, hl, hk, hs, hL, h => by
    simp only [lexP, Bool.and_eq_true] at h
    obtain ⟨⟨h1, h2⟩, h3⟩ := h
    have h0 : ops[k]? = some o := by have := hl 0; simpa using this.symm
    have hkl : k < ops.length := (List.getElem?_eq_some_iff.1 h0).1
    rw [List.length_cons] at hk
    simp only [List.length_cons, Region.lexFrom, Bool.and_eq_true]
    refine ⟨⟨?_, ?_⟩, ?_⟩
    · rw [List.contains_iff_mem]
      refine mem_ready.2 ⟨by rw [hL, decide_eq_false_iff_not]; omega, o, by simpa using h0, fun e he hb => ?_⟩
      have h4 := List.all_eq_true.1 h1 e (by simpa using he)
      rw [hb] at h4
      simp only [Bool.not_true, Bool.false_or] at h4
      have h5 : e.on < k := Nat.blt_eq.mp h4
      have h6 := hL e.on
      rw [decide_eq_true (.inl h5)] at h6
      have h7 : e.on < listed.size := by omega
      simp only [Array.getD, h7, dite_true] at h6 ⊢
      exact h6
    · unfold Region.free
      rw [show ops.toArray[k]? = some o by simpa using h0]
      dsimp only
      rw [List.all_eq_true]
      intro j hj
      have hjl : j < ops.length := by simpa using hj
      by_cases hjk : j < k ∨ ops.length ≤ j
      · rw [hL, decide_eq_true hjk]; simp
      · by_cases he : j = k
        · rw [he]; simp
        · have hj2 : l[j - k - 1]? = ops[j]? := by
            have := hl (j - k)
            rw [show k + (j - k) = j by omega] at this
            rw [← this, show j - k = (j - k - 1) + 1 by omega, List.getElem?_cons_succ]
            simp
          have hoj : ops[j]? = some ops[j] := List.getElem?_eq_getElem hjl
          rw [hoj] at hj2
          have hm := List.mem_of_getElem? hj2
          have h4 := List.all_eq_true.1 h2 _ hm
          rw [show ops.toArray[j]? = some ops[j] by simp [hjl]]
          dsimp only
          rw [Bool.or_eq_true] at h4
          rcases h4 with h4 | h4
          · obtain ⟨e, he1, he2⟩ := List.any_eq_true.1 h4
            have h5 : (ops[j].after.any fun e => Region.binds .any e && e.on == k) = true := by
              rw [Array.any_eq_true']
              refine ⟨e, by simpa using he1, ?_⟩
              rw [Bool.and_eq_true] at he2 ⊢
              exact ⟨he2.1, by rw [beq_iff_eq]; exact Nat.eq_of_beq_eq_true he2.2⟩
            rw [h5]; simp
          · rw [h4]; simp
    · refine lex_from l (k + 1) _ (fun j => ?_) (by omega) (by simpa using hs) (fun j => ?_) h3
      · have := hl (j + 1)
        rw [List.getElem?_cons_succ] at this
        rw [this]; congr 1; omega
      · by_cases hjk : k = j
        · subst hjk
          have h7 : k < listed.size := by omega
          rw [decide_eq_true (.inl (by omega))]
          simp [h7]
        · rw [getD_set_ne true hjk, hL]
          congr 1
          simp only [eq_iff_iff]
          omega
theorem lex_of {ops : List Oper} (h : (Region.noSelect ops.toArray && lexP ops.toArray 0 ops) = true) : Region.lexB .any ops.toArray = true := by
  rw [Bool.and_eq_true] at h
  simp only [Region.lexB, Bool.and_eq_true]
  refine ⟨h.1, ?_⟩
  have := lex_from (ops := ops) ops 0 (Array.replicate ops.toArray.size false) (fun j => by rw [Nat.zero_add]) (by simp) (by simp) (fun j => ?_) h.2
  · simpa using this
  · by_cases hj : j < ops.length
    · rw [decide_eq_false (by omega)]
      simp [hj]
    · rw [decide_eq_true (.inr (by omega))]
      simp [hj]
end GA
end

section
namespace GA
open Go Go.RowKit Go.Proofs
set_option pp.deepTerms true
set_option maxRecDepth 8000
set_option linter.unusedVariables false
set_option linter.unusedSimpArgs false

def cutC : Nat → Code → Code
  | n + 1, .seq _ b => cutC n b
  | _, c => c
def codeC : Option Code → Code
  | some c => c
  | none => .skip
structure OrdL (n : Nat) (L : List Int) (f : Nat → Nat) : Prop where
  l : L.length = n
  v : ∀ i, i < n → L.getD i default = ((f i : Nat) : Int)
theorem pt_perm (ys : List Int) (p : Nat) (x : Int) : (putAt ys p x).Perm (x :: ys) := by
  unfold putAt
  refine List.perm_middle.trans ?_
  rw [List.take_append_drop]
theorem od_perm (u : Hp) : ∀ n, (ordK u n).1.Perm ((List.range n).map fun i : Nat => (i : Int))
  | 0 => .refl _
  | n + 1 => by
    refine (pt_perm _ _ _).trans ?_
    rw [List.range_succ, List.map_append]
    refine (List.Perm.cons _ (od_perm u n)).trans ?_
    exact (List.perm_append_comm (l₁ := [(n : Int)])).trans (.refl _)
theorem od_nd (u : Hp) (n : Nat) : (ordK u n).1.Nodup := by
  refine (od_perm u n).nodup_iff.2 ?_
  exact List.pairwise_map.2 (List.nodup_range.imp fun h e => h (by omega))
theorem od_mem (u : Hp) (n : Nat) (z : Int) : z ∈ (ordK u n).1 ↔ 0 ≤ z ∧ z < n := by
  rw [(od_perm u n).mem_iff, List.mem_map]
  constructor
  · rintro ⟨i, hi, rfl⟩
    have := List.mem_range.1 hi
    omega
  · rintro ⟨h1, h2⟩
    exact ⟨z.toNat, List.mem_range.2 (by omega), by omega⟩
theorem ord_perm (u : Hp) (n : Nat) (o : u.Ok) : ∃ f g, PermOk n f g ∧ OrdL n (ordK u n).1 f := by
  have hl := (ordK_ok o n).2
  have nd := od_nd u n
  have hmem := od_mem u n
  generalize (ordK u n).1 = L at hl nd hmem
  have hm : ∀ i, i < n → 0 ≤ L.getD i default ∧ L.getD i default < n := fun i hi => (hmem _).1 (getD_mem (by omega))
  have hin : ∀ j : Nat, j < n → (j : Int) ∈ L := fun j hj => (hmem j).2 (by omega)
  have hix : ∀ j : Nat, j < n → L.idxOf (j : Int) < L.length := fun j hj => List.idxOf_lt_length_of_mem (hin j hj)
  refine ⟨fun i => (L.getD i default).toNat, fun j => L.idxOf (j : Int), ⟨fun i hi => by have := hm i hi; (try dsimp only); omega, fun j hj => by have := hix j hj; (try dsimp only); omega, fun i hi => ?_, fun j hj => ?_⟩, hl, fun i hi => by have := hm i hi; (try dsimp only); omega⟩
  · have h1 := hm i hi
    try dsimp only
    rw [Int.toNat_of_nonneg h1.1]
    have h2 : L.getD i default ∈ L := getD_mem (by omega)
    have h3 := List.idxOf_lt_length_of_mem h2
    have h4 := List.getElem_idxOf h3
    have h5 : L.getD i default = L[i] := by rw [List.getD_eq_getElem?_getD, List.getElem?_eq_getElem (by omega)]; rfl
    have h6 : L[L.idxOf (L.getD i default)] = L[i]'(by omega) := h4.trans h5
    exact (List.getElem_inj nd).1 h6
  · have h3 := hix j hj
    have h4 := List.getElem_idxOf h3
    try dsimp only
    rw [List.getD_eq_getElem?_getD, List.getElem?_eq_getElem h3, Option.getD_some, h4]
    exact Int.toNat_natCast j
set_option maxHeartbeats 8000000 in
theorem namedRest (s : Sn) (hb : SnB s) (ok : SnOk s) (P0 d : Nat) (hP0 : s.places = P0) (f g a b : Nat → Nat) (hf : PermOk P0 f g) (ha : PermOk s.truths.length a b) (L1 L2 : List Int) (hL1 : OrdL P0 L1 f) (hL2 : OrdL s.truths.length L2 a) (w3 w4 : Int) (hw3 : 0 ≤ w3 ∧ w3 ≤ 255) (hw4 : 0 ≤ w4 ∧ w4 ≤ 255) :
    XRun Try.prog tab 254 none [] (cutC 7 (codeC Try.f5.body)) (XFn Try.prog tab [.tmp 8] (.bool true)) [] (stX [(2, .int .u8 w3), (3, .int .u8 w4), (9, .pim (snC s)), (11, slA L1), (12, slA L2), (13, .pim (snC (nmS s f g a b)))]) (List.replicate d .dead) := by
  /-
  refine Comp.body (T := tab) (res := [.tmp 8]) tab_ok [] Try.func5 rfl (by kernel_rfl) Try.ntmps5 rfl (by simp only [List.length_cons, List.length_nil]; decide) (by rfl) ?_; conv => whnf
  -/
  have h1 := ok.h1; have b1 := ok.b1; have p1 := ok.p1; have p2 := ok.p2; have l1 := ok.l1; have l2 := ok.l2; have t1 := ok.t1; have t2 := ok.t2; have k1 := ok.k1
  have hpw : 2 ^ s.truths.length ≤ 2 ^ 4 := Nat.pow_le_pow_right (by omega) ok.t2
  have hpw1 : 2 ^ 1 ≤ 2 ^ s.truths.length := Nat.pow_le_pow_right (by omega) ok.t1
  have hall : allN s = 2 ^ s.truths.length - 1 := rfl
  obtain ⟨N2, hN2⟩ : ∃ N2 : Nat, N2 = 2 ^ s.truths.length := ⟨_, rfl⟩
  rw [← hN2] at hpw hpw1 hall
  have e3 : ((s.truths.map trA).length : Int) = s.truths.length := by rw [List.length_map]
  obtain ⟨m, hmm, hml⟩ : ∃ m : Nat, w4.tmod (s.last + 1) = (m : Int) ∧ (m : Int) ≤ s.last := ⟨(w4.tmod (s.last + 1)).toNat, by
    have := Int.tmod_nonneg (s.last + 1) hw4.1
    omega, by
    have := Int.tmod_nonneg (s.last + 1) hw4.1
    have := Int.tmod_lt_of_pos w4 (show 0 < s.last + 1 by omega)
    omega⟩
  obtain ⟨p, hpp, hpl⟩ : ∃ p : Nat, w3.tmod s.places = (p : Int) ∧ p < P0 := ⟨(w3.tmod s.places).toNat, by
    have := Int.tmod_nonneg s.places hw3.1
    omega, by
    have := Int.tmod_nonneg s.places hw3.1
    have := Int.tmod_lt_of_pos w3 (show 0 < s.places by omega)
    omega⟩
  have okU := nm_ok ok hP0 hf ha
  have hbU := nm_B ok hb hP0 hf ha
  have hSs := fStart_ok s hb ok m hml
  have hSu := fStart_ok (nmS s f g a b) hbU okU m hml
  rw [nm_start ok hP0 hf ha hml] at hSu
  have hfp := hf.f_lt p hpl
  have hpv := hL1.v p hpl
  have hL1l := hL1.l
  have hL2l := hL2.l
  generalize startZ s m = z0 at hSs hSu
  conv => whnf
  repeat' first | ((with_reducible apply XBr.ff); conv => whnf) | ((with_reducible apply XBr.bne) <;> (intro h; first | (exfalso; omega) | (conv => whnf))) | ((with_reducible refine XInt.i64 (by omega) (by omega) ?_); conv => whnf) | ((with_reducible refine XHold.mk ?_ ?_); (first | omega | rfl | decide | exact ⟨rfl, by decide, rfl⟩ | exact wideI _ | exact widePr _ | exact wideSk _ | (unfold Room; constructor <;> ((try simp) <;> omega)) | exact ⟨rfl, by simp only [List.length_map], by unfold Room; constructor <;> ((try simp) <;> omega)⟩ | exact ⟨by omega, by omega, by unfold Room; constructor <;> ((try simp) <;> omega)⟩); conv => whnf) | (rw [hmm]; conv => whnf) | ((first | (refine XCall.ret hSs ?_) | (refine XCall.ret hSu ?_)); conv => whnf) | fail
  refine Walk.loopK tab_ok [] [(2, _), (9, _), (11, _), (12, _), (13, _), (21, _)] ⟨rfl, rfl, rfl, rfl, rfl, rfl, trivial⟩ (fun l : Nat => 1 ≤ l ∧ l ≤ N2) (fun l => [(26, natA l)]) (fun _ => List.replicate d .dead) (fun l => N2 - l) 1 ⟨Nat.le_refl _, by omega⟩ rfl ⟨rfl, trivial⟩ ?_
  rintro l ⟨hl1, hl2⟩
  conv => whnf
  by_cases hll : l < N2
  rotate_left
  · skip
    repeat' first | ((with_reducible apply XBr.dec) <;> (intro h; first | (exfalso; omega) | ((try simp only [List.length_map] at h); first | (exfalso; omega) | (conv => whnf)))) | ((with_reducible refine XHold.mk ?_ ?_); (first | omega | rfl | decide | exact ⟨rfl, by decide, rfl⟩ | exact wideI _ | exact widePr _ | exact wideSk _ | (unfold Room; constructor <;> ((try simp) <;> omega)) | exact ⟨rfl, by simp only [List.length_map], by unfold Room; constructor <;> ((try simp) <;> omega)⟩ | exact ⟨by omega, by omega, by unfold Room; constructor <;> ((try simp) <;> omega)⟩); conv => whnf) | ((first | (refine XInt.shlL hN2 (by omega) ?_) | (refine XCall.ret awake02_c ?_)); conv => whnf) | fail
    exact XOut.bool rfl
  repeat' first | ((with_reducible apply XBr.dec) <;> (intro h; first | (exfalso; omega) | ((try simp only [List.length_map] at h); first | (exfalso; omega) | (conv => whnf)))) | ((with_reducible refine XHold.mk ?_ ?_); (first | omega | rfl | decide | exact ⟨rfl, by decide, rfl⟩ | exact wideI _ | exact widePr _ | exact wideSk _ | (unfold Room; constructor <;> ((try simp) <;> omega)) | exact ⟨rfl, by simp only [List.length_map], by unfold Room; constructor <;> ((try simp) <;> omega)⟩ | exact ⟨by omega, by omega, by unfold Room; constructor <;> ((try simp) <;> omega)⟩); conv => whnf) | ((refine XInt.shlL hN2 (by omega) ?_); conv => whnf) | fail
  refine Walk.loopK tab_ok [] [(2, _), (9, _), (11, _), (12, _), (13, _), (21, _), (26, _), (200, _)] ⟨rfl, rfl, rfl, rfl, rfl, rfl, rfl, rfl, trivial⟩ (fun k : Nat => k ≤ s.truths.length) (fun k => [(27, natA (othK a l k)), (201, natA k)]) (fun _ => List.replicate d .dead) (fun k => s.truths.length - k) 0 (Nat.zero_le _) rfl ⟨rfl, rfl, trivial⟩ ?_
  intro k hk
  conv => whnf
  by_cases hkl : k < s.truths.length
  · have hav := hL2.v k hkl
    have hal := ha.f_lt k hkl
    have hbs := bit_sh (l := l) (i := k) (by omega) (by omega)
    have hnx : othK a l (k + 1) = if l.testBit k = true then othK a l k ||| 2 ^ a k else othK a l k := rfl
    have hol : othK a l k ≤ allN s := sub_all fun j hj => by
      obtain ⟨i, hi, -, rfl⟩ := othK_bit.1 hj
      exact ha.f_lt i (by omega)
    have hOw : 2 ^ a k ≤ 2 ^ 4 := Nat.pow_le_pow_right (by omega) (by omega)
    obtain ⟨O, hO⟩ : ∃ O : Nat, O = 2 ^ a k := ⟨_, rfl⟩
    rw [← hO] at hOw hnx
    generalize othK a l k = X at hnx hol
    have hio : ior .i64 (X : Int) (O : Int) = ((X ||| O : Nat) : Int) := ior_nat (by omega) (by omega)
    have hi0 : ior .i64 (X : Int) 0 = X := by
      have : ior .i64 (X : Int) ((0 : Nat) : Int) = ((X ||| 0 : Nat) : Int) := ior_nat (by omega) (by omega)
      rw [Nat.or_zero] at this; exact this
    cases hbt : l.testBit k with
    | false =>
      rw [hbt, if_neg (by simp)] at hbs hnx
      repeat' first | ((with_reducible apply XBr.dec) <;> (intro h; first | (exfalso; omega) | ((try simp only [List.length_map] at h); first | (exfalso; omega) | (conv => whnf)))) | ((with_reducible refine XInt.i64 (by omega) (by omega) ?_); conv => whnf) | ((with_reducible refine XHold.mk ?_ ?_); (first | omega | rfl | decide | exact ⟨rfl, by decide, rfl⟩ | exact wideI _ | exact widePr _ | exact wideSk _ | (unfold Room; constructor <;> ((try simp) <;> omega)) | exact ⟨rfl, by simp only [List.length_map], by unfold Room; constructor <;> ((try simp) <;> omega)⟩ | exact ⟨by omega, by omega, by unfold Room; constructor <;> ((try simp) <;> omega)⟩); conv => whnf) | (((with_reducible refine XIx.nat ?_ ?_ ?_); omega; (intro _; rfl)); conv => whnf) | (with_reducible apply XAnd.mk) | ((first | (with_reducible apply Chk.go) | (with_reducible apply ChkA.go) | (with_reducible apply ChkF.go) | (with_reducible apply ChkB.go)); conv => whnf) | (exact XSame.mk rfl rfl) | (with_reducible exact trivial) | (apply Walk.drawN (id := 33) tab_ok mixed_ok [] [] (hsU _) [_, _, _, _, _, _, _, _, _, _, _, _] (by kernel_rfl) rfl) | ((with_reducible apply XNext.mk); conv => whnf) | (rw [hbs]; conv => whnf) | (rw [hav]; conv => whnf) | fail
      refine XAgain.go (k + 1) (by omega) (by omega) rfl ⟨rfl, rfl, rfl, rfl, rfl, rfl, rfl, rfl, (by rw [hnx]; show some (AV.int .i64 (ior .i64 _ _)) = _; rw [Int.zero_mul, hi0]; rfl), rfl, trivial⟩
    | true =>
      rw [hbt, if_pos rfl] at hbs hnx
      repeat' first | ((with_reducible apply XBr.dec) <;> (intro h; first | (exfalso; omega) | ((try simp only [List.length_map] at h); first | (exfalso; omega) | (conv => whnf)))) | ((with_reducible refine XInt.i64 (by omega) (by omega) ?_); conv => whnf) | ((with_reducible refine XHold.mk ?_ ?_); (first | omega | rfl | decide | exact ⟨rfl, by decide, rfl⟩ | exact wideI _ | exact widePr _ | exact wideSk _ | (unfold Room; constructor <;> ((try simp) <;> omega)) | exact ⟨rfl, by simp only [List.length_map], by unfold Room; constructor <;> ((try simp) <;> omega)⟩ | exact ⟨by omega, by omega, by unfold Room; constructor <;> ((try simp) <;> omega)⟩); conv => whnf) | (((with_reducible refine XIx.nat ?_ ?_ ?_); omega; (intro _; rfl)); conv => whnf) | (with_reducible apply XAnd.mk) | ((first | (with_reducible apply Chk.go) | (with_reducible apply ChkA.go) | (with_reducible apply ChkF.go) | (with_reducible apply ChkB.go)); conv => whnf) | (exact XSame.mk rfl rfl) | (with_reducible exact trivial) | (apply Walk.drawN (id := 33) tab_ok mixed_ok [] [] (hsU _) [_, _, _, _, _, _, _, _, _, _, _, _] (by kernel_rfl) rfl) | ((with_reducible apply XNext.mk); conv => whnf) | (rw [hbs]; conv => whnf) | (rw [hav]; conv => whnf) | ((refine XInt.shlN hO (by omega) ?_); conv => whnf) | fail
      refine XAgain.go (k + 1) (by omega) (by omega) rfl ⟨rfl, rfl, rfl, rfl, rfl, rfl, rfl, rfl, (by rw [hnx]; show some (AV.int .i64 (ior .i64 _ _)) = _; rw [hio]; rfl), rfl, trivial⟩
  obtain rfl : k = s.truths.length := by omega
  obtain ⟨hne, hle, hwe⟩ := nm_worth ok hP0 hf ha (p := p) (m := m) (l := l) hpl hml (by omega) (by omega)
  have hWs := fWorth_ok s hb p m l (sttE_iff.2 ⟨ok, ⟨by omega, by omega⟩, ⟨by omega, hml⟩, by omega, by omega⟩)
  have hWu := fWorth_ok (nmS s f g a b) hbU (f p) m (othK a l s.truths.length) (sttE_iff.2 ⟨okU, ⟨by omega, by show _ < s.places; omega⟩, ⟨by omega, hml⟩, by omega, by
    have : allN (nmS s f g a b) = allN s := by unfold allN; rw [nm_tl]
    omega⟩)
  rw [show stN (p : Int) (m : Int) (l : Int) = ⟨p, m, l⟩ from rfl] at hWs
  rw [show stN ((f p : Nat) : Int) (m : Int) ((othK a l s.truths.length : Nat) : Int) = ⟨f p, m, othK a l s.truths.length⟩ from rfl, hwe] at hWu
  rw [← hpv] at hWu
  generalize worthZ s ⟨p, m, l⟩ = z1 at hWs hWu
  generalize othK a l s.truths.length = X at hWu hne hle
  repeat' first | ((with_reducible apply XBr.ff); conv => whnf) | ((with_reducible apply XBr.dec) <;> (intro h; first | (exfalso; omega) | ((try simp only [List.length_map] at h); first | (exfalso; omega) | (conv => whnf)))) | ((with_reducible apply XBr.bne) <;> (intro h; first | (exfalso; omega) | (conv => whnf))) | ((with_reducible refine XInt.i64 (by omega) (by omega) ?_); conv => whnf) | ((with_reducible refine XHold.mk ?_ ?_); (first | omega | rfl | decide | exact ⟨rfl, by decide, rfl⟩ | exact wideI _ | exact widePr _ | exact wideSk _ | (unfold Room; constructor <;> ((try simp) <;> omega)) | exact ⟨rfl, by simp only [List.length_map], by unfold Room; constructor <;> ((try simp) <;> omega)⟩ | exact ⟨by omega, by omega, by unfold Room; constructor <;> ((try simp) <;> omega)⟩); conv => whnf) | (((with_reducible refine XIx.nat ?_ ?_ ?_); omega; (intro _; rfl)); conv => whnf) | (with_reducible apply XAnd.mk) | ((first | (with_reducible apply Chk.go) | (with_reducible apply ChkA.go) | (with_reducible apply ChkF.go) | (with_reducible apply ChkB.go)); conv => whnf) | (exact XSame.mk rfl rfl) | (with_reducible exact trivial) | (apply Walk.drawN (id := 37) tab_ok mixed_ok [] [] (hsU _) [_, _, _, _, _, _, _, _, _, _, _, _, _, _] (by kernel_rfl) rfl) | ((with_reducible apply XNext.mk); conv => whnf) | (rw [hpp]; conv => whnf) | ((first | (refine XCall.ret hWs ?_) | (refine XCall.ret hWu ?_)); conv => whnf) | fail
  exact XAgain.go (l + 1) ⟨by omega, by omega⟩ (by omega) rfl ⟨rfl, rfl, rfl, rfl, rfl, rfl, rfl, trivial⟩
end GA
end

section
namespace GA
open Go Go.RowKit Go.Proofs
set_option maxRecDepth 8000
set_option linter.unusedVariables false
set_option linter.unusedSimpArgs false

theorem getD_map' {α β : Type} (f : α → β) (l : List α) (i : Nat) (d : α) : (l.map f).getD i (f d) = f (l.getD i d) := by
  rw [List.getD_eq_getElem?_getD, List.getD_eq_getElem?_getD, List.getElem?_map]
  cases l[i]? <;> rfl
structure SnEq (s u : Sn) : Prop where
  places : s.places = u.places
  home : s.home = u.home
  bed : s.bed = u.bed
  last : s.last = u.last
  ways : s.ways = u.ways
  looks : s.looks.map (·.2) = u.looks.map (·.2)
  truths : s.truths.map (fun t => t.2.map (·.2)) = u.truths.map (fun t => t.2.map (·.2))
theorem SnEq.symm {s u : Sn} (e : SnEq s u) : SnEq u s := ⟨e.places.symm, e.home.symm, e.bed.symm, e.last.symm, e.ways.symm, e.looks.symm, e.truths.symm⟩
theorem SnEq.trans {s u v : Sn} (e : SnEq s u) (f : SnEq u v) : SnEq s v := ⟨e.places.trans f.places, e.home.trans f.home, e.bed.trans f.bed, e.last.trans f.last, e.ways.trans f.ways, e.looks.trans f.looks, e.truths.trans f.truths⟩
theorem SnEq.lenK {s u : Sn} (e : SnEq s u) : s.looks.length = u.looks.length := by have := congrArg List.length e.looks; simpa using this
theorem SnEq.lenT {s u : Sn} (e : SnEq s u) : s.truths.length = u.truths.length := by have := congrArg List.length e.truths; simpa using this
theorem lookZ_eq' (s : Sn) (t p : Nat) : lookZ s t p = ((s.looks.map (·.2)).getD t []).getD p default := by
  unfold lookZ; rw [show ([] : List Int) = (default : Rw).2 from rfl, getD_map' (fun r : Rw => r.2)]
theorem SnEq.look {s u : Sn} (e : SnEq s u) (t p : Nat) : lookZ s t p = lookZ u t p := by rw [lookZ_eq', lookZ_eq', e.looks]
theorem dryT_eq' (s : Sn) (t p m : Nat) : dryT s t p m = ((((s.truths.map fun t => t.2.map (·.2)).getD t []).getD p []).any fun x => inZ m x.1 x.2) := by
  unfold dryT
  rw [show ([] : List (List (Int × Int))) = (default : Tru).2.map (·.2) from rfl, getD_map' (fun t : Tru => t.2.map (·.2)), show ([] : List (Int × Int)) = (default : Sps).2 from rfl, getD_map' (fun t : Sps => t.2)]
theorem SnEq.dry {s u : Sn} (e : SnEq s u) (t p m : Nat) : dryT s t p m = dryT u t p m := by rw [dryT_eq', dryT_eq', e.truths]
theorem SnEq.drN {s u : Sn} (e : SnEq s u) (p m : Nat) : drN s p m = drN u p m := by unfold GA.drN; rw [e.lenT]; exact bsum_congr fun i _ => e.dry i p m
theorem SnEq.allN {s u : Sn} (e : SnEq s u) : allN s = allN u := by unfold GA.allN; rw [e.lenT]
theorem SnEq.partN {s u : Sn} (e : SnEq s u) (p l n : Nat) : partN s p l n = partN u p l n := by unfold GA.partN; rw [e.lenK]; exact bsum_congr fun i _ => by rw [e.look]
theorem SnEq.parts {s u : Sn} (e : SnEq s u) (p l : Nat) : partsL s p l = partsL u p l := by
  unfold partsL
  have : ∀ k, partsK s p l k = partsK u p l k := fun k => by
    induction k with
    | zero => rfl
    | succ k ih => rw [partsK, partsK, ih, e.partN]
  exact this 4
theorem SnEq.safe {s u : Sn} (e : SnEq s u) (x : Sta) : safeB s x = safeB u x := by unfold safeB; rw [e.drN]
theorem SnEq.waysL {s u : Sn} (e : SnEq s u) (p : Nat) : waysL s p = waysL u p := by
  unfold GA.waysL
  rw [e.places]
  have : ∀ k, waysK s p k = waysK u p k := fun k => by
    induction k with
    | zero => rfl
    | succ k ih => rw [waysK, waysK, ih]; unfold waysQ; rw [e.ways]
  exact this _
theorem SnEq.out {s u : Sn} (e : SnEq s u) (x : Sta) (t : Int × Int) : outS s x t = outS u x t := by unfold outS; rw [e.parts]
theorem SnEq.after {s u : Sn} (e : SnEq s u) (x : Sta) (t : Int × Int) : afterS s x t = afterS u x t := by
  unfold afterS
  rw [e.out, e.waysL, e.last, e.safe, show safeB s = safeB u from funext fun y => e.safe y]
theorem SnEq.steps {s u : Sn} (e : SnEq s u) (x : Sta) : stepsS s x = stepsS u x := by
  unfold stepsS
  rw [e.waysL, show (fun t => !(afterS s x t).isEmpty) = (fun t => !(afterS u x t).isEmpty) from funext fun t => by rw [e.after]]
theorem SnEq.gain {s u : Sn} (e : SnEq s u) (f : Sta → Int) (x : Sta) (t : Int × Int) : gainZ s f x t = gainZ u f x t := by unfold gainZ; rw [e.after, e.bed]
theorem SnEq.best {s u : Sn} (e : SnEq s u) (f : Sta → Int) (x : Sta) : bestZ s f x = bestZ u f x := by
  unfold bestZ homeZ
  rw [e.safe, e.steps, e.home, show (fun n t => max n (gainZ s f x t)) = (fun n t => max n (gainZ u f x t)) from funext fun n => funext fun t => by rw [e.gain]]
theorem SnEq.worth {s u : Sn} (e : SnEq s u) (x : Sta) : worthZ s x = worthZ u x := by
  unfold worthZ
  rw [e.last]
  have : ∀ k y, worthK s k y = worthK u k y := fun k => by
    induction k with
    | zero => intro y; rfl
    | succ k ih => intro y; rw [worthK, worthK, e.best, show worthK s k = worthK u k from funext ih]
  exact this _ _
end GA
end

section
namespace GA
open Go Go.RowKit Go.Proofs
set_option pp.deepTerms true
set_option maxRecDepth 8000
set_option linter.unusedVariables false
set_option linter.unusedSimpArgs false

theorem wideSg (xs : List (Int × Int)) : wide 2 (xs.map sgA) = true := wide_map (f := sgA) (n := 2) (fun _ => rfl) (fun _ => rfl) xs
theorem dup_sg (nl : Bool) (xs : List (Int × Int)) (hx : xs.length ≤ 100000) : Comp Try.prog 20 [.sl nl (xs.map sgA)] (.sl false (xs.map sgA)) := by
  refine Comp.body (T := tab) (res := [.tmp 2]) tab_ok [] Try.func20 rfl (by kernel_rfl) Try.ntmps20 rfl (by simp only [List.length_cons, List.length_nil]; decide) (by simp only [lowL, AV.low, lowSg]; rfl) ?_; conv => whnf
  refine XHold.mk ⟨by omega, by simp, by unfold Room; simp; omega⟩ ?_
  conv => whnf
  refine XHold.mk (wideSg xs) ?_
  conv => whnf
  refine XHold.mk ⟨rfl, rfl, by unfold Room; simp; omega⟩ ?_
  conv => whnf
  exact ⟨Froz.grow rfl (by simp) (lowSg xs)⟩
end GA
end
