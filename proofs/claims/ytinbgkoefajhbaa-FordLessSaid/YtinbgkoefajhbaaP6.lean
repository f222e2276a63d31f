/- Part 6 of a proof: F17, F18, F35, F36, F52, F41, F64, F50, F51, F55, F56, F30, F57, F58, F74, Abs41. -/
import Derived.Test.YtinbgkoefajhbaaP5
section
namespace GA
open Go Go.RowKit Go.Proofs
set_option pp.deepTerms true
set_option maxRecDepth 8000
set_option linter.unusedVariables false
set_option linter.unusedSimpArgs false

def sgsA (l : List (Int × Int)) : AV := .sl l.isEmpty (l.map sgA)
theorem allN16 {s : Sn} (ok : SnOk s) : allN s < 16 := by
  have h2 : 2 ^ s.truths.length ≤ 2 ^ 4 := Nat.pow_le_pow_right (by omega) ok.t2
  unfold allN; omega
theorem stN_ok {s : Sn} {p m l : Int} (h : sttE s p m l = 0) : StOk s (stN p m l) := by
  obtain ⟨ok, h1, h2, h3, h4⟩ := sttE_iff.1 h
  have := allN16 ok
  exact ⟨by show ((p.toNat : Nat) : Int) < _; omega, by show ((m.toNat : Nat) : Int) ≤ _; omega, by show l.toNat ≤ 1000; omega⟩
theorem fSteps_ok (s : Sn) (hb : SnB s) (p m l : Int) (h : sttE s p m l = 0) : Comp Try.prog 46 [snA s, xA p m l] (.tup [sgsA (stepsS s (stN p m l)), .int .i64 0]) := by
  have hs := stated_ok s hb p m l h
  obtain ⟨ok, h1, h2, h3, h4⟩ := sttE_iff.1 h
  have hxe := xA_st h1.1 h2.1 (show 0 ≤ l by omega)
  have hx := stN_ok h
  rw [hxe] at hs ⊢
  generalize stN p m l = x at hs hx
  clear h h1 h2 h3 h4 hxe
  have p1 := ok.p1; have p2 := ok.p2; have l1 := ok.l1; have l2 := ok.l2; have w1 := ok.w1
  have x1 := hx.p; have x2 := hx.m; have x3 := hx.l
  have hmg : mget (x.p : Int) ((keyF s).zip ((esF s s.places.toNat).map (·.2))) = some (.sl false ((waysL s x.p).map sgA)) := by
    unfold keyF; rw [zip_fs]; exact esF_get s _ _ (by omega)
  have hst := fsteps_c s x
  have hsd : stepsS s x = (waysL s x.p).filter fun t => !(afterS s x t).isEmpty := rfl
  have hwl : (waysL s x.p).length ≤ 55 := by
    have h := waysK_len s x.p s.places.toNat
    have h2 : s.places.toNat * (1 + s.ways.length) ≤ 5 * 11 := Nat.mul_le_mul (by omega) (by omega)
    show (waysK s x.p s.places.toNat).length ≤ 55
    omega
  have hwm := fun t (h : t ∈ waysL s x.p) => waysL_pos ok h
  rw [hsd]
  generalize waysL s x.p = W at hmg hwl hwm
  have e1 : ((W.map sgA).length : Int) = W.length := by rw [List.length_map]
  refine Comp.body' (T := tab) (res := [.tmp 4, .tmp 5]) tab_ok [] Try.func46 rfl (by kernel_rfl) Try.ntmps46 rfl (by simp only [List.length_cons, List.length_nil]; decide) (by simp only [lowL, snL, staL]; rfl) ?_; conv => whnf
  repeat' first | ((with_reducible first | apply XBr.tt | apply XBr.ff | apply Chk.go | apply ChkA.go | apply ChkF.go | apply ChkB.go | apply XArr.pim0 | apply XArr.pim1); conv => whnf) | (with_reducible apply XBr.not) | ((with_reducible apply XBr.dec) <;> (intro h; first | (exfalso; omega) | ((try simp only [List.length_map] at h); first | (exfalso; omega) | (conv => whnf)))) | ((with_reducible first | apply XBr.beq | apply XBr.bne) <;> (intro h; first | (exfalso; omega) | (conv => whnf))) | ((with_reducible refine XInt.i64 (by omega) (by omega) ?_); conv => whnf) | ((with_reducible refine XHold.mk ?_ ?_); (first | omega | rfl | decide | exact ⟨rfl, by decide, rfl⟩ | exact wideI _ | exact widePr _ | exact wideSk _ | (unfold Room; constructor <;> ((try simp) <;> omega)) | exact ⟨rfl, by simp only [List.length_map], by unfold Room; constructor <;> ((try simp) <;> omega)⟩ | exact ⟨by omega, by omega, by unfold Room; constructor <;> ((try simp) <;> omega)⟩); conv => whnf) | ((first | ((with_reducible refine XIx.nat ?_ ?_ ?_); omega; (intro _; rfl)) | ((with_reducible refine XIx.map ?_ ?_ ?_ ?_); omega; omega; (intro _; rfl))); conv => whnf) | (with_reducible apply XAnd.mk) | (exact XSame.mk rfl rfl) | (exact XSame.mk (by first | rfl | (simp only [List.map_append, List.length_append, List.length_map]; done) | (simp only [List.map_append, List.length_append, List.length_map]; rfl)) (by first | rfl | (simp only [List.map_append]; done) | (simp only [List.map_append]; rfl))) | (with_reducible exact trivial) | ((first | (with_reducible refine xdrop_app (by rw [List.length_map]; omega) ?_) | (with_reducible refine XDrop.desk (by assumption) ?_) | (with_reducible first | refine XArr.ints (by omega) (by omega) (by omega) ?_ | refine XArr.intsA (by omega) (by omega) (by omega) ?_) | ((with_reducible first | refine XArr.nats ?_ ?_ ?_ | refine XArr.natsA ?_ ?_ ?_ | refine XArr.ptr ?_ ?_ ?_); omega; omega) | (with_reducible apply XNext.mk) | (refine XCall.ret hs ?_) | (refine XCall.ret hst ?_)); conv => whnf) | ((with_reducible apply XBr.mk') <;> (intro h; conv => whnf))
  refine Walk.nilcell 0 0 108 rfl rfl ?_
  refine Walk.range (own := []) tab_ok [(4, .sl true []), (5, .int .i64 0), (8, .ptr 0 0)] rfl ⟨rfl, rfl, rfl, trivial⟩ ?_
  intro fn
  refine XCall.inl (T := tab) (res := []) tab_ok [] Try.func135 rfl (by kernel_rfl) Try.ntmps135 rfl (by simp only [List.length_append, List.length_cons, List.length_nil]; decide) ?_; conv => whnf
  repeat' first | ((with_reducible first | apply XBr.tt | apply XBr.ff | apply Chk.go | apply ChkA.go | apply ChkF.go | apply ChkB.go | apply XArr.pim0 | apply XArr.pim1); conv => whnf) | (with_reducible apply XBr.not) | ((with_reducible apply XBr.dec) <;> (intro h; first | (exfalso; omega) | ((try simp only [List.length_map] at h); first | (exfalso; omega) | (conv => whnf)))) | ((with_reducible first | apply XBr.beq | apply XBr.bne) <;> (intro h; first | (exfalso; omega) | (conv => whnf))) | ((with_reducible refine XInt.i64 (by omega) (by omega) ?_); conv => whnf) | ((with_reducible refine XHold.mk ?_ ?_); (first | omega | rfl | decide | exact ⟨rfl, by decide, rfl⟩ | exact wideI _ | exact widePr _ | exact wideSk _ | (unfold Room; constructor <;> ((try simp) <;> omega)) | exact ⟨rfl, by simp only [List.length_map], by unfold Room; constructor <;> ((try simp) <;> omega)⟩ | exact ⟨by omega, by omega, by unfold Room; constructor <;> ((try simp) <;> omega)⟩); conv => whnf) | ((first | ((with_reducible refine XIx.nat ?_ ?_ ?_); omega; (intro _; rfl)) | ((with_reducible refine XIx.map ?_ ?_ ?_ ?_); omega; omega; (intro _; rfl))); conv => whnf) | (with_reducible apply XAnd.mk) | (exact XSame.mk rfl rfl) | (exact XSame.mk (by first | rfl | (simp only [List.map_append, List.length_append, List.length_map]; done) | (simp only [List.map_append, List.length_append, List.length_map]; rfl)) (by first | rfl | (simp only [List.map_append]; done) | (simp only [List.map_append]; rfl))) | (with_reducible exact trivial) | ((first | (with_reducible refine xdrop_app (by rw [List.length_map]; omega) ?_) | (with_reducible refine XDrop.desk (by assumption) ?_) | (with_reducible first | refine XArr.ints (by omega) (by omega) (by omega) ?_ | refine XArr.intsA (by omega) (by omega) (by omega) ?_) | ((with_reducible first | refine XArr.nats ?_ ?_ ?_ | refine XArr.natsA ?_ ?_ ?_ | refine XArr.ptr ?_ ?_ ?_); omega; omega)); conv => whnf) | (apply Walk.drawN (id := 0) tab_ok mixed_ok [] [] (hsU _) [_, _, _, _, _, _, _, _, _] (by kernel_rfl) rfl) | ((first | (with_reducible apply XNext.mk) | (refine XDrop.dskF ?_) | (refine XGetM.mk' hmg ?_)); conv => whnf) | ((with_reducible apply XBr.mk') <;> (intro h; conv => whnf))
  refine Walk.loopGKL tab_ok [] _ [(0, _), (1, _), (2, _), (13, _), (14, _)] ⟨rfl, rfl, rfl, rfl, rfl, trivial⟩ (fun k : Nat => k ≤ W.length) (fun k => [(15, natA k)]) (fun lp k => [.cells [.gr 1 ((W.take k).filter fun t => !(afterS s x t).isEmpty).length], .grow 108 ((W.take k).filter fun t => !(afterS s x t).isEmpty).isEmpty (((W.take k).filter fun t => !(afterS s x t).isEmpty).map sgA), .raw (.deferred (some [])), lp]) (fun k => W.length - k) 0 (Nat.zero_le _) rfl ⟨rfl, trivial⟩ ?_ (fun _ _ => (show (4 : Nat) ≤ 4 from Nat.le_refl 4)) ?_
  · intro k _
    refine ⟨fun z hz => ?_, fun z hz => ?_⟩
    · show z.low 4 = true
      simp only [List.mem_cons, List.not_mem_nil, or_false] at hz
      rcases hz with rfl | rfl | rfl | rfl <;> first | rfl | exact lowSg _
    · show z.2.low 4 = true
      simp only [List.cons_append, List.nil_append, List.mem_cons, List.not_mem_nil, or_false] at hz
      rcases hz with rfl | rfl | rfl | rfl | rfl | rfl <;> first | rfl | exact lowSg _ | (simp only [AV.low, lowL, dskFL]; rfl)
  intro k hk
  have hnx : k < W.length → (W.take (k + 1)).filter (fun t => !(afterS s x t).isEmpty) = (W.take k).filter (fun t => !(afterS s x t).isEmpty) ++ if (!(afterS s x (W.getD k default)).isEmpty) = true then [W.getD k default] else [] := fun h => by
    rw [take_next h, List.filter_append]
    congr 1
    by_cases e : (!(afterS s x (W.getD k default)).isEmpty) = true
    · rw [if_pos e, List.filter_cons, if_pos e]; rfl
    · rw [if_neg e, List.filter_cons, if_neg e]; rfl
  have hend : k = W.length → (W.take k).filter (fun t => !(afterS s x t).isEmpty) = W.filter fun t => !(afterS s x t).isEmpty := fun h => by rw [h, List.take_length]
  have hlen : ((W.take k).filter fun t => !(afterS s x t).isEmpty).length ≤ k := Nat.le_trans (List.length_filter_le _ _) (by rw [List.length_take]; omega)
  generalize (W.take k).filter (fun t => !(afterS s x t).isEmpty) = R at hnx hend hlen
  have hRl : (R.map sgA).length = R.length := List.length_map _
  conv => whnf
  by_cases hlt : k < W.length
  · have hw := hwm _ (getD_mem (d := default) hlt)
    have hfa := fafter_c s ok x hx (W.getD k default) (by omega) (by omega)
    have hnx := hnx hlt
    cases haf : afterS s x (W.getD k default) with
    | nil =>
      rw [haf] at hfa hnx
      have e0 : (([] : List AV).length : Int) = 0 := rfl
      have hfa' : Comp Try.prog 136 [dskFA s, staA x, sgA (W.getD k default)] (.sl true []) := hfa
      have hx' : (W.take (k + 1)).filter (fun t => !(afterS s x t).isEmpty) = R := by rw [hnx]; simp
      repeat' first | ((with_reducible first | apply XBr.tt | apply XBr.ff | apply Chk.go | apply ChkA.go | apply ChkF.go | apply ChkB.go | apply XArr.pim0 | apply XArr.pim1); conv => whnf) | (with_reducible apply XBr.not) | ((with_reducible apply XBr.dec) <;> (intro h; first | (exfalso; omega) | ((try simp only [List.length_map] at h); first | (exfalso; omega) | (conv => whnf)))) | ((with_reducible first | apply XBr.beq | apply XBr.bne) <;> (intro h; first | (exfalso; omega) | (conv => whnf))) | ((with_reducible refine XInt.i64 (by omega) (by omega) ?_); conv => whnf) | ((with_reducible refine XHold.mk ?_ ?_); (first | omega | rfl | decide | exact ⟨rfl, by decide, rfl⟩ | exact wideI _ | exact widePr _ | exact wideSk _ | (unfold Room; constructor <;> ((try simp) <;> omega)) | exact ⟨rfl, by simp only [List.length_map], by unfold Room; constructor <;> ((try simp) <;> omega)⟩ | exact ⟨by omega, by omega, by unfold Room; constructor <;> ((try simp) <;> omega)⟩); conv => whnf) | ((first | ((with_reducible refine XIx.nat ?_ ?_ ?_); omega; (intro _; rfl)) | ((with_reducible refine XIx.map ?_ ?_ ?_ ?_); omega; omega; (intro _; rfl))); conv => whnf) | (with_reducible apply XAnd.mk) | (exact XSame.mk rfl rfl) | (exact XSame.mk (by first | rfl | (simp only [List.map_append, List.length_append, List.length_map]; done) | (simp only [List.map_append, List.length_append, List.length_map]; rfl)) (by first | rfl | (simp only [List.map_append]; done) | (simp only [List.map_append]; rfl))) | (with_reducible exact trivial) | ((first | (with_reducible refine xdrop_app (by rw [List.length_map]; omega) ?_) | (with_reducible refine XDrop.desk (by assumption) ?_) | (with_reducible first | refine XArr.ints (by omega) (by omega) (by omega) ?_ | refine XArr.intsA (by omega) (by omega) (by omega) ?_) | ((with_reducible first | refine XArr.nats ?_ ?_ ?_ | refine XArr.natsA ?_ ?_ ?_ | refine XArr.ptr ?_ ?_ ?_); omega; omega)); conv => whnf) | (apply Walk.drawN (id := 0) tab_ok mixed_ok [] [] (hsU _) [_, _, _, _, _, _, _, _, _] (by kernel_rfl) rfl) | ((first | (with_reducible apply XNext.mk) | (refine XCall.ret hfa' ?_)); conv => whnf) | ((with_reducible apply XBr.mk') <;> (intro h; conv => whnf))
      refine XAgainG.go (k + 1) [.cells (sgA (W.getD k default)).cells] (by omega) (by omega) ?_ ⟨rfl, rfl, rfl, rfl, rfl, rfl, trivial⟩
      show [Blk.cells [.gr 1 ((W.take (k + 1)).filter fun t => !(afterS s x t).isEmpty).length], .grow _ ((W.take (k + 1)).filter fun t => !(afterS s x t).isEmpty).isEmpty (((W.take (k + 1)).filter fun t => !(afterS s x t).isEmpty).map sgA), _, _] ++ _ = _
      rw [hx']; rfl
    | cons y0 L =>
      rw [haf] at hfa hnx
      have e2 : (((y0 :: L).map staA).length : Int) = L.length + 1 := by rw [List.length_map, List.length_cons]; omega
      have hfa' : Comp Try.prog 136 [dskFA s, staA x, sgA (W.getD k default)] (.sl false ((y0 :: L).map staA)) := hfa
      have hx' : (W.take (k + 1)).filter (fun t => !(afterS s x t).isEmpty) = R ++ [W.getD k default] := by rw [hnx]; simp
      repeat' first | ((with_reducible first | apply XBr.tt | apply XBr.ff | apply Chk.go | apply ChkA.go | apply ChkF.go | apply ChkB.go | apply XArr.pim0 | apply XArr.pim1); conv => whnf) | (with_reducible apply XBr.not) | ((with_reducible apply XBr.dec) <;> (intro h; first | (exfalso; omega) | ((try simp only [List.length_map] at h); first | (exfalso; omega) | (conv => whnf)))) | ((with_reducible first | apply XBr.beq | apply XBr.bne) <;> (intro h; first | (exfalso; omega) | (conv => whnf))) | ((with_reducible refine XInt.i64 (by omega) (by omega) ?_); conv => whnf) | ((with_reducible refine XHold.mk ?_ ?_); (first | omega | rfl | decide | exact ⟨rfl, by decide, rfl⟩ | exact wideI _ | exact widePr _ | exact wideSk _ | (unfold Room; constructor <;> ((try simp) <;> omega)) | exact ⟨rfl, by simp only [List.length_map], by unfold Room; constructor <;> ((try simp) <;> omega)⟩ | exact ⟨by omega, by omega, by unfold Room; constructor <;> ((try simp) <;> omega)⟩); conv => whnf) | ((first | ((with_reducible refine XIx.nat ?_ ?_ ?_); omega; (intro _; rfl)) | ((with_reducible refine XIx.map ?_ ?_ ?_ ?_); omega; omega; (intro _; rfl))); conv => whnf) | (with_reducible apply XAnd.mk) | (exact XSame.mk rfl rfl) | (exact XSame.mk (by first | rfl | (simp only [List.map_append, List.length_append, List.length_map]; done) | (simp only [List.map_append, List.length_append, List.length_map]; rfl)) (by first | rfl | (simp only [List.map_append]; done) | (simp only [List.map_append]; rfl))) | (with_reducible exact trivial) | ((first | (with_reducible refine xdrop_app (by rw [List.length_map]; omega) ?_) | (with_reducible refine XDrop.desk (by assumption) ?_) | (with_reducible first | refine XArr.ints (by omega) (by omega) (by omega) ?_ | refine XArr.intsA (by omega) (by omega) (by omega) ?_) | ((with_reducible first | refine XArr.nats ?_ ?_ ?_ | refine XArr.natsA ?_ ?_ ?_ | refine XArr.ptr ?_ ?_ ?_); omega; omega)); conv => whnf) | (apply Walk.drawN (id := 0) tab_ok mixed_ok [] [] (hsU _) [_, _, _, _, _, _, _, _, _] (by kernel_rfl) rfl) | ((first | (with_reducible apply XNext.mk) | (refine XCall.ret hfa' ?_) | ((refine XYield.go (own := []) tab_ok rfl rfl (by decide) ?_); intro ρ)); conv => whnf) | ((refine XHold.mk ⟨rfl, hRl, by unfold Room; constructor <;> ((try simp) <;> omega)⟩ ?_); conv => whnf) | ((with_reducible apply XBr.mk') <;> (intro h; conv => whnf))
      refine XAgainG.go (k + 1) [.cells (sgA (W.getD k default)).cells, .cells (sgA (W.getD k default)).cells] (by omega) (by omega) ?_ ⟨rfl, rfl, rfl, rfl, rfl, rfl, trivial⟩
      show [Blk.cells [.gr 1 ((W.take (k + 1)).filter fun t => !(afterS s x t).isEmpty).length], .grow _ ((W.take (k + 1)).filter fun t => !(afterS s x t).isEmpty).isEmpty (((W.take (k + 1)).filter fun t => !(afterS s x t).isEmpty).map sgA), _, _] ++ _ = _
      rw [hx', List.length_append, isEmpty_app, List.map_append]; rfl
  obtain rfl : k = W.length := by omega
  rw [← hend rfl]
  repeat' first | ((with_reducible first | apply XBr.tt | apply XBr.ff | apply Chk.go | apply ChkA.go | apply ChkF.go | apply ChkB.go | apply XArr.pim0 | apply XArr.pim1); conv => whnf) | (with_reducible apply XBr.not) | ((with_reducible apply XBr.dec) <;> (intro h; first | (exfalso; omega) | ((try simp only [List.length_map] at h); first | (exfalso; omega) | (conv => whnf)))) | ((with_reducible first | apply XBr.beq | apply XBr.bne) <;> (intro h; first | (exfalso; omega) | (conv => whnf))) | ((with_reducible refine XInt.i64 (by omega) (by omega) ?_); conv => whnf) | ((with_reducible refine XHold.mk ?_ ?_); (first | omega | rfl | decide | exact ⟨rfl, by decide, rfl⟩ | exact wideI _ | exact widePr _ | exact wideSk _ | (unfold Room; constructor <;> ((try simp) <;> omega)) | exact ⟨rfl, by simp only [List.length_map], by unfold Room; constructor <;> ((try simp) <;> omega)⟩ | exact ⟨by omega, by omega, by unfold Room; constructor <;> ((try simp) <;> omega)⟩); conv => whnf) | ((first | ((with_reducible refine XIx.nat ?_ ?_ ?_); omega; (intro _; rfl)) | ((with_reducible refine XIx.map ?_ ?_ ?_ ?_); omega; omega; (intro _; rfl))); conv => whnf) | (with_reducible apply XAnd.mk) | (exact XSame.mk rfl rfl) | (exact XSame.mk (by first | rfl | (simp only [List.map_append, List.length_append, List.length_map]; done) | (simp only [List.map_append, List.length_append, List.length_map]; rfl)) (by first | rfl | (simp only [List.map_append]; done) | (simp only [List.map_append]; rfl))) | (with_reducible exact trivial) | ((first | (with_reducible refine xdrop_app (by rw [List.length_map]; omega) ?_) | (with_reducible refine XDrop.desk (by assumption) ?_) | (with_reducible first | refine XArr.ints (by omega) (by omega) (by omega) ?_ | refine XArr.intsA (by omega) (by omega) (by omega) ?_) | ((with_reducible first | refine XArr.nats ?_ ?_ ?_ | refine XArr.natsA ?_ ?_ ?_ | refine XArr.ptr ?_ ?_ ?_); omega; omega)); conv => whnf) | (apply Walk.drawN (id := 0) tab_ok mixed_ok [] [] (hsU _) [_, _, _, _, _, _, _, _, _] (by kernel_rfl) rfl) | ((with_reducible apply XNext.mk); conv => whnf) | ((with_reducible apply XBr.mk') <;> (intro h; conv => whnf))
  exact ⟨Froz.tup (.cons (Froz.grow rfl hRl (lowSg _)) (.cons (.low rfl) .nil))⟩
end GA
end

section
namespace GA
open Go Go.RowKit Go.Proofs
set_option pp.deepTerms true
set_option maxRecDepth 8000
set_option linter.unusedVariables false
set_option linter.unusedSimpArgs false

theorem wTab_at (s : Sn) (ok : SnOk s) {p m l : Nat} (hv : vld s ⟨p, m, l⟩) : (wTab s)[976 * p + 16 * m + l]? = some (.int .i64 (worthZ s ⟨p, m, l⟩)) := by
  have p2 := ok.p2; have l2 := ok.l2; have hal := allN_lt ok
  obtain ⟨v1, v2, v3⟩ := hv
  dsimp only at v1 v2 v3
  have h := vec_at (f := AV.int .i64) (W := 4880) (F := G3 (wNum s (vldB s))) (j := 976 * p + 16 * m + l) (by omega)
  rw [G3_at _ (by omega) (by omega), wNum_at (vldB_iff.2 ⟨v1, v2, v3⟩)] at h
  exact h
theorem wof_c (s : Sn) (ok : SnOk s) (x : Sta) (hv : vld s x) : Comp Try.prog 43 [wsA s, staA x] (.int .i64 (worthZ s x)) := by
  have p2 := ok.p2; have l2 := ok.l2; have hal := allN_lt ok
  have ha := wTab_at s ok hv
  obtain ⟨v1, v2, v3⟩ := hv
  refine Comp.body (T := tab) (res := [.tmp 4]) tab_ok [] Try.func43 rfl (by kernel_rfl) Try.ntmps43 rfl (by simp only [List.length_cons, List.length_nil]; decide) (by simp only [lowL, worsL, staL]; rfl) ?_; conv => whnf
  repeat' first | (with_reducible apply XAnd.mk) | ((first | (with_reducible apply Chk.go) | (with_reducible apply ChkA.go) | (with_reducible apply ChkF.go) | (with_reducible apply ChkB.go)); conv => whnf) | (exact XSame.mk rfl rfl) | (with_reducible exact trivial) | (apply Walk.drawN (id := 1) tab_ok mixed_ok [] [] (hsU _) [_, _, _, _, _, _, _, _, _, _, _, _, _] (by kernel_rfl) rfl) | ((first | (with_reducible apply XNext.mk) | (refine XArr.at _ (by omega) (by omega) (by rw [List.getElem?_drop, List.getElem?_drop, show (x.p : Int).toNat * 976 + ((x.m : Int).toNat * 16 + (x.l : Int).toNat * 1) = 976 * x.p + 16 * x.m + x.l by omega]; exact ha) ?_) | (refine XArr.pim (by omega) (by omega) ?_)); conv => whnf) | fail
  exact ⟨.low rfl⟩
def turnB (s : Sn) (l b : Nat) : Bool := worthZ s ⟨s.bed.toNat, s.last.toNat - b, l⟩ != -1
def turnN (s : Sn) (l : Nat) : Int := match (List.range (s.last.toNat + 1)).find? (turnB s l) with | some b => s.last - b | none => -1
theorem find_range_none {f : Nat → Bool} {n : Nat} (h : ∀ j, j < n → f j = false) : (List.range n).find? f = none := by
  rw [List.find?_eq_none]
  intro j hj
  rw [h j (List.mem_range.1 hj)]; simp
theorem find_range_some {f : Nat → Bool} : ∀ {n k : Nat}, k < n → f k = true → (∀ j, j < k → f j = false) → (List.range n).find? f = some k
  | n + 1, k, hk, h1, h2 => by
    rw [List.range_succ, List.find?_append]
    by_cases e : k < n
    · rw [find_range_some e h1 h2]; rfl
    · obtain rfl : k = n := by omega
      rw [find_range_none h2]
      rw [Option.none_or, List.find?_cons, h1]
theorem fTurn_ok (s : Sn) (hb : SnB s) (l : Nat) (ok : SnOk s) (h1 : 1 ≤ l) (h2 : l ≤ allN s) : Comp Try.prog 11 [snA s, natA l] (.tup [.int .i64 (if turnN s l = -1 then 0 else turnN s l), .int .i64 (if turnN s l = -1 then 6 else 0)]) := by
  have ho := fdOpened_c s hb ok
  have hst := fset_c s ok l
  have p2 := ok.p2; have l1 := ok.l1; have l2 := ok.l2; have b1 := ok.b1; have hal := allN_lt ok
  rw [inZ_iff.2 ⟨by omega, by omega⟩] at hst
  have hw := worths_c s ok
  obtain ⟨L0, hL0⟩ : ∃ L0 : Nat, s.last = L0 := ⟨s.last.toNat, by omega⟩
  refine Comp.body (T := tab) (res := [.tmp 4, .tmp 5]) tab_ok [] Try.func11 rfl (by kernel_rfl) Try.ntmps11 rfl (by simp only [List.length_cons, List.length_nil]; decide) (by simp only [lowL, AV.low, snL]; rfl) ?_; conv => whnf
  skip
  refine Walk.scope tab_ok [] ?_
  conv => whnf
  repeat' first | ((with_reducible apply XBr.tt); conv => whnf) | (with_reducible apply XBr.not) | ((with_reducible apply XBr.bne) <;> (intro h; first | (exfalso; omega) | (conv => whnf))) | ((first | (refine XCall.ret ho ?_) | (refine XCall.ret hst ?_) | (refine XCall.ret hw ?_)); conv => whnf) | fail
  refine Walk.label ?_
  conv => whnf
  repeat' first | ((with_reducible refine XInt.i64 (by omega) (by omega) ?_); conv => whnf) | fail
  refine Walk.loopK tab_ok [] [(1, _), (2, _), (4, _), (5, _), (8, _), (29, _)] ⟨rfl, rfl, rfl, rfl, rfl, rfl, trivial⟩ (fun k : Nat => k ≤ L0 + 1 ∧ ∀ j, j < k → turnB s l j = false) (fun k => [(9, .int .i64 (-1)), (30, natA k)]) (fun _ => []) (fun k => L0 + 1 - k) 0 ⟨Nat.zero_le _, fun j hj => by omega⟩ rfl ⟨rfl, rfl, trivial⟩ ?_
  rintro k ⟨hk, hs⟩
  conv => whnf
  by_cases hlt : k < L0 + 1
  · have hof := wof_c s ok ⟨s.bed.toNat, s.last.toNat - k, l⟩ ⟨by show ((s.bed.toNat : Nat) : Int) < s.places; omega, by show ((s.last.toNat - k : Nat) : Int) ≤ s.last; omega, h2⟩
    have hst2 : staA ⟨s.bed.toNat, s.last.toNat - k, l⟩ = .agg [.int .i64 s.bed, .int .i64 (s.last - k), natA l] := by
      unfold staA natA; dsimp only; rw [show ((s.last.toNat - k : Nat) : Int) = s.last - k by omega, Int.toNat_of_nonneg b1.1]
    rw [hst2] at hof
    have htb : turnB s l k = (worthZ s ⟨s.bed.toNat, s.last.toNat - k, l⟩ != -1) := rfl
    generalize worthZ s ⟨s.bed.toNat, s.last.toNat - k, l⟩ = v at hof htb
    repeat' first | ((with_reducible apply XBr.dec) <;> (intro h; first | (exfalso; omega) | ((try simp only [List.length_map] at h); first | (exfalso; omega) | (conv => whnf)))) | ((with_reducible apply XBr.beq) <;> (intro h; first | (exfalso; omega) | (conv => whnf))) | ((with_reducible apply XBr.bne) <;> (intro h; first | (exfalso; omega) | (conv => whnf))) | ((first | (with_reducible refine XInt.i64 (by omega) (by omega) ?_) | (refine XCall.ret hof ?_)); conv => whnf) | fail
    · have hf : turnN s l = s.last - k := by
        unfold turnN
        rw [find_range_some (k := k) (by omega) (by rw [htb]; simpa using (show v ≠ -1 by assumption)) hs]
      rw [hf, if_neg (by omega), if_neg (by omega)]
      exact ⟨.low rfl⟩
    · refine XAgain.go (k + 1) ⟨by omega, fun j hj => ?_⟩ (by omega) rfl ⟨rfl, rfl, rfl, rfl, rfl, rfl, rfl, rfl, trivial⟩
      by_cases e : j = k
      · subst e; rw [htb]; simpa using (show v = -1 by assumption)
      · exact hs j (by omega)
  obtain rfl : k = L0 + 1 := by omega
  have hf : turnN s l = -1 := by
    unfold turnN
    rw [find_range_none (fun j hj => hs j (by omega))]
  rw [hf, if_pos rfl, if_pos rfl]
  clear hs
  repeat' first | ((with_reducible apply XBr.dec) <;> (intro h; first | (exfalso; omega) | ((try simp only [List.length_map] at h); first | (exfalso; omega) | (conv => whnf)))) | ((with_reducible apply XBr.beq) <;> (intro h; first | (exfalso; omega) | (conv => whnf))) | fail
  exact ⟨.low rfl⟩
theorem index_sg (nl : Bool) (xs : List (Int × Int)) (t : Int × Int) (hx : xs.length ≤ 100000) : Comp Try.prog 137 [.sl nl (xs.map sgA), sgA t] (.int .i64 (idxR (fun y => t == y) xs)) := by
  have e1 : ((xs.map sgA).length : Int) = xs.length := by rw [List.length_map]
  refine Comp.body (T := tab) (res := [.tmp 4]) tab_ok [] Try.func137 rfl (by kernel_rfl) Try.ntmps137 rfl (by simp only [List.length_cons, List.length_nil]; decide) (by simp only [lowL, AV.low, lowSg, sgL]; rfl) ?_; conv => whnf
  skip
  refine Walk.loopK tab_ok [] [(0, _), (3, _), (7, _)] ⟨rfl, rfl, rfl, trivial⟩ (fun i : Nat => i ≤ xs.length ∧ ∀ j, j < i → (t == xs.getD j default) = false) (fun i => [(8, natA i)]) (fun _ => []) (fun i => xs.length - i) 0 ⟨Nat.zero_le _, fun j hj => by omega⟩ rfl ⟨rfl, trivial⟩ ?_
  rintro i ⟨hi, hs⟩
  conv => whnf
  by_cases hlt : i < xs.length
  · have hbe : ((t.1 == (xs.getD i default).1) && (t.2 == (xs.getD i default).2)) = (t == xs.getD i default) := rfl
    have hbe2 : (([t.1, t.2] : List Int) == [(xs.getD i default).1, (xs.getD i default).2]) = (t == xs.getD i default) := by rw [← hbe]; show (_ && (_ && true)) = _; rw [Bool.and_true]
    cases hb : t == xs.getD i default with
    | true =>
      rw [hb] at hbe2
      repeat' first | ((with_reducible apply XBr.tt); conv => whnf) | ((with_reducible apply XBr.dec) <;> (intro h; first | (exfalso; omega) | ((try simp only [List.length_map] at h); first | (exfalso; omega) | (conv => whnf)))) | (((with_reducible refine XIx.nat ?_ ?_ ?_); omega; (intro _; rfl)); conv => whnf) | (with_reducible apply XAnd.mk) | ((first | (with_reducible apply Chk.go) | (with_reducible apply ChkA.go) | (with_reducible apply ChkF.go) | (with_reducible apply ChkB.go)); conv => whnf) | (exact XSame.mk rfl rfl) | (with_reducible exact trivial) | (apply Walk.drawN (id := 4) tab_ok mixed_ok [] [] (hsU _) [_, _, _, _, _, _] (by kernel_rfl) rfl) | ((with_reducible apply XNext.mk); conv => whnf) | ((refine XEqA.mk ⟨[_, _], [_, _], rfl, rfl, rfl, rfl, ?_⟩); exact XSame.mk (congrArg AV.bool hbe2) rfl) | fail
      refine XOut.int ?_
      simp only [idxR, find_some (d := default) (i := i) hlt hb hs]
    | false =>
      rw [hb] at hbe2
      repeat' first | ((with_reducible apply XBr.ff); conv => whnf) | ((with_reducible apply XBr.dec) <;> (intro h; first | (exfalso; omega) | ((try simp only [List.length_map] at h); first | (exfalso; omega) | (conv => whnf)))) | ((first | (with_reducible refine XInt.i64 (by omega) (by omega) ?_) | ((with_reducible refine XIx.nat ?_ ?_ ?_); omega; (intro _; rfl))); conv => whnf) | (with_reducible apply XAnd.mk) | ((first | (with_reducible apply Chk.go) | (with_reducible apply ChkA.go) | (with_reducible apply ChkF.go) | (with_reducible apply ChkB.go)); conv => whnf) | (exact XSame.mk rfl rfl) | (with_reducible exact trivial) | (apply Walk.drawN (id := 4) tab_ok mixed_ok [] [] (hsU _) [_, _, _, _, _, _] (by kernel_rfl) rfl) | ((with_reducible apply XNext.mk); conv => whnf) | ((refine XEqA.mk ⟨[_, _], [_, _], rfl, rfl, rfl, rfl, ?_⟩); exact XSame.mk (congrArg AV.bool hbe2) rfl) | fail
      refine XAgain.go (i + 1) ⟨by omega, fun j hj => ?_⟩ (by omega) rfl ⟨rfl, rfl, rfl, rfl, trivial⟩
      by_cases e : j = i
      · subst e; exact hb
      · exact hs j (by omega)
  obtain rfl : i = xs.length := by omega
  have hf := find_none (d := default) hs
  clear hs
  repeat' first | ((with_reducible apply XBr.dec) <;> (intro h; first | (exfalso; omega) | ((try simp only [List.length_map] at h); first | (exfalso; omega) | (conv => whnf)))) | fail
  refine XOut.int ?_
  simp only [idxR, hf]
theorem contains_sg (nl : Bool) (xs : List (Int × Int)) (t : Int × Int) (hx : xs.length ≤ 100000) : Comp Try.prog 87 [.sl nl (xs.map sgA), sgA t] (.bool (xs.contains t)) := by
  have hi := index_sg nl xs t hx
  have hc : decide (0 ≤ idxR (fun y => t == y) xs) = xs.contains t := by
    rw [Bool.eq_iff_iff, decide_eq_true_eq, idxR_pos, List.any_eq_true, List.contains_iff_mem]
    constructor
    · rintro ⟨y, hy, e⟩; rw [beq_iff_eq] at e; subst e; exact hy
    · intro h; exact ⟨t, h, by simp⟩
  generalize idxR (fun y => t == y) xs = v at hi hc
  refine Comp.body (T := tab) (res := [.tmp 4]) tab_ok [] Try.func87 rfl (by kernel_rfl) Try.ntmps87 rfl (by simp only [List.length_cons, List.length_nil]; decide) (by simp only [lowL, AV.low, lowSg, sgL]; rfl) ?_; conv => whnf
  repeat' first | ((refine XCall.ret hi ?_); conv => whnf) | fail
  exact XOut.bool hc
def fixS (s : Sn) : Nat → Nat → Nat → Nat → List (Int × Int) → Option (Nat × Nat × Nat × Nat)
  | p, m, a, w, [] => some (p, m, a, w)
  | p, m, a, w, t :: l => if (waysL s p).contains t = true ∧ (m : Int) + t.2 ≤ s.last then
      fixS s t.1.toNat ((m : Int) + t.2).toNat (a &&& drN s t.1.toNat ((m : Int) + t.2).toNat) (if (p : Int) = s.bed ∧ t.1 = p then w + 1 else w) l else none
def fixR (s : Sn) (m : Int) (l : List (Int × Int)) : Nat × Nat :=
  match fixS s s.home.toNat m.toNat (drN s s.home.toNat m.toNat) 0 l with
  | some (p, _, a, w) => (if (p : Int) = s.home then a else 0, w)
  | none => (0, 0)
theorem fFixed_ok (s : Sn) (hb : SnB s) (ok : SnOk s) (m0 : Nat) (hm0 : (m0 : Int) ≤ s.last) (nl : Bool) (l : List (Int × Int)) (hl : l.length ≤ 100000) : Comp Try.prog 47 [snA s, natA m0, .sl nl (l.map sgA)] (.tup [natA (fixR s m0 l).1, natA (fixR s m0 l).2, .int .i64 (if fixS s s.home.toNat m0 (drN s s.home.toNat m0) 0 l = none then 8 else 0)]) := by
  have p1 := ok.p1; have p2 := ok.p2; have l1 := ok.l1; have l2 := ok.l2; have w1 := ok.w1; have h1 := ok.h1
  have ho := fdOpened_c s hb ok
  have hmn := fminute_c s m0
  rw [inZ_iff.2 ⟨by omega, hm0⟩] at hmn
  have e1 : ((l.map sgA).length : Int) = l.length := by rw [List.length_map]
  obtain ⟨h0, hh0⟩ : ∃ h0 : Nat, s.home = h0 := ⟨s.home.toNat, by omega⟩
  have hfr : fixR s m0 l = match fixS s h0 m0 (drN s h0 m0) 0 l with | some (p, _, a, w) => (if (p : Int) = s.home then a else 0, w) | none => (0, 0) := by unfold fixR; rw [hh0, Int.toNat_natCast, Int.toNat_natCast]
  rw [show s.home.toNat = h0 by omega]
  refine Comp.body (T := tab) (res := [.tmp 6, .tmp 7, .tmp 8]) tab_ok [] Try.func47 rfl (by kernel_rfl) Try.ntmps47 rfl (by simp only [List.length_cons, List.length_nil]; decide) (by simp only [lowL, AV.low, snL, lowSg]; rfl) ?_; conv => whnf
  repeat' first | ((with_reducible apply XBr.tt); conv => whnf) | (with_reducible apply XBr.not) | ((with_reducible apply XBr.bne) <;> (intro h; first | (exfalso; omega) | (conv => whnf))) | ((first | (refine XCall.ret ho ?_) | (refine XCall.ret hmn ?_) | (refine XArr.dryP h0 hh0 (by omega) ?_) | (refine XArr.dryM m0 rfl (by omega) (by omega) ?_)); conv => whnf) | fail
  refine Walk.loopGK tab_ok [] [(3, _), (9, _), (37, _), (38, _)] ⟨rfl, rfl, rfl, rfl, trivial⟩ (fun g : Nat × Nat × Nat × Nat × Nat => g.1 ≤ l.length ∧ (g.2.1 : Int) < s.places ∧ (g.2.2.1 : Int) ≤ s.last ∧ g.2.2.2.1 < 16 ∧ g.2.2.2.2 ≤ g.1 ∧ fixS s h0 m0 (drN s h0 m0) 0 l = fixS s g.2.1 g.2.2.1 g.2.2.2.1 g.2.2.2.2 (l.drop g.1)) (fun g => [(1, natA g.2.2.1), (6, natA g.2.2.2.1), (7, natA g.2.2.2.2), (8, .int .i64 0), (10, natA g.2.1), (39, natA g.1)]) (fun _ => []) (fun g => l.length - g.1) (0, h0, m0, drN s h0 m0, 0) ⟨Nat.zero_le _, by dsimp only; omega, hm0, drN_lt ok _ _, Nat.le_refl _, rfl⟩ rfl ⟨rfl, rfl, rfl, rfl, congrArg (fun z => some (AV.int .i64 z)) hh0, rfl, trivial⟩ ?_ (fun _ _ => Nat.le_refl _) ?_
  · intro g _
    refine ⟨by simp, fun z hz => ?_⟩
    simp only [List.cons_append, List.nil_append, List.mem_cons, List.not_mem_nil, or_false] at hz
    rcases hz with rfl | rfl | rfl | rfl | rfl | rfl | rfl | rfl | rfl | rfl <;> first | rfl | exact snCL s | exact dskFL s | exact lowSg _
  rintro ⟨k, p, m, a, w⟩ ⟨hk, hp, hm, ha, hw, hs⟩
  dsimp only at hk hp hm ha hw hs ⊢
  conv => whnf
  by_cases hlt : k < l.length
  · rw [drop_next hlt, fixS] at hs
    have hct := contains_sg false (waysL s p) (l.getD k default) (by
      have h := waysK_len s p s.places.toNat
      have h2 : s.places.toNat * (1 + s.ways.length) ≤ 5 * 11 := Nat.mul_le_mul (by omega) (by omega)
      show (waysK s p s.places.toNat).length ≤ 100000
      omega)
    have hmg : mget (p : Int) ((keyF s).zip ((esF s s.places.toNat).map (·.2))) = some (.sl false ((waysL s p).map sgA)) := by
      unfold keyF; rw [zip_fs]; exact esF_get s _ _ (by omega)
    cases hc : (waysL s p).contains (l.getD k default) with
    | false =>
      rw [hc] at hct hs
      rw [if_neg (by simp)] at hs
      repeat' first | ((first | (with_reducible apply XBr.tt) | (with_reducible apply XBr.ff)); conv => whnf) | (with_reducible apply XBr.not) | ((with_reducible apply XBr.dec) <;> (intro h; first | (exfalso; omega) | ((try simp only [List.length_map] at h); first | (exfalso; omega) | (conv => whnf)))) | (((with_reducible refine XIx.nat ?_ ?_ ?_); omega; (intro _; rfl)); conv => whnf) | (with_reducible apply XAnd.mk) | ((first | (with_reducible apply Chk.go) | (with_reducible apply ChkA.go) | (with_reducible apply ChkF.go) | (with_reducible apply ChkB.go)); conv => whnf) | (exact XSame.mk rfl rfl) | (with_reducible exact trivial) | (apply Walk.drawN (id := 11) tab_ok mixed_ok [] [] (hsU _) [_, _, _, _, _, _, _, _, _, _, _, _, _, _, _, _, _, _] (by kernel_rfl) rfl) | ((first | (with_reducible apply XNext.mk) | (refine XDrop.dskF ?_) | (refine XGetM.mk' hmg ?_) | (refine XCall.ret hct ?_)); conv => whnf) | fail
      rw [hfr, hs]
      exact ⟨.low rfl⟩
    | true =>
      rw [hc] at hct hs
      have hwy := waysL_pos ok (List.contains_iff_mem.1 hc)
      by_cases hle : (m : Int) + (l.getD k default).2 ≤ s.last
      · rw [if_pos ⟨rfl, hle⟩] at hs
        obtain ⟨q, hq⟩ : ∃ q : Nat, (l.getD k default).1 = q := ⟨(l.getD k default).1.toNat, by omega⟩
        obtain ⟨m', hm'⟩ : ∃ m' : Nat, (m : Int) + (l.getD k default).2 = m' := ⟨((m : Int) + (l.getD k default).2).toNat, by omega⟩
        rw [hm', Int.toNat_natCast, hq, Int.toNat_natCast] at hs
        have hand : iand .i64 (a : Int) (drN s q m' : Int) = ((a &&& drN s q m' : Nat) : Int) := iand_nat (by omega) (by have := drN_lt ok q m'; omega)
        have hal : a &&& drN s q m' ≤ a := Nat.and_le_left
        by_cases c1 : (p : Int) = s.bed
        · by_cases c2 : (l.getD k default).1 = (p : Int)
          · rw [if_pos ⟨c1, by omega⟩] at hs
            repeat' first | ((with_reducible apply XBr.tt); conv => whnf) | (with_reducible apply XBr.not) | ((with_reducible apply XBr.dec) <;> (intro h; first | (exfalso; omega) | ((try simp only [List.length_map] at h); first | (exfalso; omega) | (conv => whnf)))) | ((with_reducible apply XBr.beq) <;> (intro h; first | (exfalso; omega) | (conv => whnf))) | ((first | (with_reducible refine XInt.i64 (by omega) (by omega) ?_) | ((with_reducible refine XIx.nat ?_ ?_ ?_); omega; (intro _; rfl))); conv => whnf) | (with_reducible apply XAnd.mk) | ((first | (with_reducible apply Chk.go) | (with_reducible apply ChkA.go) | (with_reducible apply ChkF.go) | (with_reducible apply ChkB.go)); conv => whnf) | (exact XSame.mk rfl rfl) | (with_reducible exact trivial) | (apply Walk.drawN (id := 11) tab_ok mixed_ok [] [] (hsU _) [_, _, _, _, _, _, _, _, _, _, _, _, _, _, _, _, _, _] (by kernel_rfl) rfl) | (apply Walk.drawN (id := 15) tab_ok mixed_ok [] [] (hsU _) [_, _, _, _, _, _, _, _] (by kernel_rfl) rfl) | ((first | (with_reducible apply XNext.mk) | (refine XDrop.dskF ?_) | (refine XGetM.mk' hmg ?_) | (refine XCall.ret hct ?_) | (refine XArr.dryP q hq (by omega) ?_) | (refine XArr.dryM m' hm' (by omega) (by omega) ?_)); conv => whnf) | fail
            exact XAgainG.go (k + 1, q, m', a &&& drN s q m', w + 1) [.cells (sgA (l.getD k default)).cells] ⟨by dsimp only; omega, by dsimp only; omega, by dsimp only; omega, by dsimp only; omega, by dsimp only; omega, hs⟩ (by dsimp only; omega) rfl ⟨rfl, rfl, rfl, rfl, congrArg (fun z => some (AV.int .i64 z)) hm', congrArg (fun z => some (AV.int .i64 z)) hand, rfl, rfl, congrArg (fun z => some (AV.int .i64 z)) hq, rfl, trivial⟩
          · rw [if_neg (fun h => c2 (by omega))] at hs
            repeat' first | ((with_reducible apply XBr.tt); conv => whnf) | (with_reducible apply XBr.not) | ((with_reducible apply XBr.dec) <;> (intro h; first | (exfalso; omega) | ((try simp only [List.length_map] at h); first | (exfalso; omega) | (conv => whnf)))) | ((with_reducible apply XBr.beq) <;> (intro h; first | (exfalso; omega) | (conv => whnf))) | ((first | (with_reducible refine XInt.i64 (by omega) (by omega) ?_) | ((with_reducible refine XIx.nat ?_ ?_ ?_); omega; (intro _; rfl))); conv => whnf) | (with_reducible apply XAnd.mk) | ((first | (with_reducible apply Chk.go) | (with_reducible apply ChkA.go) | (with_reducible apply ChkF.go) | (with_reducible apply ChkB.go)); conv => whnf) | (exact XSame.mk rfl rfl) | (with_reducible exact trivial) | (apply Walk.drawN (id := 11) tab_ok mixed_ok [] [] (hsU _) [_, _, _, _, _, _, _, _, _, _, _, _, _, _, _, _, _, _] (by kernel_rfl) rfl) | (apply Walk.drawN (id := 15) tab_ok mixed_ok [] [] (hsU _) [_, _, _, _, _, _, _, _] (by kernel_rfl) rfl) | ((first | (with_reducible apply XNext.mk) | (refine XDrop.dskF ?_) | (refine XGetM.mk' hmg ?_) | (refine XCall.ret hct ?_) | (refine XArr.dryP q hq (by omega) ?_) | (refine XArr.dryM m' hm' (by omega) (by omega) ?_)); conv => whnf) | fail
            exact XAgainG.go (k + 1, q, m', a &&& drN s q m', w) [.cells (sgA (l.getD k default)).cells] ⟨by dsimp only; omega, by dsimp only; omega, by dsimp only; omega, by dsimp only; omega, by dsimp only; omega, hs⟩ (by dsimp only; omega) rfl ⟨rfl, rfl, rfl, rfl, congrArg (fun z => some (AV.int .i64 z)) hm', congrArg (fun z => some (AV.int .i64 z)) hand, rfl, rfl, congrArg (fun z => some (AV.int .i64 z)) hq, rfl, trivial⟩
        · rw [if_neg (fun h => c1 h.1)] at hs
          repeat' first | ((first | (with_reducible apply XBr.tt) | (with_reducible apply XBr.ff)); conv => whnf) | (with_reducible apply XBr.not) | ((with_reducible apply XBr.dec) <;> (intro h; first | (exfalso; omega) | ((try simp only [List.length_map] at h); first | (exfalso; omega) | (conv => whnf)))) | ((with_reducible apply XBr.beq) <;> (intro h; first | (exfalso; omega) | (conv => whnf))) | ((first | (with_reducible refine XInt.i64 (by omega) (by omega) ?_) | ((with_reducible refine XIx.nat ?_ ?_ ?_); omega; (intro _; rfl))); conv => whnf) | (with_reducible apply XAnd.mk) | ((first | (with_reducible apply Chk.go) | (with_reducible apply ChkA.go) | (with_reducible apply ChkF.go) | (with_reducible apply ChkB.go)); conv => whnf) | (exact XSame.mk rfl rfl) | (with_reducible exact trivial) | (apply Walk.drawN (id := 11) tab_ok mixed_ok [] [] (hsU _) [_, _, _, _, _, _, _, _, _, _, _, _, _, _, _, _, _, _] (by kernel_rfl) rfl) | (apply Walk.drawN (id := 15) tab_ok mixed_ok [] [] (hsU _) [_, _, _, _, _, _, _, _] (by kernel_rfl) rfl) | ((first | (with_reducible apply XNext.mk) | (refine XDrop.dskF ?_) | (refine XGetM.mk' hmg ?_) | (refine XCall.ret hct ?_) | (refine XArr.dryP q hq (by omega) ?_) | (refine XArr.dryM m' hm' (by omega) (by omega) ?_)); conv => whnf) | fail
          exact XAgainG.go (k + 1, q, m', a &&& drN s q m', w) [.cells (sgA (l.getD k default)).cells] ⟨by dsimp only; omega, by dsimp only; omega, by dsimp only; omega, by dsimp only; omega, by dsimp only; omega, hs⟩ (by dsimp only; omega) rfl ⟨rfl, rfl, rfl, rfl, congrArg (fun z => some (AV.int .i64 z)) hm', congrArg (fun z => some (AV.int .i64 z)) hand, rfl, rfl, congrArg (fun z => some (AV.int .i64 z)) hq, rfl, trivial⟩
      · rw [if_neg (fun h => hle h.2)] at hs
        repeat' first | ((with_reducible apply XBr.tt); conv => whnf) | (with_reducible apply XBr.not) | ((with_reducible apply XBr.dec) <;> (intro h; first | (exfalso; omega) | ((try simp only [List.length_map] at h); first | (exfalso; omega) | (conv => whnf)))) | ((first | (with_reducible refine XInt.i64 (by omega) (by omega) ?_) | ((with_reducible refine XIx.nat ?_ ?_ ?_); omega; (intro _; rfl))); conv => whnf) | (with_reducible apply XAnd.mk) | ((first | (with_reducible apply Chk.go) | (with_reducible apply ChkA.go) | (with_reducible apply ChkF.go) | (with_reducible apply ChkB.go)); conv => whnf) | (exact XSame.mk rfl rfl) | (with_reducible exact trivial) | (apply Walk.drawN (id := 11) tab_ok mixed_ok [] [] (hsU _) [_, _, _, _, _, _, _, _, _, _, _, _, _, _, _, _, _, _] (by kernel_rfl) rfl) | ((first | (with_reducible apply XNext.mk) | (refine XDrop.dskF ?_) | (refine XGetM.mk' hmg ?_) | (refine XCall.ret hct ?_)); conv => whnf) | fail
        rw [hfr, hs]
        exact ⟨.low rfl⟩
  obtain rfl : k = l.length := by omega
  rw [List.drop_length, fixS] at hs
  have hfr2 : fixR s m0 l = (if (p : Int) = s.home then a else 0, w) := by rw [hfr, hs]
  by_cases hph : (p : Int) = s.home
  · rw [if_pos hph] at hfr2
    repeat' first | ((with_reducible apply XBr.dec) <;> (intro h; first | (exfalso; omega) | ((try simp only [List.length_map] at h); first | (exfalso; omega) | (conv => whnf)))) | ((with_reducible apply XBr.bne) <;> (intro h; first | (exfalso; omega) | (conv => whnf))) | fail
    rw [hfr2, hs]
    exact ⟨.low rfl⟩
  · rw [if_neg hph] at hfr2
    repeat' first | ((with_reducible apply XBr.dec) <;> (intro h; first | (exfalso; omega) | ((try simp only [List.length_map] at h); first | (exfalso; omega) | (conv => whnf)))) | ((with_reducible apply XBr.bne) <;> (intro h; first | (exfalso; omega) | (conv => whnf))) | fail
    rw [hfr2, hs]
    exact ⟨.low rfl⟩
end GA
end

section
namespace GA
open Go Go.RowKit Go.Proofs
set_option pp.deepTerms true
set_option maxRecDepth 8000
set_option linter.unusedVariables false
set_option linter.unusedSimpArgs false

abbrev Rs := Bool × List Rw
def rsT (r : Rs) : AV := .sl r.1 (r.2.map rwA)
theorem rsTL {n : Nat} (r : Rs) : (rsT r).low n = true := lowRk (n := n) r.2
theorem lowRs {n : Nat} (xs : List Rs) : lowL n (xs.map rsT) = true := lowL_map rsTL xs
def tbN (T : List Rs) (y : Sta) : Int := (((T.getD y.p default).2.getD y.m default).2).getD y.l default
structure TbOk (s : Sn) (T : List Rs) : Prop where
  a : (T.length : Int) = s.places
  b : ∀ p, p < T.length → ((T.getD p default).2.length : Int) = s.last + 1
  c : ∀ p m, p < T.length → m < (T.getD p default).2.length → ((T.getD p default).2.getD m default).2.length = allN s + 1
  d : ∀ p m l, p < T.length → m < (T.getD p default).2.length → l < ((T.getD p default).2.getD m default).2.length → -1 ≤ tbN T ⟨p, m, l⟩ ∧ tbN T ⟨p, m, l⟩ ≤ 60
theorem TbOk.at {s : Sn} {T : List Rs} (h : TbOk s T) {y : Sta} (hy : vld s y) : y.p < T.length ∧ y.m < (T.getD y.p default).2.length ∧ y.l < ((T.getD y.p default).2.getD y.m default).2.length ∧ -1 ≤ tbN T y ∧ tbN T y ≤ 60 := by
  obtain ⟨v1, v2, v3⟩ := hy
  have h1 := h.a
  have h2 : y.p < T.length := by omega
  have h3 := h.b _ h2
  have h4 : y.m < (T.getD y.p default).2.length := by omega
  have h5 := h.c _ _ h2 h4
  have h6 : y.l < ((T.getD y.p default).2.getD y.m default).2.length := by omega
  exact ⟨h2, h4, h6, h.d _ _ _ h2 h4 h6⟩
theorem number_c (s : Sn) (nt : Bool) (T : List Rs) (h : TbOk s T) (y : Sta) (hy : vld s y) : Comp Try.prog 97 [staA y, .pim [.sl nt (T.map rsT)]] (.int .i64 (tbN T y)) := by
  obtain ⟨h1, h2, h3, h4, h5⟩ := h.at hy
  have e1 : ((T.map rsT).length : Int) = T.length := by rw [List.length_map]
  have e2 : (((T.getD y.p default).2.map rwA).length : Int) = (T.getD y.p default).2.length := by rw [List.length_map]
  have e3 : ((ints ((T.getD y.p default).2.getD y.m default).2).length : Int) = ((T.getD y.p default).2.getD y.m default).2.length := by rw [ints_len]
  refine Comp.body (T := tab) (res := [.tmp 3]) tab_ok [] Try.func97 rfl (by kernel_rfl) Try.ntmps97 rfl (by simp only [List.length_cons, List.length_nil]; decide) (by simp only [lowL, AV.low, staL, lowRs]; rfl) ?_; conv => whnf
  repeat' first | ((with_reducible first | apply XBr.tt | apply XBr.ff | apply Chk.go | apply ChkA.go | apply ChkF.go | apply ChkB.go | apply XArr.pim0 | apply XArr.pim1); conv => whnf) | (with_reducible apply XBr.not) | ((with_reducible apply XBr.dec) <;> (intro h; first | (exfalso; omega) | ((try simp only [List.length_map] at h); first | (exfalso; omega) | (conv => whnf)))) | ((with_reducible first | apply XBr.beq | apply XBr.bne) <;> (intro h; first | (exfalso; omega) | (conv => whnf))) | ((with_reducible refine XInt.i64 (by omega) (by omega) ?_); conv => whnf) | ((with_reducible refine XHold.mk ?_ ?_); (first | omega | rfl | decide | exact ⟨rfl, by decide, rfl⟩ | exact wideI _ | exact widePr _ | exact wideSk _ | (unfold Room; constructor <;> ((try simp) <;> omega)) | exact ⟨rfl, by simp only [List.length_map], by unfold Room; constructor <;> ((try simp) <;> omega)⟩ | exact ⟨by omega, by omega, by unfold Room; constructor <;> ((try simp) <;> omega)⟩); conv => whnf) | ((first | ((with_reducible refine XIx.nat ?_ ?_ ?_); omega; (intro _; rfl)) | ((with_reducible refine XIx.map ?_ ?_ ?_ ?_); omega; omega; (intro _; rfl))); conv => whnf) | (with_reducible apply XAnd.mk) | (exact XSame.mk rfl rfl) | (exact XSame.mk (by first | rfl | (simp only [List.map_append, List.length_append, List.length_map]; done) | (simp only [List.map_append, List.length_append, List.length_map]; rfl)) (by first | rfl | (simp only [List.map_append]; done) | (simp only [List.map_append]; rfl))) | (with_reducible exact trivial) | ((first | (with_reducible refine xdrop_app (by rw [List.length_map]; omega) ?_) | (with_reducible refine XDrop.desk (by assumption) ?_) | (with_reducible first | refine XArr.ints (by omega) (by omega) (by omega) ?_ | refine XArr.intsA (by omega) (by omega) (by omega) ?_) | ((with_reducible first | refine XArr.nats ?_ ?_ ?_ | refine XArr.natsA ?_ ?_ ?_ | refine XArr.ptr ?_ ?_ ?_); omega; omega)); conv => whnf) | (apply Walk.drawN (id := 1) tab_ok mixed_ok [] [] (hsU _) [_, _, _, _, _, _, _, _, _, _, _, _, _, _] (by kernel_rfl) rfl) | ((with_reducible apply XNext.mk); conv => whnf) | ((with_reducible apply XBr.mk') <;> (intro h; conv => whnf))
  exact XOut.int rfl
theorem gained_tb (nt : Bool) (T : List Rs) (s : Sn) (f : Sta → Int) (x : Sta) (t : Int × Int) (nl : Bool) (y0 : Sta) (l : List Sta) (hl : l.length ≤ 100) (hc : lowL 0 [(AV.fn 97 [.pim [.sl nt (T.map rsT)]])] = true) (hn : ∀ y ∈ y0 :: l, Comp Try.prog 97 [staA y, .pim [.sl nt (T.map rsT)]] (.int .i64 (f y))) (hb : ∀ y ∈ y0 :: l, -1 ≤ f y ∧ f y ≤ 100) :
    Comp Try.prog 134 [dskFA s, staA x, sgA t, .sl nl ((y0 :: l).map staA), (AV.fn 97 [.pim [.sl nt (T.map rsT)]])] (.int .i64 (gainL s f x t (y0 :: l))) := by
  have hb0 := hb y0 List.mem_cons_self
  have e1 : (((y0 :: l).map staA).length : Int) = l.length + 1 := by rw [List.length_map, List.length_cons]; omega
  have hsl : List.take (((((y0 :: l).map staA).length : Nat) : Int) - 1).toNat (List.drop (Int.toNat 1) ((y0 :: l).map staA)) = l.map staA := by
    rw [e1, show ((l.length : Int) + 1 - 1).toNat = l.length by omega]
    show List.take l.length (l.map staA) = _
    rw [← List.map_take, List.take_length]
  have e2 : ((y0 :: l).length : Int) = l.length + 1 := by rw [List.length_cons]; omega
  have e3 : ((l.map staA).length : Int) = l.length := by rw [List.length_map]
  have hn0 := hn y0 List.mem_cons_self
  refine Comp.body (T := tab) (res := [.tmp 10]) tab_ok [] Try.func134 rfl (by kernel_rfl) Try.ntmps134 rfl (by simp only [List.length_cons, List.length_nil]; decide) (by simp only [lowL, AV.low, dskFL, staL, lowSta, Bool.and_true, Bool.true_and] at hc ⊢; first | exact hc | (rw [hc]; rfl)) ?_; conv => whnf
  repeat' first | ((with_reducible first | apply XBr.tt | apply XBr.ff | apply Chk.go | apply ChkA.go | apply ChkF.go | apply ChkB.go | apply XArr.pim0 | apply XArr.pim1); conv => whnf) | (with_reducible apply XBr.not) | ((with_reducible apply XBr.dec) <;> (intro h; first | (exfalso; omega) | ((try simp only [List.length_map] at h); first | (exfalso; omega) | (conv => whnf)))) | ((with_reducible first | apply XBr.beq | apply XBr.bne) <;> (intro h; first | (exfalso; omega) | (conv => whnf))) | ((with_reducible refine XInt.i64 (by omega) (by omega) ?_); conv => whnf) | ((with_reducible refine XHold.mk ?_ ?_); (first | omega | rfl | decide | exact ⟨rfl, by decide, rfl⟩ | exact wideI _ | exact widePr _ | exact wideSk _ | (unfold Room; constructor <;> ((try simp) <;> omega)) | exact ⟨rfl, by simp only [List.length_map], by unfold Room; constructor <;> ((try simp) <;> omega)⟩ | exact ⟨by omega, by omega, by unfold Room; constructor <;> ((try simp) <;> omega)⟩); conv => whnf) | ((first | ((with_reducible refine XIx.nat ?_ ?_ ?_); omega; (intro _; rfl)) | ((with_reducible refine XIx.map ?_ ?_ ?_ ?_); omega; omega; (intro _; rfl))); conv => whnf) | (with_reducible apply XAnd.mk) | (exact XSame.mk rfl rfl) | (exact XSame.mk (by first | rfl | (simp only [List.map_append, List.length_append, List.length_map]; done) | (simp only [List.map_append, List.length_append, List.length_map]; rfl)) (by first | rfl | (simp only [List.map_append]; done) | (simp only [List.map_append]; rfl))) | (with_reducible exact trivial) | ((first | (with_reducible refine xdrop_app (by rw [List.length_map]; omega) ?_) | (with_reducible refine XDrop.desk (by assumption) ?_) | (with_reducible first | refine XArr.ints (by omega) (by omega) (by omega) ?_ | refine XArr.intsA (by omega) (by omega) (by omega) ?_) | ((with_reducible first | refine XArr.nats ?_ ?_ ?_ | refine XArr.natsA ?_ ?_ ?_ | refine XArr.ptr ?_ ?_ ?_); omega; omega)); conv => whnf) | (apply Walk.drawN (id := 7) tab_ok mixed_ok [] [] (hsU _) [_, _, _, _, _, _, _, _, _, _, _, _, _, _, _, _, _, _, _, _, _, _] (by kernel_rfl) rfl) | ((first | (with_reducible apply XNext.mk) | (refine XCall.ret hn0 ?_)); conv => whnf) | (rw [hsl]; conv => whnf) | ((refine XHold.mk ⟨by omega, by omega, by omega, .inr (wideSta _)⟩ ?_); conv => whnf) | ((with_reducible apply XBr.mk') <;> (intro h; conv => whnf))
  refine Walk.loopGK tab_ok [] [(0, _), (4, _), (6, _), (7, _), (10, _), (20, _), (21, _)] ⟨rfl, rfl, rfl, rfl, rfl, rfl, rfl, trivial⟩ (fun k : Nat => k ≤ l.length) (fun k => [(11, .int .i64 ((l.take k).foldl (fun n y => min n (f y)) (f y0))), (22, natA k)]) (fun _ => []) (fun k => l.length - k) 0 (Nat.zero_le _) rfl ⟨rfl, rfl, trivial⟩ ?_ (fun _ _ => (show (0 : Nat) ≤ 0 from Nat.le_refl 0)) ?_
  · intro k _
    refine ⟨by simp, fun z hz => ?_⟩
    simp only [List.cons_append, List.nil_append, List.mem_cons, List.not_mem_nil, or_false] at hz
    rcases hz with rfl | rfl | rfl | rfl | rfl | rfl | rfl | rfl | rfl <;> first | rfl | exact dskFL s | exact lowSta _ | (simp only [lowL, Bool.and_true] at hc; exact hc)
  intro k hk
  have hfx : k < l.length → (l.take (k + 1)).foldl (fun n y => min n (f y)) (f y0) = min ((l.take k).foldl (fun n y => min n (f y)) (f y0)) (f (l.getD k default)) := fun h => by rw [take_next h, List.foldl_append]; rfl
  have hfend : k = l.length → (l.take k).foldl (fun n y => min n (f y)) (f y0) = minL f (y0 :: l) := fun h => by rw [h, List.take_length]; rfl
  generalize (l.take k).foldl (fun n y => min n (f y)) (f y0) = v at hfx hfend
  conv => whnf
  by_cases hlt : k < l.length
  · have hy : l.getD k default ∈ y0 :: l := List.mem_cons_of_mem _ (getD_mem hlt)
    have hls := fleast_c v false [f (l.getD k default)] (by simp)
    have hny := hn _ hy
    repeat' first | ((with_reducible first | apply XBr.tt | apply XBr.ff | apply Chk.go | apply ChkA.go | apply ChkF.go | apply ChkB.go | apply XArr.pim0 | apply XArr.pim1); conv => whnf) | (with_reducible apply XBr.not) | ((with_reducible apply XBr.dec) <;> (intro h; first | (exfalso; omega) | ((try simp only [List.length_map] at h); first | (exfalso; omega) | (conv => whnf)))) | ((with_reducible first | apply XBr.beq | apply XBr.bne) <;> (intro h; first | (exfalso; omega) | (conv => whnf))) | ((with_reducible refine XInt.i64 (by omega) (by omega) ?_); conv => whnf) | ((with_reducible refine XHold.mk ?_ ?_); (first | omega | rfl | decide | exact ⟨rfl, by decide, rfl⟩ | exact wideI _ | exact widePr _ | exact wideSk _ | (unfold Room; constructor <;> ((try simp) <;> omega)) | exact ⟨rfl, by simp only [List.length_map], by unfold Room; constructor <;> ((try simp) <;> omega)⟩ | exact ⟨by omega, by omega, by unfold Room; constructor <;> ((try simp) <;> omega)⟩); conv => whnf) | ((first | ((with_reducible refine XIx.nat ?_ ?_ ?_); omega; (intro _; rfl)) | ((with_reducible refine XIx.map ?_ ?_ ?_ ?_); omega; omega; (intro _; rfl))); conv => whnf) | (with_reducible apply XAnd.mk) | (exact XSame.mk rfl rfl) | (exact XSame.mk (by first | rfl | (simp only [List.map_append, List.length_append, List.length_map]; done) | (simp only [List.map_append, List.length_append, List.length_map]; rfl)) (by first | rfl | (simp only [List.map_append]; done) | (simp only [List.map_append]; rfl))) | (with_reducible exact trivial) | ((first | (with_reducible refine xdrop_app (by rw [List.length_map]; omega) ?_) | (with_reducible refine XDrop.desk (by assumption) ?_) | (with_reducible first | refine XArr.ints (by omega) (by omega) (by omega) ?_ | refine XArr.intsA (by omega) (by omega) (by omega) ?_) | ((with_reducible first | refine XArr.nats ?_ ?_ ?_ | refine XArr.natsA ?_ ?_ ?_ | refine XArr.ptr ?_ ?_ ?_); omega; omega)); conv => whnf) | (apply Walk.drawN (id := 7) tab_ok mixed_ok [] [] (hsU _) [_, _, _, _, _, _, _, _, _, _, _, _, _, _, _, _, _, _, _, _, _, _] (by kernel_rfl) rfl) | ((first | (with_reducible apply XNext.mk) | (refine XCall.ret hny ?_) | (refine XCall.ret hls ?_)); conv => whnf) | ((with_reducible apply XBr.mk') <;> (intro h; conv => whnf))
    refine XAgainG.go (k + 1) [.cells (stC (l.getD k default))] (by omega) (by omega) rfl ⟨rfl, rfl, rfl, rfl, rfl, rfl, rfl, (by rw [hfx hlt]; rfl), rfl, trivial⟩
  obtain rfl : k = l.length := by omega
  have hv := hfend rfl
  have hge : -1 ≤ minL f (y0 :: l) := minL_ge (List.cons_ne_nil _ _) fun y hy => (hb y hy).1
  have hle : minL f (y0 :: l) ≤ f y0 := (minL_mem (f := f) (List.cons_ne_nil y0 l)).2 y0 List.mem_cons_self
  have hgl : gainL s f x t (y0 :: l) = if v ≠ -1 ∧ (x.p : Int) = s.bed ∧ t.1 = s.bed then v + 1 else v := by unfold gainL; rw [← hv]
  rw [← hv] at hge hle
  rw [hgl]
  by_cases c1 : v = -1
  · rw [if_neg (fun h => h.1 c1)]
    repeat' first | ((with_reducible first | apply XBr.tt | apply XBr.ff | apply Chk.go | apply ChkA.go | apply ChkF.go | apply ChkB.go | apply XArr.pim0 | apply XArr.pim1); conv => whnf) | (with_reducible apply XBr.not) | ((with_reducible apply XBr.dec) <;> (intro h; first | (exfalso; omega) | ((try simp only [List.length_map] at h); first | (exfalso; omega) | (conv => whnf)))) | ((with_reducible first | apply XBr.beq | apply XBr.bne) <;> (intro h; first | (exfalso; omega) | (conv => whnf))) | ((with_reducible refine XInt.i64 (by omega) (by omega) ?_); conv => whnf) | ((with_reducible refine XHold.mk ?_ ?_); (first | omega | rfl | decide | exact ⟨rfl, by decide, rfl⟩ | exact wideI _ | exact widePr _ | exact wideSk _ | (unfold Room; constructor <;> ((try simp) <;> omega)) | exact ⟨rfl, by simp only [List.length_map], by unfold Room; constructor <;> ((try simp) <;> omega)⟩ | exact ⟨by omega, by omega, by unfold Room; constructor <;> ((try simp) <;> omega)⟩); conv => whnf) | ((first | ((with_reducible refine XIx.nat ?_ ?_ ?_); omega; (intro _; rfl)) | ((with_reducible refine XIx.map ?_ ?_ ?_ ?_); omega; omega; (intro _; rfl))); conv => whnf) | (with_reducible apply XAnd.mk) | (exact XSame.mk rfl rfl) | (exact XSame.mk (by first | rfl | (simp only [List.map_append, List.length_append, List.length_map]; done) | (simp only [List.map_append, List.length_append, List.length_map]; rfl)) (by first | rfl | (simp only [List.map_append]; done) | (simp only [List.map_append]; rfl))) | (with_reducible exact trivial) | ((first | (with_reducible refine xdrop_app (by rw [List.length_map]; omega) ?_) | (with_reducible refine XDrop.desk (by assumption) ?_) | (with_reducible first | refine XArr.ints (by omega) (by omega) (by omega) ?_ | refine XArr.intsA (by omega) (by omega) (by omega) ?_) | ((with_reducible first | refine XArr.nats ?_ ?_ ?_ | refine XArr.natsA ?_ ?_ ?_ | refine XArr.ptr ?_ ?_ ?_); omega; omega)); conv => whnf) | (apply Walk.drawN (id := 7) tab_ok mixed_ok [] [] (hsU _) [_, _, _, _, _, _, _, _, _, _, _, _, _, _, _, _, _, _, _, _, _, _] (by kernel_rfl) rfl) | ((with_reducible apply XNext.mk); conv => whnf) | ((with_reducible apply XBr.mk') <;> (intro h; conv => whnf))
    exact XOut.int rfl
  by_cases c2 : (x.p : Int) = s.bed
  · by_cases c3 : t.1 = s.bed
    · rw [if_pos ⟨c1, c2, c3⟩]
      repeat' first | ((with_reducible first | apply XBr.tt | apply XBr.ff | apply Chk.go | apply ChkA.go | apply ChkF.go | apply ChkB.go | apply XArr.pim0 | apply XArr.pim1); conv => whnf) | (with_reducible apply XBr.not) | ((with_reducible apply XBr.dec) <;> (intro h; first | (exfalso; omega) | ((try simp only [List.length_map] at h); first | (exfalso; omega) | (conv => whnf)))) | ((with_reducible first | apply XBr.beq | apply XBr.bne) <;> (intro h; first | (exfalso; omega) | (conv => whnf))) | ((with_reducible refine XInt.i64 (by omega) (by omega) ?_); conv => whnf) | ((with_reducible refine XHold.mk ?_ ?_); (first | omega | rfl | decide | exact ⟨rfl, by decide, rfl⟩ | exact wideI _ | exact widePr _ | exact wideSk _ | (unfold Room; constructor <;> ((try simp) <;> omega)) | exact ⟨rfl, by simp only [List.length_map], by unfold Room; constructor <;> ((try simp) <;> omega)⟩ | exact ⟨by omega, by omega, by unfold Room; constructor <;> ((try simp) <;> omega)⟩); conv => whnf) | ((first | ((with_reducible refine XIx.nat ?_ ?_ ?_); omega; (intro _; rfl)) | ((with_reducible refine XIx.map ?_ ?_ ?_ ?_); omega; omega; (intro _; rfl))); conv => whnf) | (with_reducible apply XAnd.mk) | (exact XSame.mk rfl rfl) | (exact XSame.mk (by first | rfl | (simp only [List.map_append, List.length_append, List.length_map]; done) | (simp only [List.map_append, List.length_append, List.length_map]; rfl)) (by first | rfl | (simp only [List.map_append]; done) | (simp only [List.map_append]; rfl))) | (with_reducible exact trivial) | ((first | (with_reducible refine xdrop_app (by rw [List.length_map]; omega) ?_) | (with_reducible refine XDrop.desk (by assumption) ?_) | (with_reducible first | refine XArr.ints (by omega) (by omega) (by omega) ?_ | refine XArr.intsA (by omega) (by omega) (by omega) ?_) | ((with_reducible first | refine XArr.nats ?_ ?_ ?_ | refine XArr.natsA ?_ ?_ ?_ | refine XArr.ptr ?_ ?_ ?_); omega; omega)); conv => whnf) | (apply Walk.drawN (id := 7) tab_ok mixed_ok [] [] (hsU _) [_, _, _, _, _, _, _, _, _, _, _, _, _, _, _, _, _, _, _, _, _, _] (by kernel_rfl) rfl) | ((with_reducible apply XNext.mk); conv => whnf) | ((with_reducible apply XBr.mk') <;> (intro h; conv => whnf))
      exact XOut.int rfl
    · rw [if_neg (fun h => c3 h.2.2)]
      repeat' first | ((with_reducible first | apply XBr.tt | apply XBr.ff | apply Chk.go | apply ChkA.go | apply ChkF.go | apply ChkB.go | apply XArr.pim0 | apply XArr.pim1); conv => whnf) | (with_reducible apply XBr.not) | ((with_reducible apply XBr.dec) <;> (intro h; first | (exfalso; omega) | ((try simp only [List.length_map] at h); first | (exfalso; omega) | (conv => whnf)))) | ((with_reducible first | apply XBr.beq | apply XBr.bne) <;> (intro h; first | (exfalso; omega) | (conv => whnf))) | ((with_reducible refine XInt.i64 (by omega) (by omega) ?_); conv => whnf) | ((with_reducible refine XHold.mk ?_ ?_); (first | omega | rfl | decide | exact ⟨rfl, by decide, rfl⟩ | exact wideI _ | exact widePr _ | exact wideSk _ | (unfold Room; constructor <;> ((try simp) <;> omega)) | exact ⟨rfl, by simp only [List.length_map], by unfold Room; constructor <;> ((try simp) <;> omega)⟩ | exact ⟨by omega, by omega, by unfold Room; constructor <;> ((try simp) <;> omega)⟩); conv => whnf) | ((first | ((with_reducible refine XIx.nat ?_ ?_ ?_); omega; (intro _; rfl)) | ((with_reducible refine XIx.map ?_ ?_ ?_ ?_); omega; omega; (intro _; rfl))); conv => whnf) | (with_reducible apply XAnd.mk) | (exact XSame.mk rfl rfl) | (exact XSame.mk (by first | rfl | (simp only [List.map_append, List.length_append, List.length_map]; done) | (simp only [List.map_append, List.length_append, List.length_map]; rfl)) (by first | rfl | (simp only [List.map_append]; done) | (simp only [List.map_append]; rfl))) | (with_reducible exact trivial) | ((first | (with_reducible refine xdrop_app (by rw [List.length_map]; omega) ?_) | (with_reducible refine XDrop.desk (by assumption) ?_) | (with_reducible first | refine XArr.ints (by omega) (by omega) (by omega) ?_ | refine XArr.intsA (by omega) (by omega) (by omega) ?_) | ((with_reducible first | refine XArr.nats ?_ ?_ ?_ | refine XArr.natsA ?_ ?_ ?_ | refine XArr.ptr ?_ ?_ ?_); omega; omega)); conv => whnf) | (apply Walk.drawN (id := 7) tab_ok mixed_ok [] [] (hsU _) [_, _, _, _, _, _, _, _, _, _, _, _, _, _, _, _, _, _, _, _, _, _] (by kernel_rfl) rfl) | ((with_reducible apply XNext.mk); conv => whnf) | ((with_reducible apply XBr.mk') <;> (intro h; conv => whnf))
      exact XOut.int rfl
  · rw [if_neg (fun h => c2 h.2.1)]
    repeat' first | ((with_reducible first | apply XBr.tt | apply XBr.ff | apply Chk.go | apply ChkA.go | apply ChkF.go | apply ChkB.go | apply XArr.pim0 | apply XArr.pim1); conv => whnf) | (with_reducible apply XBr.not) | ((with_reducible apply XBr.dec) <;> (intro h; first | (exfalso; omega) | ((try simp only [List.length_map] at h); first | (exfalso; omega) | (conv => whnf)))) | ((with_reducible first | apply XBr.beq | apply XBr.bne) <;> (intro h; first | (exfalso; omega) | (conv => whnf))) | ((with_reducible refine XInt.i64 (by omega) (by omega) ?_); conv => whnf) | ((with_reducible refine XHold.mk ?_ ?_); (first | omega | rfl | decide | exact ⟨rfl, by decide, rfl⟩ | exact wideI _ | exact widePr _ | exact wideSk _ | (unfold Room; constructor <;> ((try simp) <;> omega)) | exact ⟨rfl, by simp only [List.length_map], by unfold Room; constructor <;> ((try simp) <;> omega)⟩ | exact ⟨by omega, by omega, by unfold Room; constructor <;> ((try simp) <;> omega)⟩); conv => whnf) | ((first | ((with_reducible refine XIx.nat ?_ ?_ ?_); omega; (intro _; rfl)) | ((with_reducible refine XIx.map ?_ ?_ ?_ ?_); omega; omega; (intro _; rfl))); conv => whnf) | (with_reducible apply XAnd.mk) | (exact XSame.mk rfl rfl) | (exact XSame.mk (by first | rfl | (simp only [List.map_append, List.length_append, List.length_map]; done) | (simp only [List.map_append, List.length_append, List.length_map]; rfl)) (by first | rfl | (simp only [List.map_append]; done) | (simp only [List.map_append]; rfl))) | (with_reducible exact trivial) | ((first | (with_reducible refine xdrop_app (by rw [List.length_map]; omega) ?_) | (with_reducible refine XDrop.desk (by assumption) ?_) | (with_reducible first | refine XArr.ints (by omega) (by omega) (by omega) ?_ | refine XArr.intsA (by omega) (by omega) (by omega) ?_) | ((with_reducible first | refine XArr.nats ?_ ?_ ?_ | refine XArr.natsA ?_ ?_ ?_ | refine XArr.ptr ?_ ?_ ?_); omega; omega)); conv => whnf) | (apply Walk.drawN (id := 7) tab_ok mixed_ok [] [] (hsU _) [_, _, _, _, _, _, _, _, _, _, _, _, _, _, _, _, _, _, _, _, _, _] (by kernel_rfl) rfl) | ((with_reducible apply XNext.mk); conv => whnf) | ((with_reducible apply XBr.mk') <;> (intro h; conv => whnf))
    exact XOut.int rfl
theorem best_tb (nt : Bool) (T : List Rs) (s : Sn) (ok : SnOk s) (f : Sta → Int) (x : Sta) (hx : StOk s x) (hc : lowL 0 [(AV.fn 97 [.pim [.sl nt (T.map rsT)]])] = true) (hn : ∀ t, ∀ y ∈ afterS s x t, Comp Try.prog 97 [staA y, .pim [.sl nt (T.map rsT)]] (.int .i64 (f y))) (hb : ∀ t, ∀ y ∈ afterS s x t, -1 ≤ f y ∧ f y ≤ 100) :
    Comp Try.prog 81 [dskFA s, staA x, (AV.fn 97 [.pim [.sl nt (T.map rsT)]])] (.int .i64 (bestZ s f x)) := by
  have p1 := ok.p1; have p2 := ok.p2; have l1 := ok.l1; have l2 := ok.l2; have w1 := ok.w1
  have x1 := hx.p; have x2 := hx.m; have x3 := hx.l
  have hsf := safe_c s ok x (by omega) (by omega) (by omega)
  cases h1 : safeB s x with
  | false =>
    rw [h1] at hsf
    rw [show bestZ s f x = -1 by unfold bestZ; rw [if_neg (by rw [h1]; simp)]]
    refine Comp.body (T := tab) (res := [.tmp 6]) tab_ok [] Try.func81 rfl (by kernel_rfl) Try.ntmps81 rfl (by simp only [List.length_cons, List.length_nil]; decide) (by simp only [lowL, AV.low, dskFL, staL, lowSta, Bool.and_true, Bool.true_and] at hc ⊢; first | exact hc | (rw [hc]; rfl)) ?_; conv => whnf
    repeat' first | ((with_reducible first | apply XBr.tt | apply XBr.ff | apply Chk.go | apply ChkA.go | apply ChkF.go | apply ChkB.go | apply XArr.pim0 | apply XArr.pim1); conv => whnf) | (with_reducible apply XBr.not) | ((with_reducible apply XBr.dec) <;> (intro h; first | (exfalso; omega) | ((try simp only [List.length_map] at h); first | (exfalso; omega) | (conv => whnf)))) | ((with_reducible first | apply XBr.beq | apply XBr.bne) <;> (intro h; first | (exfalso; omega) | (conv => whnf))) | ((with_reducible refine XInt.i64 (by omega) (by omega) ?_); conv => whnf) | ((with_reducible refine XHold.mk ?_ ?_); (first | omega | rfl | decide | exact ⟨rfl, by decide, rfl⟩ | exact wideI _ | exact widePr _ | exact wideSk _ | (unfold Room; constructor <;> ((try simp) <;> omega)) | exact ⟨rfl, by simp only [List.length_map], by unfold Room; constructor <;> ((try simp) <;> omega)⟩ | exact ⟨by omega, by omega, by unfold Room; constructor <;> ((try simp) <;> omega)⟩); conv => whnf) | ((first | ((with_reducible refine XIx.nat ?_ ?_ ?_); omega; (intro _; rfl)) | ((with_reducible refine XIx.map ?_ ?_ ?_ ?_); omega; omega; (intro _; rfl))); conv => whnf) | (with_reducible apply XAnd.mk) | (exact XSame.mk rfl rfl) | (exact XSame.mk (by first | rfl | (simp only [List.map_append, List.length_append, List.length_map]; done) | (simp only [List.map_append, List.length_append, List.length_map]; rfl)) (by first | rfl | (simp only [List.map_append]; done) | (simp only [List.map_append]; rfl))) | (with_reducible exact trivial) | ((first | (with_reducible refine xdrop_app (by rw [List.length_map]; omega) ?_) | (with_reducible refine XDrop.desk (by assumption) ?_) | (with_reducible first | refine XArr.ints (by omega) (by omega) (by omega) ?_ | refine XArr.intsA (by omega) (by omega) (by omega) ?_) | ((with_reducible first | refine XArr.nats ?_ ?_ ?_ | refine XArr.natsA ?_ ?_ ?_ | refine XArr.ptr ?_ ?_ ?_); omega; omega)); conv => whnf) | (apply Walk.drawN (id := 7) tab_ok mixed_ok [] [8] (hsC [_, _]) [_, _, _, _, _, _, _, _, _] (by kernel_rfl) rfl) | ((first | (with_reducible apply XNext.mk) | (refine XCall.ret hsf ?_)); conv => whnf) | ((with_reducible apply XBr.mk') <;> (intro h; conv => whnf))
    exact XOut.int rfl
  | true =>
    rw [h1] at hsf
    have hmg : mget (x.p : Int) ((keyF s).zip ((esF s s.places.toNat).map (·.2))) = some (.sl false ((waysL s x.p).map sgA)) := by
      unfold keyF; rw [zip_fs]; exact esF_get s _ _ (by omega)
    have hho := fhome_c s x
    have hst := fsteps_c s x
    rw [← bstN_all s f x h1]
    have hwl : (waysL s x.p).length ≤ 55 := by
      have h := waysK_len s x.p s.places.toNat
      have h2 : s.places.toNat * (1 + s.ways.length) ≤ 5 * 11 := Nat.mul_le_mul (by omega) (by omega)
      show (waysK s x.p s.places.toNat).length ≤ 55
      omega
    have hwm := fun t (h : t ∈ waysL s x.p) => waysL_pos ok h
    generalize waysL s x.p = W at hmg hwl hwm
    have e1 : ((W.map sgA).length : Int) = W.length := by rw [List.length_map]
    refine Comp.body' (T := tab) (res := [.tmp 6]) tab_ok [] Try.func81 rfl (by kernel_rfl) Try.ntmps81 rfl (by simp only [List.length_cons, List.length_nil]; decide) (by simp only [lowL, AV.low, dskFL, staL, lowSta, Bool.and_true, Bool.true_and] at hc ⊢; first | exact hc | (rw [hc]; rfl)) ?_; conv => whnf
    repeat' first | ((with_reducible first | apply XBr.tt | apply XBr.ff | apply Chk.go | apply ChkA.go | apply ChkF.go | apply ChkB.go | apply XArr.pim0 | apply XArr.pim1); conv => whnf) | (with_reducible apply XBr.not) | ((with_reducible apply XBr.dec) <;> (intro h; first | (exfalso; omega) | ((try simp only [List.length_map] at h); first | (exfalso; omega) | (conv => whnf)))) | ((with_reducible first | apply XBr.beq | apply XBr.bne) <;> (intro h; first | (exfalso; omega) | (conv => whnf))) | ((with_reducible refine XInt.i64 (by omega) (by omega) ?_); conv => whnf) | ((with_reducible refine XHold.mk ?_ ?_); (first | omega | rfl | decide | exact ⟨rfl, by decide, rfl⟩ | exact wideI _ | exact widePr _ | exact wideSk _ | (unfold Room; constructor <;> ((try simp) <;> omega)) | exact ⟨rfl, by simp only [List.length_map], by unfold Room; constructor <;> ((try simp) <;> omega)⟩ | exact ⟨by omega, by omega, by unfold Room; constructor <;> ((try simp) <;> omega)⟩); conv => whnf) | ((first | ((with_reducible refine XIx.nat ?_ ?_ ?_); omega; (intro _; rfl)) | ((with_reducible refine XIx.map ?_ ?_ ?_ ?_); omega; omega; (intro _; rfl))); conv => whnf) | (with_reducible apply XAnd.mk) | (exact XSame.mk rfl rfl) | (exact XSame.mk (by first | rfl | (simp only [List.map_append, List.length_append, List.length_map]; done) | (simp only [List.map_append, List.length_append, List.length_map]; rfl)) (by first | rfl | (simp only [List.map_append]; done) | (simp only [List.map_append]; rfl))) | (with_reducible exact trivial) | ((first | (with_reducible refine xdrop_app (by rw [List.length_map]; omega) ?_) | (with_reducible refine XDrop.desk (by assumption) ?_) | (with_reducible first | refine XArr.ints (by omega) (by omega) (by omega) ?_ | refine XArr.intsA (by omega) (by omega) (by omega) ?_) | ((with_reducible first | refine XArr.nats ?_ ?_ ?_ | refine XArr.natsA ?_ ?_ ?_ | refine XArr.ptr ?_ ?_ ?_); omega; omega)); conv => whnf) | (apply Walk.drawN (id := 7) tab_ok mixed_ok [] [8] (hsC [_, _]) [_, _, _, _, _, _, _, _, _] (by kernel_rfl) rfl) | ((first | (with_reducible apply XNext.mk) | (refine XCall.ret hsf ?_) | (refine XCall.ret hho ?_) | (refine XCall.ret hst ?_)); conv => whnf) | ((with_reducible apply XBr.mk') <;> (intro h; conv => whnf))
    refine Walk.range (own := []) tab_ok [(3, .pim [dskFA s]), (4, .pim (stC x)), (5, .pim [(AV.fn 97 [.pim [.sl nt (T.map rsT)]])]), (6, .int .i64 0), (7, .ptr 0 0)] rfl ⟨rfl, rfl, rfl, rfl, rfl, trivial⟩ ?_
    intro fn
    refine XCall.inl (T := tab) (res := []) tab_ok [] Try.func135 rfl (by kernel_rfl) Try.ntmps135 rfl (by simp only [List.length_append, List.length_cons, List.length_nil]; decide) ?_; conv => whnf
    repeat' first | ((with_reducible first | apply XBr.tt | apply XBr.ff | apply Chk.go | apply ChkA.go | apply ChkF.go | apply ChkB.go | apply XArr.pim0 | apply XArr.pim1); conv => whnf) | (with_reducible apply XBr.not) | ((with_reducible apply XBr.dec) <;> (intro h; first | (exfalso; omega) | ((try simp only [List.length_map] at h); first | (exfalso; omega) | (conv => whnf)))) | ((with_reducible first | apply XBr.beq | apply XBr.bne) <;> (intro h; first | (exfalso; omega) | (conv => whnf))) | ((with_reducible refine XInt.i64 (by omega) (by omega) ?_); conv => whnf) | ((with_reducible refine XHold.mk ?_ ?_); (first | omega | rfl | decide | exact ⟨rfl, by decide, rfl⟩ | exact wideI _ | exact widePr _ | exact wideSk _ | (unfold Room; constructor <;> ((try simp) <;> omega)) | exact ⟨rfl, by simp only [List.length_map], by unfold Room; constructor <;> ((try simp) <;> omega)⟩ | exact ⟨by omega, by omega, by unfold Room; constructor <;> ((try simp) <;> omega)⟩); conv => whnf) | ((first | ((with_reducible refine XIx.nat ?_ ?_ ?_); omega; (intro _; rfl)) | ((with_reducible refine XIx.map ?_ ?_ ?_ ?_); omega; omega; (intro _; rfl))); conv => whnf) | (with_reducible apply XAnd.mk) | (exact XSame.mk rfl rfl) | (exact XSame.mk (by first | rfl | (simp only [List.map_append, List.length_append, List.length_map]; done) | (simp only [List.map_append, List.length_append, List.length_map]; rfl)) (by first | rfl | (simp only [List.map_append]; done) | (simp only [List.map_append]; rfl))) | (with_reducible exact trivial) | ((first | (with_reducible refine xdrop_app (by rw [List.length_map]; omega) ?_) | (with_reducible refine XDrop.desk (by assumption) ?_) | (with_reducible first | refine XArr.ints (by omega) (by omega) (by omega) ?_ | refine XArr.intsA (by omega) (by omega) (by omega) ?_) | ((with_reducible first | refine XArr.nats ?_ ?_ ?_ | refine XArr.natsA ?_ ?_ ?_ | refine XArr.ptr ?_ ?_ ?_); omega; omega)); conv => whnf) | (apply Walk.drawN (id := 0) tab_ok mixed_ok [] [] (hsU _) [_, _, _, _, _, _, _, _, _] (by kernel_rfl) rfl) | ((first | (with_reducible apply XNext.mk) | (refine XDrop.dskF ?_) | (refine XGetM.mk' hmg ?_)); conv => whnf) | ((with_reducible apply XBr.mk') <;> (intro h; conv => whnf))
    refine Walk.loopGKL tab_ok [] _ [(0, _), (1, _), (2, _), (13, _), (14, _)] ⟨rfl, rfl, rfl, rfl, rfl, trivial⟩ (fun k : Nat => k ≤ W.length) (fun k => [(15, natA k)]) (fun lp k => [.cells [.int .i64 (bstN s f x (W.take k) (homeZ s x))], .raw (.deferred (some [])), lp]) (fun k => W.length - k) 0 (Nat.zero_le _) rfl ⟨rfl, trivial⟩ ?_ (fun _ _ => (show (3 : Nat) ≤ 3 from Nat.le_refl 3)) ?_
    · intro k _
      refine ⟨fun z hz => ?_, fun z hz => ?_⟩
      · show z.low 3 = true
        simp only [List.cons_append, List.nil_append, List.mem_cons, List.not_mem_nil, or_false] at hz
        rcases hz with rfl | rfl | rfl
        · rfl
        · rfl
        · show lowL 3 [AV.pim [dskFA s], AV.pim (stC x), AV.pim [(AV.fn 97 [.pim [.sl nt (T.map rsT)]])], AV.int .i64 0, AV.ptr 0 0] = true
          simp only [lowL, AV.low, dskFL, Bool.and_true, Bool.true_and] at hc ⊢
          first | rfl | (rw [lowL_mono (n := 0) (by omega) hc]; rfl)
      · show z.2.low 3 = true
        simp only [List.cons_append, List.nil_append, List.mem_cons, List.not_mem_nil, or_false] at hz
        rcases hz with rfl | rfl | rfl | rfl | rfl | rfl <;> first | rfl | exact lowSg _ | (simp only [AV.low, lowL, dskFL]; rfl)
    intro k hk
    have hbx : k < W.length → bstN s f x (W.take (k + 1)) (homeZ s x) = if (!(afterS s x (W.getD k default)).isEmpty) = true then max (bstN s f x (W.take k) (homeZ s x)) (gainZ s f x (W.getD k default)) else bstN s f x (W.take k) (homeZ s x) := fun h => by unfold bstN; rw [take_next h, List.foldl_append]; rfl
    have hbend : k = W.length → bstN s f x (W.take k) (homeZ s x) = bstN s f x W (homeZ s x) := fun h => by rw [h, List.take_length]
    generalize bstN s f x (W.take k) (homeZ s x) = v at hbx hbend
    conv => whnf
    by_cases hlt : k < W.length
    · have hw := hwm _ (getD_mem (d := default) hlt)
      have hfa := fafter_c s ok x hx (W.getD k default) (by omega) (by omega)
      have hnk := hn (W.getD k default)
      have hbk := hb (W.getD k default)
      have hgq := gain_eq s f x (W.getD k default)
      have hbx := hbx hlt
      cases haf : afterS s x (W.getD k default) with
      | nil =>
        rw [haf] at hfa hbx
        have e0 : (([] : List AV).length : Int) = 0 := rfl
        have hfa' : Comp Try.prog 136 [dskFA s, staA x, sgA (W.getD k default)] (.sl true []) := hfa
        repeat' first | ((with_reducible first | apply XBr.tt | apply XBr.ff | apply Chk.go | apply ChkA.go | apply ChkF.go | apply ChkB.go | apply XArr.pim0 | apply XArr.pim1); conv => whnf) | (with_reducible apply XBr.not) | ((with_reducible apply XBr.dec) <;> (intro h; first | (exfalso; omega) | ((try simp only [List.length_map] at h); first | (exfalso; omega) | (conv => whnf)))) | ((with_reducible first | apply XBr.beq | apply XBr.bne) <;> (intro h; first | (exfalso; omega) | (conv => whnf))) | ((with_reducible refine XInt.i64 (by omega) (by omega) ?_); conv => whnf) | ((with_reducible refine XHold.mk ?_ ?_); (first | omega | rfl | decide | exact ⟨rfl, by decide, rfl⟩ | exact wideI _ | exact widePr _ | exact wideSk _ | (unfold Room; constructor <;> ((try simp) <;> omega)) | exact ⟨rfl, by simp only [List.length_map], by unfold Room; constructor <;> ((try simp) <;> omega)⟩ | exact ⟨by omega, by omega, by unfold Room; constructor <;> ((try simp) <;> omega)⟩); conv => whnf) | ((first | ((with_reducible refine XIx.nat ?_ ?_ ?_); omega; (intro _; rfl)) | ((with_reducible refine XIx.map ?_ ?_ ?_ ?_); omega; omega; (intro _; rfl))); conv => whnf) | (with_reducible apply XAnd.mk) | (exact XSame.mk rfl rfl) | (exact XSame.mk (by first | rfl | (simp only [List.map_append, List.length_append, List.length_map]; done) | (simp only [List.map_append, List.length_append, List.length_map]; rfl)) (by first | rfl | (simp only [List.map_append]; done) | (simp only [List.map_append]; rfl))) | (with_reducible exact trivial) | ((first | (with_reducible refine xdrop_app (by rw [List.length_map]; omega) ?_) | (with_reducible refine XDrop.desk (by assumption) ?_) | (with_reducible first | refine XArr.ints (by omega) (by omega) (by omega) ?_ | refine XArr.intsA (by omega) (by omega) (by omega) ?_) | ((with_reducible first | refine XArr.nats ?_ ?_ ?_ | refine XArr.natsA ?_ ?_ ?_ | refine XArr.ptr ?_ ?_ ?_); omega; omega)); conv => whnf) | (apply Walk.drawN (id := 0) tab_ok mixed_ok [] [] (hsU _) [_, _, _, _, _, _, _, _, _] (by kernel_rfl) rfl) | ((first | (with_reducible apply XNext.mk) | (refine XCall.ret hfa' ?_)); conv => whnf) | ((with_reducible apply XBr.mk') <;> (intro h; conv => whnf))
        refine XAgainG.go (k + 1) [.cells (sgA (W.getD k default)).cells] (by omega) (by omega) ?_ ⟨rfl, rfl, rfl, rfl, rfl, rfl, trivial⟩
        show [Blk.cells [.int .i64 (bstN s f x (W.take (k + 1)) (homeZ s x))], _, _] ++ _ = _
        rw [hbx]; rfl
      | cons y0 l =>
        rw [haf] at hfa hbx hnk hbk hgq
        have hln : l.length ≤ 100 := by
          have := afterS_len s x (W.getD k default)
          rw [haf, List.length_cons] at this
          omega
        have hfa' : Comp Try.prog 136 [dskFA s, staA x, sgA (W.getD k default)] (.sl false ((y0 :: l).map staA)) := hfa
        have e2 : (((y0 :: l).map staA).length : Int) = l.length + 1 := by rw [List.length_map, List.length_cons]; omega
        have hgw := gained_tb nt T s f x (W.getD k default) false y0 l hln hc hnk hbk
        rw [← hgq] at hgw
        repeat' first | ((with_reducible first | apply XBr.tt | apply XBr.ff | apply Chk.go | apply ChkA.go | apply ChkF.go | apply ChkB.go | apply XArr.pim0 | apply XArr.pim1); conv => whnf) | (with_reducible apply XBr.not) | ((with_reducible apply XBr.dec) <;> (intro h; first | (exfalso; omega) | ((try simp only [List.length_map] at h); first | (exfalso; omega) | (conv => whnf)))) | ((with_reducible first | apply XBr.beq | apply XBr.bne) <;> (intro h; first | (exfalso; omega) | (conv => whnf))) | ((with_reducible refine XInt.i64 (by omega) (by omega) ?_); conv => whnf) | ((with_reducible refine XHold.mk ?_ ?_); (first | omega | rfl | decide | exact ⟨rfl, by decide, rfl⟩ | exact wideI _ | exact widePr _ | exact wideSk _ | (unfold Room; constructor <;> ((try simp) <;> omega)) | exact ⟨rfl, by simp only [List.length_map], by unfold Room; constructor <;> ((try simp) <;> omega)⟩ | exact ⟨by omega, by omega, by unfold Room; constructor <;> ((try simp) <;> omega)⟩); conv => whnf) | ((first | ((with_reducible refine XIx.nat ?_ ?_ ?_); omega; (intro _; rfl)) | ((with_reducible refine XIx.map ?_ ?_ ?_ ?_); omega; omega; (intro _; rfl))); conv => whnf) | (with_reducible apply XAnd.mk) | (exact XSame.mk rfl rfl) | (exact XSame.mk (by first | rfl | (simp only [List.map_append, List.length_append, List.length_map]; done) | (simp only [List.map_append, List.length_append, List.length_map]; rfl)) (by first | rfl | (simp only [List.map_append]; done) | (simp only [List.map_append]; rfl))) | (with_reducible exact trivial) | ((first | (with_reducible refine xdrop_app (by rw [List.length_map]; omega) ?_) | (with_reducible refine XDrop.desk (by assumption) ?_) | (with_reducible first | refine XArr.ints (by omega) (by omega) (by omega) ?_ | refine XArr.intsA (by omega) (by omega) (by omega) ?_) | ((with_reducible first | refine XArr.nats ?_ ?_ ?_ | refine XArr.natsA ?_ ?_ ?_ | refine XArr.ptr ?_ ?_ ?_); omega; omega)); conv => whnf) | (apply Walk.drawN (id := 0) tab_ok mixed_ok [] [] (hsU _) [_, _, _, _, _, _, _, _, _] (by kernel_rfl) rfl) | ((first | (with_reducible apply XNext.mk) | (refine XCall.ret hfa' ?_) | ((refine XYield.go (own := []) tab_ok rfl rfl (by decide) ?_); intro ρ)); conv => whnf) | ((with_reducible apply XBr.mk') <;> (intro h; conv => whnf))
        apply Walk.drawX tab_ok mixed_ok [] [8] (hsC [_, _]) [_, _, _, _, _, _, _, _, _] (by kernel_rfl) rfl
        · skip
          repeat' first | ((with_reducible first | apply XBr.tt | apply XBr.ff | apply Chk.go | apply ChkA.go | apply ChkF.go | apply ChkB.go | apply XArr.pim0 | apply XArr.pim1); conv => whnf) | (with_reducible apply XBr.not) | ((with_reducible apply XBr.dec) <;> (intro h; first | (exfalso; omega) | ((try simp only [List.length_map] at h); first | (exfalso; omega) | (conv => whnf)))) | ((with_reducible first | apply XBr.beq | apply XBr.bne) <;> (intro h; first | (exfalso; omega) | (conv => whnf))) | ((with_reducible refine XInt.i64 (by omega) (by omega) ?_); conv => whnf) | ((with_reducible refine XHold.mk ?_ ?_); (first | omega | rfl | decide | exact ⟨rfl, by decide, rfl⟩ | exact wideI _ | exact widePr _ | exact wideSk _ | (unfold Room; constructor <;> ((try simp) <;> omega)) | exact ⟨rfl, by simp only [List.length_map], by unfold Room; constructor <;> ((try simp) <;> omega)⟩ | exact ⟨by omega, by omega, by unfold Room; constructor <;> ((try simp) <;> omega)⟩); conv => whnf) | ((first | ((with_reducible refine XIx.nat ?_ ?_ ?_); omega; (intro _; rfl)) | ((with_reducible refine XIx.map ?_ ?_ ?_ ?_); omega; omega; (intro _; rfl))); conv => whnf) | (with_reducible apply XAnd.mk) | (exact XSame.mk rfl rfl) | (exact XSame.mk (by first | rfl | (simp only [List.map_append, List.length_append, List.length_map]; done) | (simp only [List.map_append, List.length_append, List.length_map]; rfl)) (by first | rfl | (simp only [List.map_append]; done) | (simp only [List.map_append]; rfl))) | (with_reducible exact trivial) | ((first | (with_reducible refine xdrop_app (by rw [List.length_map]; omega) ?_) | (with_reducible refine XDrop.desk (by assumption) ?_) | (with_reducible first | refine XArr.ints (by omega) (by omega) (by omega) ?_ | refine XArr.intsA (by omega) (by omega) (by omega) ?_) | ((with_reducible first | refine XArr.nats ?_ ?_ ?_ | refine XArr.natsA ?_ ?_ ?_ | refine XArr.ptr ?_ ?_ ?_); omega; omega)); conv => whnf) | (apply Walk.drawN (id := 0) tab_ok mixed_ok [] [] (hsU _) [_, _, _, _, _, _, _, _, _] (by kernel_rfl) rfl) | ((first | (with_reducible apply XNext.mk) | (refine XCall.ret hgw ?_)); conv => whnf) | ((with_reducible apply XBr.mk') <;> (intro h; conv => whnf))
        · skip
          repeat' first | ((with_reducible first | apply XBr.tt | apply XBr.ff | apply Chk.go | apply ChkA.go | apply ChkF.go | apply ChkB.go | apply XArr.pim0 | apply XArr.pim1); conv => whnf) | (with_reducible apply XBr.not) | ((with_reducible apply XBr.dec) <;> (intro h; first | (exfalso; omega) | ((try simp only [List.length_map] at h); first | (exfalso; omega) | (conv => whnf)))) | ((with_reducible first | apply XBr.beq | apply XBr.bne) <;> (intro h; first | (exfalso; omega) | (conv => whnf))) | ((with_reducible refine XInt.i64 (by omega) (by omega) ?_); conv => whnf) | ((with_reducible refine XHold.mk ?_ ?_); (first | omega | rfl | decide | exact ⟨rfl, by decide, rfl⟩ | exact wideI _ | exact widePr _ | exact wideSk _ | (unfold Room; constructor <;> ((try simp) <;> omega)) | exact ⟨rfl, by simp only [List.length_map], by unfold Room; constructor <;> ((try simp) <;> omega)⟩ | exact ⟨by omega, by omega, by unfold Room; constructor <;> ((try simp) <;> omega)⟩); conv => whnf) | ((first | ((with_reducible refine XIx.nat ?_ ?_ ?_); omega; (intro _; rfl)) | ((with_reducible refine XIx.map ?_ ?_ ?_ ?_); omega; omega; (intro _; rfl))); conv => whnf) | (with_reducible apply XAnd.mk) | (exact XSame.mk rfl rfl) | (exact XSame.mk (by first | rfl | (simp only [List.map_append, List.length_append, List.length_map]; done) | (simp only [List.map_append, List.length_append, List.length_map]; rfl)) (by first | rfl | (simp only [List.map_append]; done) | (simp only [List.map_append]; rfl))) | (with_reducible exact trivial) | ((first | (with_reducible refine xdrop_app (by rw [List.length_map]; omega) ?_) | (with_reducible refine XDrop.desk (by assumption) ?_) | (with_reducible first | refine XArr.ints (by omega) (by omega) (by omega) ?_ | refine XArr.intsA (by omega) (by omega) (by omega) ?_) | ((with_reducible first | refine XArr.nats ?_ ?_ ?_ | refine XArr.natsA ?_ ?_ ?_ | refine XArr.ptr ?_ ?_ ?_); omega; omega)); conv => whnf) | (apply Walk.drawN (id := 0) tab_ok mixed_ok [] [] (hsU _) [_, _, _, _, _, _, _, _, _] (by kernel_rfl) rfl) | ((first | (with_reducible apply XNext.mk) | (refine XCall.ret hgw ?_)); conv => whnf) | ((with_reducible apply XBr.mk') <;> (intro h; conv => whnf))
        conv => whnf
        repeat' first | ((with_reducible first | apply XBr.tt | apply XBr.ff | apply Chk.go | apply ChkA.go | apply ChkF.go | apply ChkB.go | apply XArr.pim0 | apply XArr.pim1); conv => whnf) | (with_reducible apply XBr.not) | ((with_reducible apply XBr.dec) <;> (intro h; first | (exfalso; omega) | ((try simp only [List.length_map] at h); first | (exfalso; omega) | (conv => whnf)))) | ((with_reducible first | apply XBr.beq | apply XBr.bne) <;> (intro h; first | (exfalso; omega) | (conv => whnf))) | ((with_reducible refine XInt.i64 (by omega) (by omega) ?_); conv => whnf) | ((with_reducible refine XHold.mk ?_ ?_); (first | omega | rfl | decide | exact ⟨rfl, by decide, rfl⟩ | exact wideI _ | exact widePr _ | exact wideSk _ | (unfold Room; constructor <;> ((try simp) <;> omega)) | exact ⟨rfl, by simp only [List.length_map], by unfold Room; constructor <;> ((try simp) <;> omega)⟩ | exact ⟨by omega, by omega, by unfold Room; constructor <;> ((try simp) <;> omega)⟩); conv => whnf) | ((first | ((with_reducible refine XIx.nat ?_ ?_ ?_); omega; (intro _; rfl)) | ((with_reducible refine XIx.map ?_ ?_ ?_ ?_); omega; omega; (intro _; rfl))); conv => whnf) | (with_reducible apply XAnd.mk) | (exact XSame.mk rfl rfl) | (exact XSame.mk (by first | rfl | (simp only [List.map_append, List.length_append, List.length_map]; done) | (simp only [List.map_append, List.length_append, List.length_map]; rfl)) (by first | rfl | (simp only [List.map_append]; done) | (simp only [List.map_append]; rfl))) | (with_reducible exact trivial) | ((first | (with_reducible refine xdrop_app (by rw [List.length_map]; omega) ?_) | (with_reducible refine XDrop.desk (by assumption) ?_) | (with_reducible first | refine XArr.ints (by omega) (by omega) (by omega) ?_ | refine XArr.intsA (by omega) (by omega) (by omega) ?_) | ((with_reducible first | refine XArr.nats ?_ ?_ ?_ | refine XArr.natsA ?_ ?_ ?_ | refine XArr.ptr ?_ ?_ ?_); omega; omega)); conv => whnf) | (apply Walk.drawN (id := 0) tab_ok mixed_ok [] [] (hsU _) [_, _, _, _, _, _, _, _, _] (by kernel_rfl) rfl) | ((with_reducible apply XNext.mk); conv => whnf) | ((with_reducible apply XBr.mk') <;> (intro h; conv => whnf))
        refine XAgainG.go (k + 1) [.cells (sgA (W.getD k default)).cells, .cells (sgA (W.getD k default)).cells] (by omega) (by omega) ?_ ⟨rfl, rfl, rfl, rfl, rfl, rfl, trivial⟩
        show [Blk.cells [.int .i64 (bstN s f x (W.take (k + 1)) (homeZ s x))], _, _] ++ _ = _
        rw [hbx]; rfl
    obtain rfl : k = W.length := by omega
    rw [← hbend rfl]
    repeat' first | ((with_reducible first | apply XBr.tt | apply XBr.ff | apply Chk.go | apply ChkA.go | apply ChkF.go | apply ChkB.go | apply XArr.pim0 | apply XArr.pim1); conv => whnf) | (with_reducible apply XBr.not) | ((with_reducible apply XBr.dec) <;> (intro h; first | (exfalso; omega) | ((try simp only [List.length_map] at h); first | (exfalso; omega) | (conv => whnf)))) | ((with_reducible first | apply XBr.beq | apply XBr.bne) <;> (intro h; first | (exfalso; omega) | (conv => whnf))) | ((with_reducible refine XInt.i64 (by omega) (by omega) ?_); conv => whnf) | ((with_reducible refine XHold.mk ?_ ?_); (first | omega | rfl | decide | exact ⟨rfl, by decide, rfl⟩ | exact wideI _ | exact widePr _ | exact wideSk _ | (unfold Room; constructor <;> ((try simp) <;> omega)) | exact ⟨rfl, by simp only [List.length_map], by unfold Room; constructor <;> ((try simp) <;> omega)⟩ | exact ⟨by omega, by omega, by unfold Room; constructor <;> ((try simp) <;> omega)⟩); conv => whnf) | ((first | ((with_reducible refine XIx.nat ?_ ?_ ?_); omega; (intro _; rfl)) | ((with_reducible refine XIx.map ?_ ?_ ?_ ?_); omega; omega; (intro _; rfl))); conv => whnf) | (with_reducible apply XAnd.mk) | (exact XSame.mk rfl rfl) | (exact XSame.mk (by first | rfl | (simp only [List.map_append, List.length_append, List.length_map]; done) | (simp only [List.map_append, List.length_append, List.length_map]; rfl)) (by first | rfl | (simp only [List.map_append]; done) | (simp only [List.map_append]; rfl))) | (with_reducible exact trivial) | ((first | (with_reducible refine xdrop_app (by rw [List.length_map]; omega) ?_) | (with_reducible refine XDrop.desk (by assumption) ?_) | (with_reducible first | refine XArr.ints (by omega) (by omega) (by omega) ?_ | refine XArr.intsA (by omega) (by omega) (by omega) ?_) | ((with_reducible first | refine XArr.nats ?_ ?_ ?_ | refine XArr.natsA ?_ ?_ ?_ | refine XArr.ptr ?_ ?_ ?_); omega; omega)); conv => whnf) | (apply Walk.drawN (id := 0) tab_ok mixed_ok [] [] (hsU _) [_, _, _, _, _, _, _, _, _] (by kernel_rfl) rfl) | ((with_reducible apply XNext.mk); conv => whnf) | ((with_reducible apply XBr.mk') <;> (intro h; conv => whnf))
    exact ⟨.low rfl⟩
end GA
end

section
namespace GA
open Go Go.RowKit Go.Proofs
set_option pp.deepTerms true
set_option maxRecDepth 8000
set_option linter.unusedVariables false
set_option linter.unusedSimpArgs false

theorem idxf_rs (nl : Bool) (xs : List Rs) (g : FuncId) (caps : List AV) (p : Rs → Bool) (hl : lowL 0 caps = true) (hx : xs.length ≤ 100000) (hp : ∀ x ∈ xs, Comp Try.prog g ((rsT x) :: caps) (.bool (p x))) :
    Comp Try.prog 161 [.sl nl (xs.map (rsT)), .fn g caps] (.int .i64 (idxR p xs)) := by
  refine Comp.body (T := tab) (res := [.tmp 4]) tab_ok [] Try.func161 rfl (by kernel_rfl) Try.ntmps161 rfl (by simp only [List.length_cons, List.length_nil]; decide) (by simp only [lowL, AV.low, lowRs, hl]; rfl) ?_; conv => whnf
  refine Walk.loop tab_ok [] (fun i : Nat => i ≤ xs.length ∧ ∀ j, j < i → p (xs.getD j default) = false) (fun i => [(0, .sl nl (xs.map (rsT))), (1, .fn g caps), (7, .int .i64 xs.length), (8, .int .i64 i)]) (fun _ => []) (fun i => xs.length - i) 0 ⟨by omega, by omega⟩ rfl ⟨rfl, rfl, by simp only [List.length_map]; rfl, rfl, trivial⟩ ?_
  rintro i ⟨h2, h3⟩
  conv => whnf
  repeat' first | ((with_reducible apply XBr.dec) <;> (intro h; first | (exfalso; omega) | ((try simp only [List.length_map] at h); first | (exfalso; omega) | (conv => whnf)))) | (((with_reducible refine XIx.nat ?_ ?_ ?_); omega; (intro _; rfl)); conv => whnf) | fail
  · refine XCall.ret (hp _ (getD_mem (i := i) (d := default) (by omega))) ?_
    conv => whnf
    refine XBr.mk' ?_ ?_ <;> intro h4 <;> (conv => whnf)
    · refine XOut.int ?_
      simp only [idxR, find_some (d := default) (i := i) (by omega) h4 h3]
    · skip
      repeat' first | ((with_reducible refine XInt.i64 (by omega) (by omega) ?_); conv => whnf) | fail
      refine XAgain.go (i + 1) ⟨by omega, fun j hj => ?_⟩ (by omega) rfl ⟨rfl, rfl, rfl, rfl, trivial⟩
      by_cases hji : j = i
      · subst hji; exact h4
      · exact h3 j (by omega)
  · refine XOut.int ?_
    simp only [idxR, find_none (d := default) fun j hj => h3 j (by omega)]
theorem contf_rs (nl : Bool) (xs : List Rs) (g : FuncId) (caps : List AV) (p : Rs → Bool) (hl : lowL 0 caps = true) (hx : xs.length ≤ 100000) (hp : ∀ x ∈ xs, Comp Try.prog g ((rsT x) :: caps) (.bool (p x))) :
    Comp Try.prog 138 [.sl nl (xs.map (rsT)), .fn g caps] (.bool (xs.any p)) := by
  refine Comp.body (T := tab) (res := [.tmp 4]) tab_ok [] Try.func138 rfl (by kernel_rfl) Try.ntmps138 rfl (by simp only [List.length_cons, List.length_nil]; decide) (by simp only [lowL, AV.low, lowRs, hl]; rfl) ?_; conv => whnf
  refine XCall.ret (idxf_rs nl xs g caps p hl hx hp) ?_
  conv => whnf
  refine XOut.bool ?_
  rw [Bool.eq_iff_iff, decide_eq_true_eq]; exact idxR_pos
theorem every1_rs (x : Rs) (g : FuncId) (caps : List AV) (p : Rs → Bool) (hl : lowL 0 caps = true) (hp : Comp Try.prog g ((rsT x) :: caps) (.bool (p x))) :
    Comp Try.prog 139 [(rsT x), .pim [.fn g caps]] (.bool (!p x)) := by
  refine Comp.body (T := tab) (res := [.tmp 3]) tab_ok [] Try.func139 rfl (by kernel_rfl) Try.ntmps139 rfl (by simp only [List.length_cons, List.length_nil]; decide) (by simp only [lowL, AV.low, rsTL, hl]; rfl) ?_; conv => whnf
  refine XCall.ret hp ?_
  conv => whnf
  exact XOut.bool rfl
theorem every_rs (nl : Bool) (xs : List Rs) (g : FuncId) (caps : List AV) (p : Rs → Bool) (hl : lowL 0 caps = true) (hx : xs.length ≤ 100000) (hp : ∀ x ∈ xs, Comp Try.prog g ((rsT x) :: caps) (.bool (p x))) :
    Comp Try.prog 89 [.sl nl (xs.map (rsT)), .fn g caps] (.bool (xs.all p)) := by
  refine Comp.body (T := tab) (res := [.tmp 4]) tab_ok [] Try.func89 rfl (by kernel_rfl) Try.ntmps89 rfl (by simp only [List.length_cons, List.length_nil]; decide) (by simp only [lowL, AV.low, lowRs, hl]; rfl) ?_; conv => whnf
  refine XCall.ret (contf_rs nl xs 139 [.pim [.fn g caps]] (fun x => !p x) (by simp only [lowL, AV.low, hl]; rfl) hx fun x hm => every1_rs x g caps p hl (hp x hm)) ?_
  conv => whnf
  refine XOut.bool ?_
  rw [List.not_any_eq_all_not]; simp
def tabM (s : Sn) (T : List Rs) : Bool := decide ((T.length : Int) = s.places) && T.all fun l => decide ((l.2.length : Int) = s.last + 1) && l.2.all fun k => decide ((k.2.length : Int) = allN s + 1)
def tabV (T : List Rs) : Bool := T.all fun l => l.2.all fun k => k.2.all fun n => inZ n (-1) 60
def tabE (s : Sn) (T : List Rs) : Int := if snE s ≠ 0 then snE s else if tabM s T = false then 2 else if tabV T = false then 3 else 0
theorem tabE_iff {s : Sn} {T : List Rs} : tabE s T = 0 ↔ SnOk s ∧ tabM s T = true ∧ tabV T = true := by
  unfold tabE
  by_cases h : snE s = 0
  · rw [if_neg (fun e => e h)]
    have ok := snE_iff.1 h
    cases h1 : tabM s T
    · rw [if_pos rfl]; exact ⟨fun e => absurd e (by decide), fun e => absurd e.2.1 (by simp)⟩
    · rw [if_neg (by simp)]
      cases h2 : tabV T
      · rw [if_pos rfl]; exact ⟨fun e => absurd e (by decide), fun e => absurd e.2.2 (by simp)⟩
      · rw [if_neg (by simp)]; exact ⟨fun _ => ⟨ok, rfl, rfl⟩, fun _ => rfl⟩
  · rw [if_pos h]
    exact ⟨fun e => absurd e h, fun e => absurd (snE_iff.2 e.1) h⟩
theorem all_getD {α : Type} {p : α → Bool} {l : List α} {d : α} : l.all p = true ↔ ∀ i, i < l.length → p (l.getD i d) = true := by
  rw [List.all_eq_true]
  refine ⟨fun h i hi => h _ (getD_mem hi), fun h x hx => ?_⟩
  obtain ⟨i, hi, rfl⟩ := List.mem_iff_getElem.1 hx
  have := h i hi
  rwa [List.getD_eq_getElem?_getD, List.getElem?_eq_getElem hi] at this
theorem tab_ok_of {s : Sn} {T : List Rs} (h1 : tabM s T = true) (h2 : tabV T = true) : TbOk s T := by
  unfold tabM at h1
  rw [Bool.and_eq_true, decide_eq_true_eq, all_getD (d := default)] at h1
  unfold tabV at h2
  rw [all_getD (d := default)] at h2
  refine ⟨h1.1, fun p hp => ?_, fun p m hp hm => ?_, fun p m l hp hm hl => ?_⟩
  · have := h1.2 p hp
    rw [Bool.and_eq_true, decide_eq_true_eq] at this
    exact this.1
  · have := h1.2 p hp
    rw [Bool.and_eq_true, all_getD (d := default)] at this
    have := this.2 m hm
    rw [decide_eq_true_eq] at this
    omega
  · have := h2 p hp
    rw [all_getD (d := default)] at this
    have := this m hm
    rw [all_getD (d := default)] at this
    have := this l hl
    rw [inZ_iff] at this
    exact this
theorem tab11_c (s : Sn) (ok : SnOk s) (r : Rw) (h : r.2.length ≤ 100000) : Comp Try.prog 92 [rwA r, .pim [dskFA s]] (.bool (decide ((r.2.length : Int) = allN s + 1))) := by
  have ha := fall_c s ok
  have hal := allN_lt ok
  have e : ((ints r.2).length : Int) = r.2.length := by rw [ints_len]
  refine Comp.body (T := tab) (res := [.tmp 3]) tab_ok [] Try.func92 rfl (by kernel_rfl) Try.ntmps92 rfl (by simp only [List.length_cons, List.length_nil]; decide) (by simp only [lowL, AV.low, dskFL, rwL]; rfl) ?_; conv => whnf
  repeat' first | ((first | (with_reducible refine XInt.i64 (by omega) (by omega) ?_) | (refine XCall.ret ha ?_)); conv => whnf) | fail
  exact XOut.bool (by rw [e]; rfl)
theorem tab1_c (s : Sn) (ok : SnOk s) (l : Rs) (h : l.2.length ≤ 1000) (h2 : ∀ r ∈ l.2, r.2.length ≤ 1000) : Comp Try.prog 90 [rsT l, .pim (snC s), .pim [dskFA s]] (.bool (decide ((l.2.length : Int) = s.last + 1) && l.2.all fun k => decide ((k.2.length : Int) = allN s + 1))) := by
  have l1 := ok.l1; have l2 := ok.l2
  have e : ((l.2.map rwA).length : Int) = l.2.length := by rw [List.length_map]
  have c := every_rw l.1 l.2 92 [.pim [dskFA s]] (fun r => decide ((r.2.length : Int) = allN s + 1)) (by simp only [lowL, AV.low, dskFL]; rfl) (by omega) fun r hr => tab11_c s ok r (by have := h2 r hr; omega)
  generalize l.2.all (fun k => decide ((k.2.length : Int) = allN s + 1)) = b at c
  by_cases hq : (l.2.length : Int) = s.last + 1
  · rw [decide_eq_true hq, Bool.true_and]
    refine Comp.body (T := tab) (res := [.tmp 4]) tab_ok [] Try.func90 rfl (by kernel_rfl) Try.ntmps90 rfl (by simp only [List.length_cons, List.length_nil]; decide) (by simp only [lowL, AV.low, dskFL, snCL, rsTL]; rfl) ?_; conv => whnf
    repeat' first | ((with_reducible apply XBr.tt); conv => whnf) | ((with_reducible apply XBr.beq) <;> (intro h; first | (exfalso; omega) | (conv => whnf))) | ((first | (with_reducible refine XInt.i64 (by omega) (by omega) ?_) | (refine XCall.ret c ?_)); conv => whnf) | fail
    exact XOut.bool rfl
  · rw [decide_eq_false hq, Bool.false_and]
    refine Comp.body (T := tab) (res := [.tmp 4]) tab_ok [] Try.func90 rfl (by kernel_rfl) Try.ntmps90 rfl (by simp only [List.length_cons, List.length_nil]; decide) (by simp only [lowL, AV.low, dskFL, snCL, rsTL]; rfl) ?_; conv => whnf
    repeat' first | ((with_reducible apply XBr.ff); conv => whnf) | ((with_reducible apply XBr.beq) <;> (intro h; first | (exfalso; omega) | (conv => whnf))) | ((with_reducible refine XInt.i64 (by omega) (by omega) ?_); conv => whnf) | fail
    exact XOut.bool rfl
theorem tab211_c (n : Int) : Comp Try.prog 96 [.int .i64 n] (.bool (inZ n (-1) 60)) := by
  refine Comp.body (T := tab) (res := [.tmp 2]) tab_ok [] Try.func96 rfl (by kernel_rfl) Try.ntmps96 rfl (by simp only [List.length_cons, List.length_nil]; decide) (by rfl) ?_; conv => whnf
  repeat' first | ((refine XCall.ret (fdIn_c _ _ _) ?_); conv => whnf) | fail
  exact XOut.bool rfl
theorem tab21_c (r : Rw) (h : r.2.length ≤ 100000) : Comp Try.prog 94 [rwA r] (.bool (r.2.all fun n => inZ n (-1) 60)) := by
  have c := every_zi r.1 r.2 96 [] (fun n => inZ n (-1) 60) rfl h fun n _ => tab211_c n
  refine Comp.body (T := tab) (res := [.tmp 2]) tab_ok [] Try.func94 rfl (by kernel_rfl) Try.ntmps94 rfl (by simp only [List.length_cons, List.length_nil]; decide) (by simp only [lowL, rwL]; rfl) ?_; conv => whnf
  repeat' first | ((refine XCall.ret c ?_); conv => whnf) | fail
  exact XOut.bool rfl
theorem tab2_c (l : Rs) (h : l.2.length ≤ 1000) (h2 : ∀ r ∈ l.2, r.2.length ≤ 1000) : Comp Try.prog 93 [rsT l] (.bool (l.2.all fun k => k.2.all fun n => inZ n (-1) 60)) := by
  have c := every_rw l.1 l.2 94 [] (fun k => k.2.all fun n => inZ n (-1) 60) rfl (by omega) fun r hr => tab21_c r (by have := h2 r hr; omega)
  refine Comp.body (T := tab) (res := [.tmp 2]) tab_ok [] Try.func93 rfl (by kernel_rfl) Try.ntmps93 rfl (by simp only [List.length_cons, List.length_nil]; decide) (by simp only [lowL, rsTL]; rfl) ?_; conv => whnf
  repeat' first | ((refine XCall.ret c ?_); conv => whnf) | fail
  exact XOut.bool rfl
structure TbB (T : List Rs) : Prop where
  a : T.length ≤ 1000
  b : ∀ l ∈ T, l.2.length ≤ 1000
  c : ∀ l ∈ T, ∀ r ∈ l.2, r.2.length ≤ 1000
theorem tabled_ok (s : Sn) (hb : SnB s) (nt : Bool) (T : List Rs) (hT : TbB T) (h : tabE s T = 0) : Comp Try.prog 51 [snA s, .sl nt (T.map rsT)] (.tup [dskFA s, .int .i64 0]) := by
  obtain ⟨ok, hM, hV⟩ := tabE_iff.1 h
  have e1 : ((T.map rsT).length : Int) = T.length := by rw [List.length_map]
  have t1 := hT.a
  have ho := fdOpened_c s hb ok
  have c1 := every_rs nt T 90 [.pim (snC s), .pim [dskFA s]] (fun l => decide ((l.2.length : Int) = s.last + 1) && l.2.all fun k => decide ((k.2.length : Int) = allN s + 1)) (by simp only [lowL, AV.low, dskFL, snCL]; rfl) (by omega) fun l hl => tab1_c s ok l (hT.b l hl) (hT.c l hl)
  have c2 := every_rs nt T 93 [] (fun l => l.2.all fun k => k.2.all fun n => inZ n (-1) 60) rfl (by omega) fun l hl => tab2_c l (hT.b l hl) (hT.c l hl)
  rw [show (T.all fun l => l.2.all fun k => k.2.all fun n => inZ n (-1) 60) = true from hV] at c2
  have hq := (tab_ok_of hM hV).a
  unfold tabM at hM
  rw [Bool.and_eq_true] at hM
  rw [hM.2] at c1
  refine Comp.body (T := tab) (res := [.tmp 4, .tmp 5]) tab_ok [] Try.func51 rfl (by kernel_rfl) Try.ntmps51 rfl (by simp only [List.length_cons, List.length_nil]; decide) (by simp only [lowL, AV.low, snL, lowRs]; rfl) ?_; conv => whnf
  repeat' first | ((first | (with_reducible apply XBr.tt) | (with_reducible apply XBr.ff)); conv => whnf) | (with_reducible apply XBr.not) | ((with_reducible apply XBr.bne) <;> (intro h; first | (exfalso; omega) | (conv => whnf))) | ((first | (refine XCall.ret ho ?_) | (refine XCall.lend c1 (.cons (.low (lowRs T)) (.cons (Froz.fn (.cons (.low (snCL s)) (.cons (Froz.ptr rfl (one1 rfl) (.cons (.low (dskFL s)) .nil)) .nil))) .nil)) rfl ?_) | (refine XCall.ret c2 ?_)); conv => whnf) | fail
  exact ⟨.low (by show ((dskFA s).low 0 && true) = true; rw [dskFL]; rfl)⟩
end GA
end

section
namespace GA
open Go Go.RowKit Go.Proofs
set_option maxRecDepth 8000
set_option linter.unusedVariables false
set_option linter.unusedSimpArgs false

theorem vecF_map {α β : Type} (f : α → β) (W : Nat) (F : Nat → α) : (vecF W F).map f = vecF W fun i => f (F i) := by rw [vecF_eq, vecF_eq, List.map_map]; rfl
theorem vecF_succ {α : Type} (W : Nat) (F : Nat → α) : vecF (W + 1) F = vecF W F ++ [F W] := by rw [vecF_eq, vecF_eq, List.range_succ, List.map_append]; rfl
theorem hset_to {k : List Blk → Prop} {b : Blk} : ∀ {H : List Blk} {i : Nat} (H' : List Blk), i < H.length → H.set i b = H' → k H' → hset H i b k := by
  have key : ∀ (H : List Blk) (i : Nat) (k : List Blk → Prop), i < H.length → k (H.set i b) → hset H i b k := by
    intro H; induction H with
    | nil => intro i k h; simp at h
    | cons x H ih =>
      intro i k h hk
      cases i with
      | zero => exact hk
      | succ i => exact ih i _ (by simpa using h) hk
  intro H i H' h e hk
  exact key H i k h (by rw [e]; exact hk)
theorem XGet.to {els : List AV} {n e : Nat} {k : List AV → Prop} (v : AV) (h1 : n = els.length) (h2 : e < n) (hv : els.getD e default = v) (h : k v.cells) : XGet els n e k := ⟨h1, h2, by rw [hv]; exact h⟩
theorem XPut.to {els : List AV} {n e : Nat} {v : AV} {k : List AV → Prop} (els' : List AV) (h1 : n = els.length) (h2 : e < n) (hv : els.set e v = els') (h : k els') : XPut els n e v k := ⟨h1, h2, by rw [hv]; exact h⟩
theorem zvs_at {W j : Nat} {F : Nat → Int} (h : j < W) : (zvs W F).getD j default = .int .i64 (F j) := by
  unfold zvs
  rw [List.getD_eq_getElem?_getD, List.getElem?_map, vecF_get?, if_pos h]; rfl
theorem zvs_set (W j : Nat) (F : Nat → Int) (v : Int) : (zvs W F).set j (.int .i64 v) = zvs W (updV F j v) := by
  unfold zvs
  rw [← vecF_set, List.map_set]
theorem zvs_ints (W : Nat) (F : Nat → Int) : zvs W F = ints (vecF W F) := rfl
theorem froz_vec {P : Program} {H : List Blk} {i W : Nat} {t : TypeId} {nl : Bool} {F G : Nat → AV} (hb : lget H i = some (.grow t nl (vecF W F))) (hsz : sz P t = 1) (hF : ∀ j, j < W → (F j).one = true) (hG : ∀ j, j < W → (G j).one = true) (hf : ∀ j, j < W → Froz P H (F j) (G j)) :
    Froz P H (.gr i W) (.sl nl (vecF W G)) := by
  have hF' : ∀ x ∈ vecF W F, x.one = true := fun x hx => by obtain ⟨j, hj, rfl⟩ := vecF_mem.1 hx; exact hF j hj
  have hG' : ∀ x ∈ vecF W G, x.one = true := fun x hx => by obtain ⟨j, hj, rfl⟩ := vecF_mem.1 hx; exact hG j hj
  refine Froz.gr hb (vecF_len _ _) (by rw [vecF_len, vecF_len]) (fun e he => by rw [cells_one (hG' e he)]; exact hsz.symm) (by rw [flat_one hG']; exact hG') ?_
  rw [flat_one hF', flat_one hG']
  refine ⟨by rw [vecF_len, vecF_len], fun j x e => ?_⟩
  rw [vecF_get?] at e
  by_cases hj : j < W
  · rw [if_pos hj] at e
    cases e
    exact ⟨F j, by rw [vecF_get?, if_pos hj], hf j hj⟩
  · rw [if_neg hj] at e; cases e
theorem XRun.heap {P : Program} {T : Tab} {N : Nat} {r : Option Nat} {own : List Nat} {c : Code} {Q : Post} {D : List Nat} {σ : St} {H : List Blk} (H' : List Blk) (h : H' = H) (x : XRun P T N r own c Q D σ H') : XRun P T N r own c Q D σ H := h ▸ x
end GA
end

section
namespace GA
open Go Go.RowKit Go.Proofs
set_option maxRecDepth 8000
set_option linter.unusedVariables false
set_option linter.unusedSimpArgs false

def mkT (P M N : Nat) (W : T3 Int) : List Rs := vecF P fun p => (false, vecF M fun m => (false, vecF N fun l => W p m l))
theorem mkT_len (P M N : Nat) (W : T3 Int) : (mkT P M N W).length = P := vecF_len _ _
theorem mkT_p {P M N : Nat} {W : T3 Int} {p : Nat} (h : p < P) : (mkT P M N W).getD p default = (false, vecF M fun m => (false, vecF N fun l => W p m l)) := vecF_get _ h
theorem mkT_m {P M N : Nat} {W : T3 Int} {p m : Nat} (h : p < P) (h2 : m < M) : ((mkT P M N W).getD p default).2.getD m default = (false, vecF N fun l => W p m l) := by rw [mkT_p h]; exact vecF_get _ h2
theorem mkT_at {P M N : Nat} {W : T3 Int} {y : Sta} (h : y.p < P) (h2 : y.m < M) (h3 : y.l < N) : tbN (mkT P M N W) y = W y.p y.m y.l := by
  unfold tbN; rw [mkT_m h h2]; exact vecF_get _ h3
def rowI (M p : Nat) : Nat := 1 + p * (M + 1)
def celI (M p m : Nat) : Nat := rowI M p + 1 + m
theorem rowI_q {M p : Nat} : (rowI M p - 1) / (M + 1) = p ∧ (rowI M p - 1) % (M + 1) = 0 := by
  unfold rowI
  rw [Nat.add_sub_cancel_left]
  exact ⟨Nat.mul_div_cancel _ (by omega), Nat.mul_mod_left _ _⟩
theorem celI_q {M p m : Nat} (h : m < M) : (celI M p m - 1) / (M + 1) = p ∧ (celI M p m - 1) % (M + 1) = m + 1 := by
  unfold celI rowI
  rw [show 1 + p * (M + 1) + 1 + m - 1 = (m + 1) + p * (M + 1) by omega]
  exact ⟨by rw [Nat.add_mul_div_right _ _ (by omega), Nat.div_eq_of_lt (by omega)]; omega, by rw [Nat.add_mul_mod_self_right, Nat.mod_eq_of_lt (by omega)]⟩
theorem rowI_succ (M p : Nat) : rowI M (p + 1) = rowI M p + 1 + M := by unfold rowI; rw [Nat.add_mul, Nat.one_mul]; omega
theorem rowI_mono {M p q : Nat} (h : p ≤ q) : rowI M p ≤ rowI M q := by
  unfold rowI
  have := Nat.mul_le_mul_right (M + 1) h
  omega
def memB (M N P0 m0 : Nat) (W : T3 Int) (j : Nat) : Blk :=
  if j = 0 then .grow 24 (decide (P0 = 0)) (vecF P0 fun p => .gr (rowI M p) M)
  else if (j - 1) % (M + 1) = 0 then
    .grow 43 (decide ((j - 1) / (M + 1) = P0 ∧ m0 = 0)) (vecF (if (j - 1) / (M + 1) = P0 then m0 else M) fun m => .gr (celI M ((j - 1) / (M + 1)) m) N)
  else .grow 3 false (zvs N fun l => W ((j - 1) / (M + 1)) ((j - 1) % (M + 1) - 1) l)
theorem memB_t {M N P0 m0 : Nat} {W : T3 Int} : memB M N P0 m0 W 0 = .grow 24 (decide (P0 = 0)) (vecF P0 fun p => .gr (rowI M p) M) := if_pos rfl
theorem memB_r {M N P0 m0 : Nat} {W : T3 Int} (p : Nat) : memB M N P0 m0 W (rowI M p) = .grow 43 (decide (p = P0 ∧ m0 = 0)) (vecF (if p = P0 then m0 else M) fun m => .gr (celI M p m) N) := by
  obtain ⟨h1, h2⟩ := rowI_q (M := M) (p := p)
  unfold memB
  rw [if_neg (by unfold rowI; omega), if_pos h2, h1]
theorem memB_c {M N P0 m0 : Nat} {W : T3 Int} {p m : Nat} (h : m < M) : memB M N P0 m0 W (celI M p m) = .grow 3 false (zvs N fun l => W p m l) := by
  obtain ⟨h1, h2⟩ := celI_q (p := p) h
  unfold memB
  rw [if_neg (by unfold celI; omega), if_neg (by rw [h2]; omega), h1, h2]; rfl
def memW (M N P : Nat) (W : T3 Int) : List Blk := vecF (rowI M P) (memB M N P 0 W)
theorem rowI_lt {M P p : Nat} (h : p < P) : rowI M p < rowI M P := by
  have := rowI_mono (M := M) (show p + 1 ≤ P by omega)
  rw [rowI_succ] at this; omega
theorem celI_lt {M P p m : Nat} (h : p < P) (hm : m < M) : celI M p m < rowI M P := by
  have := rowI_mono (M := M) (show p + 1 ≤ P by omega)
  rw [rowI_succ] at this; unfold celI; omega
theorem memW_set {M N P : Nat} {W : T3 Int} {p m l : Nat} {v : Int} (h : p < P) (hm : m < M) : (memW M N P W).set (celI M p m) (.grow 3 false (zvs N (updV (fun l => W p m l) l v))) = memW M N P (upd3 W p m l v) := by
  unfold memW
  rw [vecF_set]
  refine vecF_congr fun j hj => ?_
  unfold updV
  by_cases e : j = celI M p m
  · rw [if_pos e, e, memB_c hm]
    congr 2
    funext l'
    unfold upd3
    by_cases e2 : l' = l
    · rw [if_pos e2, if_pos ⟨rfl, rfl, e2⟩]
    · rw [if_neg e2, if_neg (fun h => e2 h.2.2)]
  · rw [if_neg e]
    unfold memB
    by_cases e0 : j = 0
    · rw [if_pos e0, if_pos e0]
    rw [if_neg e0, if_neg e0]
    by_cases e1 : (j - 1) % (M + 1) = 0
    · rw [if_pos e1, if_pos e1]
    rw [if_neg e1, if_neg e1]
    congr 2
    funext l'
    unfold upd3
    rw [if_neg]
    rintro ⟨h1, h2, -⟩
    refine e ?_
    have := Nat.div_add_mod (j - 1) (M + 1)
    rw [h1] at this
    unfold celI rowI
    rw [Nat.mul_comm] at this
    omega
theorem bld_init (M N : Nat) (W : T3 Int) : vecF (rowI M 0) (memB M N 0 0 W) = [.grow 24 true []] := by
  have e : rowI M 0 = 0 + 1 := by unfold rowI; omega
  rw [e, vecF_succ, memB_t, decide_eq_true rfl, vecF_eq, vecF_eq]; rfl
theorem rowI_of {M j p : Nat} (h0 : j ≠ 0) (h : (j - 1) % (M + 1) = 0) (hp : (j - 1) / (M + 1) = p) : j = rowI M p := by
  have := Nat.div_add_mod (j - 1) (M + 1)
  rw [hp, h, Nat.mul_comm] at this
  unfold rowI; omega
end GA
end

section
namespace GA
open Go Go.RowKit Go.Proofs
set_option maxRecDepth 8000
set_option linter.unusedVariables false
set_option linter.unusedSimpArgs false

def wrT (s : Sn) : List Rs := mkT s.places.toNat (s.last + 1).toNat (allN s + 1) fun p m l => worthZ s ⟨p, m, l⟩
end GA
end

section
namespace GA
open Go Go.RowKit Go.Proofs
set_option maxRecDepth 8000
set_option linter.unusedVariables false
set_option linter.unusedSimpArgs false

theorem worthK_lt (s : Sn) : ∀ (k : Nat) (x : Sta), worthK s k x ≤ (k : Int) - 1
  | 0, x => by show (-1 : Int) ≤ (0 : Nat) - 1; omega
  | k + 1, x => by
    rw [worthK]
    unfold bestZ
    split
    · rcases (foldl_max_prop (f := fun t => gainZ s (worthK s k) x t) (l := stepsS s x) (b := homeZ s x)).1 with h | ⟨t, ht, h⟩
      · rw [h]; unfold homeZ; split <;> omega
      · rw [h]
        obtain ⟨⟨y, hy, e⟩, -⟩ := minL_mem (f := worthK s k) (stepsS_mem.1 ht)
        have := worthK_lt s k y
        unfold gainZ
        dsimp only
        rw [e]
        split <;> omega
    · omega
theorem worthZ_lt (s : Sn) (x : Sta) (hx : (x.m : Int) ≤ s.last) : worthZ s x ≤ s.last - x.m := by
  have := worthK_lt s (s.last + 1 - x.m).toNat x
  unfold worthZ
  omega
theorem bestZ_safe {s : Sn} {f : Sta → Int} {x : Sta} (h : bestZ s f x ≠ -1) : safeB s x = true := by
  cases hs : safeB s x with
  | true => rfl
  | false =>
    refine absurd ?_ h
    unfold bestZ; rw [if_neg (by rw [hs]; simp)]
theorem worthZ_safe {s : Sn} (ok : SnOk s) {x : Sta} (hx : (x.m : Int) ≤ s.last) (h : worthZ s x ≠ -1) : safeB s x = true := by
  rw [worthZ_eq ok hx] at h; exact bestZ_safe h
theorem gainZ_mono {s : Sn} {f g : Sta → Int} {x : Sta} {t : Int × Int} (h : afterS s x t ≠ []) (hfg : ∀ y ∈ afterS s x t, f y ≤ g y) (hf : ∀ y ∈ afterS s x t, -1 ≤ f y) : gainZ s f x t ≤ gainZ s g x t := by
  obtain ⟨⟨y, hy, e⟩, h1⟩ := minL_mem (f := f) h
  have h2 : minL f (afterS s x t) ≤ minL g (afterS s x t) := minL_ge h fun z hz => Int.le_trans (h1 z hz) (hfg z hz)
  have h3 := hf y hy
  rw [← e] at h3
  unfold gainZ
  dsimp only
  split
  · rename_i hc
    rw [if_pos ⟨by omega, hc.2⟩]; omega
  · split <;> omega
theorem bestZ_mono {s : Sn} {f g : Sta → Int} {x : Sta} (hfg : ∀ t, ∀ y ∈ afterS s x t, f y ≤ g y) (hf : ∀ t, ∀ y ∈ afterS s x t, -1 ≤ f y) : bestZ s f x ≤ bestZ s g x := by
  cases hs : safeB s x with
  | false =>
    unfold bestZ
    rw [if_neg (by rw [hs]; simp), if_neg (by rw [hs]; simp)]; exact Int.le_refl _
  | true =>
    obtain ⟨g1, g2, -⟩ := bestZ_step (f := g) hs
    obtain ⟨-, -, h3⟩ := bestZ_step (f := f) hs
    rcases h3 with h3 | ⟨t, ht, h3⟩
    · rw [h3]; exact g1
    · rw [h3]
      exact Int.le_trans (gainZ_mono ht (hfg t) (hf t)) (g2 t ht)
theorem holds_le {s : Sn} (ok : SnOk s) {T : Sta → Int} (hT : ∀ y, vld s y → -1 ≤ T y) (h : ∀ y, vld s y → T y ≤ bestZ s T y) (after_vld : ∀ x t, ∀ y ∈ afterS s x t, vld s y) : ∀ (d : Nat) (y : Sta), (s.last - y.m).toNat ≤ d → vld s y → T y ≤ worthZ s y := by
  intro d
  induction d with
  | zero =>
    intro y hd hv
    rw [worthZ_eq ok hv.2.1]
    refine Int.le_trans (h y hv) (bestZ_mono (fun t z hz => ?_) fun t z hz => hT z (after_vld y t z hz))
    have h1 := afterS_later ok hz
    have h2 := hv.2.1
    omega
  | succ d ih =>
    intro y hd hv
    rw [worthZ_eq ok hv.2.1]
    refine Int.le_trans (h y hv) (bestZ_mono (fun t z hz => ?_) fun t z hz => hT z (after_vld y t z hz))
    have h1 := afterS_later ok hz
    exact ih z (by omega) (after_vld y t z hz)
theorem closed_ge {s : Sn} (ok : SnOk s) {T : Sta → Int} (h : ∀ y, vld s y → T y ≥ bestZ s T y) (after_vld : ∀ x t, ∀ y ∈ afterS s x t, vld s y) : ∀ (d : Nat) (y : Sta), (s.last - y.m).toNat ≤ d → vld s y → worthZ s y ≤ T y := by
  intro d
  induction d with
  | zero =>
    intro y hd hv
    rw [worthZ_eq ok hv.2.1]
    refine Int.le_trans (bestZ_mono (fun t z hz => ?_) fun t z hz => worthZ_ge s z) (h y hv)
    have h1 := afterS_later ok hz
    have h2 := hv.2.1
    omega
  | succ d ih =>
    intro y hd hv
    rw [worthZ_eq ok hv.2.1]
    refine Int.le_trans (bestZ_mono (fun t z hz => ?_) fun t z hz => worthZ_ge s z) (h y hv)
    have h1 := afterS_later ok hz
    exact ih z (by omega) (after_vld y t z hz)
end GA
end

section
namespace GA
open Go Go.RowKit Go.Proofs
set_option maxRecDepth 8000
set_option linter.unusedVariables false
set_option linter.unusedSimpArgs false

def startZ (s : Sn) (m : Nat) : Int := (partsL s s.home.toNat (allN s)).foldl (fun n l => min n (worthZ s ⟨s.home.toNat, m, l⟩)) 60
theorem startZ_le (s : Sn) (m : Nat) : startZ s m ≤ 60 ∧ ∀ l ∈ partsL s s.home.toNat (allN s), startZ s m ≤ worthZ s ⟨s.home.toNat, m, l⟩ := (foldl_min_prop (f := fun l => worthZ s ⟨s.home.toNat, m, l⟩)).2
theorem startZ_ge {s : Sn} {m : Nat} {c : Int} (h0 : c ≤ 60) (h : ∀ l ∈ partsL s s.home.toNat (allN s), c ≤ worthZ s ⟨s.home.toNat, m, l⟩) : c ≤ startZ s m := by
  rcases (foldl_min_prop (f := fun l => worthZ s ⟨s.home.toNat, m, l⟩) (l := partsL s s.home.toNat (allN s)) (b := 60)).1 with e | ⟨l, hl, e⟩
  · unfold startZ; rw [e]; exact h0
  · unfold startZ; rw [e]; exact h l hl
theorem allN_bit (s : Sn) (i : Nat) : (allN s).testBit i = decide (i < s.truths.length) := by unfold allN; exact Nat.testBit_two_pow_sub_one _ _
structure Wider (s u : Sn) : Prop where
  places : s.places = u.places
  home : s.home = u.home
  bed : s.bed = u.bed
  last : s.last = u.last
  ways : s.ways = u.ways
  tr : s.truths.length = u.truths.length
  dry : ∀ i p m, dryT s i p m = true → dryT u i p m = true
  look : ∀ i j p, i < s.truths.length → j < s.truths.length → lookZ u i p = lookZ u j p → lookZ s i p = lookZ s j p
theorem Wider.waysL {s u : Sn} (e : Wider s u) (p : Nat) : waysL s p = waysL u p := by
  unfold GA.waysL
  rw [e.places]
  have : ∀ k, waysK s p k = waysK u p k := fun k => by
    induction k with
    | zero => rfl
    | succ k ih => rw [waysK, waysK, ih]; unfold waysQ; rw [e.ways]
  exact this _
theorem Wider.emb {s u : Sn} (ok : SnOk s) (e : Wider s u) : Emb s u id id fun i => i < s.truths.length := by
  refine ⟨e.last, fun p h => by show (p : Int) < u.places; rw [← e.places]; exact h, fun p h => by rw [← e.home]; exact h, fun p h => by rw [← e.bed]; exact h, fun p t hp ht => ?_, fun i hi => ⟨hi, by show i < _; rw [← e.tr]; exact hi⟩, fun i p m _ h => e.dry i p m h, fun i j p hi hj h => e.look i j p hi hj h⟩
  have hw := waysL_pos ok ht
  rw [e.waysL] at ht
  show (((t.1.toNat : Nat) : Int), t.2) ∈ GA.waysL u p
  rw [Int.toNat_of_nonneg hw.2.2.1]; exact ht
theorem Wider.worth {s u : Sn} (oks : SnOk s) (oku : SnOk u) (e : Wider s u) {p m B A : Nat} (hm : (m : Int) ≤ s.last) (hp : (p : Int) < s.places) (hA : A ≠ 0) (hB : ∀ i, B.testBit i = true → i < s.truths.length) (hAB : ∀ i, A.testBit i = true → B.testBit i = true) : worthZ s ⟨p, m, B⟩ ≤ worthZ u ⟨p, m, A⟩ :=
  worth_mono oks oku (e.emb oks) _ p m B A (Nat.le_refl _) hm hp hA hB fun j hj => ⟨j, hAB j hj, rfl⟩
theorem part_B {s : Sn} (ok : SnOk s) {p left l : Nat} (h : l ∈ partsL s p left) : l ≠ 0 ∧ ∀ i, l.testBit i = true → i < s.truths.length ∧ left.testBit i = true := by
  obtain ⟨n, -, e, hne⟩ := partsL_mem.1 h
  refine ⟨hne, fun i hi => ?_⟩
  rw [e, partN_bit] at hi
  simp only [Bool.and_eq_true, decide_eq_true_eq] at hi
  rw [ok.k1] at hi
  exact ⟨hi.1, hi.2.2⟩
theorem Wider.start {s u : Sn} (oks : SnOk s) (oku : SnOk u) (e : Wider s u) {m : Nat} (hm : (m : Int) ≤ s.last) : startZ s m ≤ startZ u m := by
  refine startZ_ge (startZ_le s m).1 fun l hl => ?_
  obtain ⟨hne, hlB⟩ := part_B oku hl
  have h1 := oks.h1
  obtain ⟨j, hj⟩ := bit_some hne
  have hj' := hlB j hj
  have hjs : j < s.looks.length := by rw [oks.k1, e.tr]; exact hj'.1
  obtain ⟨n, hn, hlk, hpm, hb⟩ := parts_has oks (p := s.home.toNat) (left := allN s) (by omega) hjs (by rw [allN_bit]; exact decide_eq_true (by rw [← oks.k1]; exact hjs))
  refine Int.le_trans ((startZ_le s m).2 _ hpm) ?_
  rw [← e.home]
  obtain ⟨k, -, ek, -⟩ := partsL_mem.1 hl
  have hbits : ∀ i, l.testBit i = true → i < s.truths.length ∧ lookZ u i u.home.toNat = (k : Nat) := fun i hi => by
    rw [ek, partN_bit] at hi
    simp only [Bool.and_eq_true, decide_eq_true_eq, beq_iff_eq] at hi
    rw [oku.k1, ← e.tr] at hi
    exact ⟨hi.1, hi.2.1⟩
  refine e.worth oks oku hm (by omega) hne (fun i hi => ?_) fun i hi => ?_
  · rw [partN_bit, Bool.and_eq_true, decide_eq_true_eq, oks.k1] at hi
    exact hi.1
  · have hi' := hbits i hi
    have hj2 := hbits j hj
    have hll := e.look i j s.home.toNat hi'.1 hj2.1 (by rw [e.home, hi'.2, hj2.2])
    rw [partN_bit, hll, hlk, allN_bit, decide_eq_true hi'.1, decide_eq_true (by rw [oks.k1]; exact hi'.1)]
    simp
where
  bit_some {l : Nat} (h : l ≠ 0) : ∃ j, l.testBit j = true := by
    refine Classical.byContradiction fun h' => h (bit_ext fun j => ?_)
    rw [Nat.zero_testBit]
    cases hb : l.testBit j with
    | false => rfl
    | true => exact absurd ⟨j, hb⟩ h'
end GA
end

section
namespace GA
open Go Go.RowKit Go.Proofs
set_option pp.deepTerms true
set_option maxRecDepth 8000
set_option linter.unusedVariables false
set_option linter.unusedSimpArgs false

structure XEndE (P : Program) (n : Nat) (H : List Blk) (r' : AV) (k : AV → List Blk → Prop) : Prop where
  o : ∃ r H1, XEnd P n H r' r H1 ∧ k r H1
theorem ACall.bodyE {P : Program} {T : Tab} {N : Nat} {H : List Blk} {f : FuncId} {fn : Func} {c : Code} {rs : List AV} {res : List ResultVar} {k : AV → List Blk → Prop} (ok : TabOk P T) (own : List Nat) (hf : P.funcs[f]? = some fn) (hb : fn.body = some c) (hn : (fn.name == "runtime.NumGoroutine") = false)
    (hN : fn.ntmps = N) (hr : fn.results = res.toArray) (hl : rs.length ≤ N)
    (x : XRun P T N none own c (XIn T res fun r' H' => XEndE P H.length H' r' k) [] (argX rs) H) : ACall P f rs H k := by
  obtain ⟨h1, h2⟩ := ACall.inl ok own hf hb hn hN hr hl x
  refine ⟨h1, fun E h β w vs s hrs => (h2 E h β w vs s hrs).mono ?_⟩
  rintro e w' ⟨r', H', h', β', v, rfl, ⟨r, H1, ⟨g1, g2, g3, g4⟩, hk⟩, X, s', hrep⟩
  have hH : H' = H1 ++ H'.drop H.length := by rw [← g1, List.take_append_drop]
  rw [hH] at s' X hrep g4
  have s2 := s'.allN (by rw [g2]; exact g3)
  have X2 : Ext h β H h' β' H1 := X.cut (by omega)
  rw [g2] at s2
  exact ⟨r, H1, _, β', v, rfl, hk, ⟨fun b o e => hallN_imm s' (X2.imm b o e), by omega, X2.to⟩, s2, g4 E h' β' w' s' v hrep H1⟩
def HpE (f : FuncId) (qs : List AV) (h : Hp) (Φ : AV → Hp → Prop) : Prop :=
  lowL 0 qs = true ∧ ACall Try.prog f (.ptr 0 0 :: qs) [hpC h] fun r' H' => ∃ r h', r.low 0 = true ∧ Φ r h' ∧ r' = r ∧ H' = [hpC h']
theorem XCall.hpE {f : FuncId} {qs : List AV} {h : Hp} {Φ : AV → Hp → Prop} (x : HpE f qs h Φ) {H : List Blk} {k : AV → List Blk → Prop} {j : Nat} (h0 : lget H j = some (hpC h))
    (hk : ∀ r h', Φ r h' → k r (H.set j (hpC h'))) : XCall Try.prog f (.ptr j 0 :: qs) H k := by
  constructor
  have e := ACall.frame (ρ := fun i => j + i) (H := H) (k := k) x.2 (fun a b _ _ h => by have : j + a = j + b := h; omega) ?_ (fun y hy => by simp at hy; subst hy; exact hpC_low h) ?_ ?_
  · have hd : renL (fun i => j + i) qs = qs := renL_low0 x.1
    rw [List.map_cons, ← renL_eq, hd] at e
    exact e
  · intro i x1 hi
    rw [lget_eq] at h0
    rcases i with _ | i
    · simp only [List.getElem?_cons_zero, Option.some.injEq] at hi; subst hi
      rw [hpC_ren]; exact h0
    · simp at hi
  · simp only [lowL, AV.low, lowL_mono (Nat.zero_le _) x.1]; rfl
  · rintro r1 H1' ⟨r, h', hr, hΦ, rfl, rfl⟩
    rw [lget_eq] at h0
    have hj := (List.getElem?_eq_some_iff.1 h0).1
    refine ⟨rfl, H.set j (hpC h'), by simp, fun i x1 hi => ?_, fun q hq => ?_, ?_⟩
    · rcases i with _ | i
      · simp only [List.getElem?_cons_zero, Option.some.injEq] at hi; subst hi
        rw [hpC_ren]; simp [hj]
      · simp at hi
    · exact List.getElem?_set_ne (by have := hq 0 (by simp); simpa using this)
    · rw [AV.ren_low (n := 0) (fun i hi => by omega) hr]; exact hk _ _ hΦ
theorem upto_e (u : Hp) (n : Int) (o : u.Ok) (h1 : -100000 ≤ n) (h2 : n ≤ 100000) : ∃ z u', (0 ≤ z ∧ z ≤ max 0 n) ∧ Hp.Ok u' ∧ HpOk 16 [.int .i64 n] u (.int .i64 z) u' :=
  ⟨_, _, modV_bound u n, hpS_ok o, upto_c u n o h1 h2⟩
theorem from_e (u : Hp) (lo hi : Int) (o : u.Ok) (h1 : -10000 ≤ lo) (h2 : lo ≤ 10000) (h3 : -10000 ≤ hi) (h4 : hi ≤ 10000) : ∃ z u', (lo ≤ z ∧ z ≤ max lo hi) ∧ Hp.Ok u' ∧ HpOk 15 [.int .i64 lo, .int .i64 hi] u (.int .i64 z) u' :=
  ⟨_, _, by have := modV_bound u (hi - lo); omega, hpS_ok o, from_c u lo hi o h1 h2 h3 h4⟩
theorem once_e (u : Hp) (n : Int) (o : u.Ok) (h1 : -10000 ≤ n) (h2 : n ≤ 10000) : ∃ b u', Hp.Ok u' ∧ HpOk 28 [.int .i64 n] u (.bool b) u' :=
  ⟨_, _, hpS_ok o, once_c u n o h1 h2⟩
structure MkOk (s : Sn) (last : Int) : Prop where
  ok : SnOk s
  b : SnB s
  p : 2 ≤ s.places
  h : s.home = 0
  l1 : 4 ≤ s.last
  l2 : s.last ≤ last
  b1 : 1 ≤ s.bed
structure WyOk (P p : Int) (W : List Wy) : Prop where
  w : ∀ w ∈ W, 1 ≤ w.2.2 ∧ w.2.2 ≤ 5 ∧ ((w.1 = w.2.1 - 1 ∧ 1 ≤ w.2.1 ∧ w.2.1 < p) ∨ (0 ≤ w.2.1 ∧ w.2.1 ≤ w.1 - 2 ∧ w.1 < p))
  n : ∀ i, i < W.length → ((W.getD i default).1 == (W.getD i default).2.1 || (W.take i).any fun x => leadB x (W.getD i default).1 (W.getD i default).2.1) = false
  l : (W.length : Int) ≤ 2 * (p - 1)
theorem WyOk.nil {P : Int} : WyOk P 1 [] := ⟨by simp, fun i hi => by simp at hi, by simp⟩
theorem rep_app {W : List Wy} {w : Wy} (h : ∀ i, i < W.length → ((W.getD i default).1 == (W.getD i default).2.1 || (W.take i).any fun x => leadB x (W.getD i default).1 (W.getD i default).2.1) = false) (h1 : w.1 ≠ w.2.1) (h2 : ∀ x ∈ W, leadB x w.1 w.2.1 = false) :
    ∀ i, i < (W ++ [w]).length → (((W ++ [w]).getD i default).1 == ((W ++ [w]).getD i default).2.1 || ((W ++ [w]).take i).any fun x => leadB x ((W ++ [w]).getD i default).1 ((W ++ [w]).getD i default).2.1) = false := by
  intro i hi
  rw [List.length_append, List.length_singleton] at hi
  by_cases e : i < W.length
  · have e1 : (W ++ [w]).getD i default = W.getD i default := by rw [List.getD_eq_getElem?_getD, List.getD_eq_getElem?_getD, List.getElem?_append_left e]
    rw [e1, List.take_append_of_le_length (by omega)]
    exact h i e
  · have e0 : i = W.length := by omega
    have e1 : (W ++ [w]).getD i default = w := by rw [List.getD_eq_getElem?_getD, e0, List.getElem?_append_right (Nat.le_refl _), Nat.sub_self]; rfl
    rw [e1, e0, List.take_append_of_le_length (Nat.le_refl _), List.take_length, Bool.or_eq_false_iff]
    refine ⟨by simpa using h1, ?_⟩
    rw [List.any_eq_false]
    intro x hx
    rw [h2 x hx]; simp
theorem WyOk.one {P p m : Int} {W : List Wy} (h : WyOk P p W) (hp : 1 ≤ p) (h1 : 1 ≤ m) (h2 : m ≤ 5) : WyOk P (p + 1) (W ++ [(p - 1, p, m)]) := by
  refine ⟨fun w hw => ?_, rep_app h.n (by dsimp only; omega) fun x hx => ?_, ?_⟩
  · rcases List.mem_append.1 hw with hw | hw
    · have := h.w w hw; omega
    · rw [List.mem_singleton] at hw; subst hw; dsimp only; omega
  · rw [← Bool.not_eq_true, leadB_iff]
    have := h.w x hx
    dsimp only; omega
  · have := h.l
    rw [List.length_append, List.length_singleton]; omega
theorem WyOk.two {P p q m m2 : Int} {W : List Wy} (h : WyOk P p W) (hp : 1 ≤ p) (h1 : 1 ≤ m) (h2 : m ≤ 5) (h3 : 1 ≤ m2) (h4 : m2 ≤ 5) (hq : 0 ≤ q) (hq2 : q ≤ p - 2) : WyOk P (p + 1) ((W ++ [(p - 1, p, m)]) ++ [(p, q, m2)]) := by
  have h' := h.one hp h1 h2
  refine ⟨fun w hw => ?_, rep_app h'.n (by dsimp only; omega) fun x hx => ?_, ?_⟩
  · rcases List.mem_append.1 hw with hw | hw
    · exact h'.w w hw
    · rw [List.mem_singleton] at hw; subst hw; dsimp only; omega
  · rw [← Bool.not_eq_true, leadB_iff]
    dsimp only
    rcases List.mem_append.1 hx with hx | hx
    · have := h.w x hx; omega
    · rw [List.mem_singleton] at hx; subst hx; dsimp only; omega
  · have := h.l
    rw [List.length_append, List.length_append, List.length_singleton, List.length_singleton]; omega
theorem mk_ok {P bed last lim : Int} {W : List Wy} {looks : List Rw} {truths : List Tru} {nw nk nt : Bool} (hP : 2 ≤ P ∧ P ≤ 5) (hb : 1 ≤ bed ∧ bed ≤ P - 1) (hl : 4 ≤ last ∧ last ≤ lim) (hlim : lim ≤ 60) (hW : WyOk P P W)
    (hk : ∀ r ∈ looks, (r.2.length : Int) = P ∧ ∀ n ∈ r.2, 0 ≤ n ∧ n ≤ 3) (ht : ∀ t ∈ truths, (t.2.length : Int) = P ∧ ∀ r ∈ t.2, spE last none r.2 = 0 ∧ r.2.length ≤ 2) (hkl : looks.length = truths.length) (ht1 : 1 ≤ truths.length) (ht2 : truths.length ≤ 4) :
    MkOk ⟨P, 0, bed, last, nw, W, nk, looks, nt, truths⟩ lim := by
  have hwl := hW.l
  refine ⟨⟨by dsimp only; omega, by dsimp only; omega, ht1, ht2, by dsimp only; omega, hkl, fun l h => (hk l h).1, fun t h => (ht t h).1, by dsimp only; omega, by dsimp only; omega, fun w hw => ?_, fun l h n hn => (hk l h).2 n hn, by dsimp only; omega, by dsimp only; omega, fun w hw => ?_, by dsimp only; omega, hW.n, fun t h r hr => ((ht t h).2 r hr).1⟩,
    ⟨by dsimp only; omega, by dsimp only; omega, by dsimp only; omega, fun r h => by have := (hk r h).1; omega, fun t h => by have := (ht t h).1; omega, fun t h r hr => by have := ((ht t h).2 r hr).2; omega⟩, hP.1, rfl, hl.1, hl.2, hb.1⟩
  · have := hW.w w hw; first | omega | (dsimp only; omega)
  · have := hW.w w hw; first | omega | (dsimp only; omega)
theorem sp_one {last lo hi : Int} (h1 : 0 ≤ lo) (h2 : lo ≤ hi) (h3 : hi ≤ last) : spE last none [(lo, hi)] = 0 := by
  rw [spE, spE]
  rw [if_neg (by rw [inZ_iff.2 ⟨h1, by first | omega | (dsimp only; omega)⟩, inZ_iff.2 ⟨h2, h3⟩]; simp), if_neg (by simp [spBad])]
theorem sp_two {last lo cut hi : Int} (h1 : 0 ≤ lo) (h2 : lo + 1 < cut) (h3 : cut < hi - 1) (h4 : hi ≤ last) : spE last none [(lo, cut - 1), (cut + 1, hi)] = 0 := by
  rw [spE, spE, spE]
  rw [if_neg (by rw [inZ_iff.2 ⟨h1, by first | omega | (dsimp only; omega)⟩, inZ_iff.2 ⟨by first | omega | (dsimp only; omega), by first | omega | (dsimp only; omega)⟩]; simp), if_neg (by simp [spBad]), if_neg (by rw [inZ_iff.2 ⟨by first | omega | (dsimp only; omega), by first | omega | (dsimp only; omega)⟩, inZ_iff.2 ⟨by first | omega | (dsimp only; omega), by first | omega | (dsimp only; omega)⟩]; simp), if_neg (by show ¬ decide (cut + 1 ≤ cut - 1 + 1) = true; simp; omega)]
end GA
end

section
namespace GA
open Go Go.RowKit Go.Proofs
set_option pp.deepTerms true
set_option maxRecDepth 8000
set_option linter.unusedVariables false
set_option linter.unusedSimpArgs false

def zSn : List AV := [.int .i64 0, .int .i64 0, .int .i64 0, .int .i64 0, .sl true [], .sl true [], .sl true []]
theorem ints_app (a b : List Int) : ints (a ++ b) = ints a ++ ints b := List.map_append
theorem hpLow {h : Hp} {x : Blk} (hx : x ∈ [hpC h]) : x.low 1 = true := by rw [List.mem_singleton] at hx; subst hx; exact hpC_low _
theorem Walk.heapE {P : Program} {N : Nat} {r : Option Nat} {c : Code} {Q : Post} {D : List Nat} {σ : St} {H : List Blk} (H' : List Blk) (h : H' = H) (x : Walk P N r c Q D σ H') : Walk P N r c Q D σ H := h ▸ x
set_option maxHeartbeats 8000000 in
theorem fordMade_c (u : Hp) (last : Int) (o : u.Ok) (hl1 : 4 ≤ last) (hl2 : last ≤ 60) : HpE 7 [.int .i64 last] u fun r u' => ∃ s, r = snA s ∧ MkOk s last ∧ u'.Ok := by
  refine ⟨rfl, ?_⟩
  obtain ⟨P, u1, hP, o1, hc1⟩ := from_e u 2 5 o (by omega) (by omega) (by omega) (by omega)
  have hmn : min 4 last = 4 := by omega
  obtain ⟨L, u2, hL, o2, hc2⟩ := from_e u1 4 last o1 (by omega) (by omega) (by omega) (by omega)
  obtain ⟨bd, u3, hbd, o3, hc3⟩ := from_e u2 1 (P - 1) o2 (by omega) (by omega) (by omega) (by omega)
  rw [← hmn] at hc2
  refine ACall.bodyE (T := tab) (res := [.cell 4 27]) tab_ok [] Try.func7 rfl (by kernel_rfl) Try.ntmps7 rfl (by simp only [List.length_cons, List.length_nil]; decide) ?_; conv => whnf
  repeat' first | ((first | (with_reducible refine XInt.i64 (by omega) (by omega) ?_) | (refine XCall.hp (j := 0) hc1 rfl rfl ?_) | (refine XCall.hp (j := 0) hc2 rfl rfl ?_) | (refine XCall.hp (j := 0) hc3 rfl rfl ?_)); conv => whnf) | fail
  refine Walk.nilcell 2 4 56 rfl rfl ?_
  refine Walk.heapE [hpC u3, .cells zSn, .cells [.int .i64 P, .int .i64 0, .int .i64 bd, .int .i64 L, .gr 3 0, .sl true [], .sl true []], .grow 56 true []] rfl ?_
  clear hc1 hc2 hc3 hmn o o1 o2
  refine Walk.loopK tab_ok [] [(0, _), (4, _), (5, _)] ⟨rfl, rfl, rfl, trivial⟩ (fun g : Nat × List Wy × Hp => (1 ≤ g.1 ∧ (g.1 : Int) ≤ P) ∧ g.2.2.Ok ∧ WyOk P g.1 g.2.1) (fun g => [(6, natA g.1)]) (fun g => [hpC g.2.2, .cells zSn, .cells [.int .i64 P, .int .i64 0, .int .i64 bd, .int .i64 L, .gr 3 g.2.1.length, .sl true [], .sl true []], .grow 56 g.2.1.isEmpty (g.2.1.map wyA)]) (fun g => P.toNat - g.1) (1, [], u3) ⟨⟨Nat.le_refl _, by dsimp only; omega⟩, o3, WyOk.nil⟩ rfl ⟨rfl, trivial⟩ ?_
  clear o3
  rintro ⟨p, W, v⟩ ⟨⟨hp1, hp2⟩, ov, hW⟩
  dsimp only at hp1 hp2 ov hW ⊢
  have hWl := hW.l
  have hWm : (W.map wyA).length = W.length := List.length_map _
  conv => whnf
  by_cases hlt : (p : Int) < P
  · obtain ⟨m1, v1, hm1, ov1, hd1⟩ := from_e v 1 3 ov (by omega) (by omega) (by omega) (by omega)
    have hW1 := hW.one (m := m1) (by omega) (by omega) (by omega)
    by_cases hp : 1 < p
    · obtain ⟨b, v2, ov2, hd2⟩ := once_e v1 3 ov1 (by omega) (by omega)
      cases b with
      | false =>
        repeat' first | ((first | (with_reducible apply XBr.tt) | (with_reducible apply XBr.ff)); conv => whnf) | ((with_reducible apply XBr.dec) <;> (intro h; first | (exfalso; omega) | ((try simp only [List.length_map] at h); first | (exfalso; omega) | (conv => whnf)))) | ((with_reducible refine XInt.i64 (by omega) (by omega) ?_); conv => whnf) | ((with_reducible refine XHold.mk ?_ ?_); (first | omega | rfl | decide | exact ⟨rfl, by decide, rfl⟩ | exact wideI _ | exact widePr _ | exact wideSk _ | (unfold Room; constructor <;> ((try simp) <;> omega)) | exact ⟨rfl, by simp only [List.length_map], by unfold Room; constructor <;> ((try simp) <;> omega)⟩ | exact ⟨by omega, by omega, by unfold Room; constructor <;> ((try simp) <;> omega)⟩); conv => whnf) | (with_reducible apply XAnd.mk) | ((first | (with_reducible apply Chk.go) | (with_reducible apply ChkA.go) | (with_reducible apply ChkF.go) | (with_reducible apply ChkB.go)); conv => whnf) | (exact XSame.mk rfl rfl) | (with_reducible exact trivial) | (apply Walk.drawN (id := 6) tab_ok mixed_ok [] [6, 9, 11] (hsC [_, _, _, _]) [_, _, _, _, _, _, _, _, _, _, _, _] (by kernel_rfl) rfl) | ((first | (with_reducible apply XNext.mk) | (refine XCall.hp (j := 0) hd1 rfl rfl ?_) | (refine XCall.hp (j := 0) hd2 rfl rfl ?_)); conv => whnf) | fail
        refine XAgain.go (p + 1, W ++ [((p : Int) - 1, (p : Int), m1)], v2) ⟨⟨by dsimp only; omega, by dsimp only; omega⟩, ov2, hW1⟩ (by dsimp only; omega) ?_ ⟨rfl, rfl, rfl, rfl, trivial⟩
        dsimp only
        rw [List.length_append, isEmpty_app, List.map_append]; rfl
      | true =>
        obtain ⟨q, v3, hq, ov3, hd3⟩ := upto_e v2 ((p : Int) - 2) ov2 (by omega) (by omega)
        obtain ⟨m2, v4, hm2, ov4, hd4⟩ := from_e v3 1 5 ov3 (by omega) (by omega) (by omega) (by omega)
        have hW2 := hW.two (m := m1) (q := q) (m2 := m2) (by omega) (by omega) (by omega) (by omega) (by omega) (by omega) (by omega)
        repeat' first | ((with_reducible apply XBr.tt); conv => whnf) | ((with_reducible apply XBr.dec) <;> (intro h; first | (exfalso; omega) | ((try simp only [List.length_map] at h); first | (exfalso; omega) | (conv => whnf)))) | ((with_reducible refine XInt.i64 (by omega) (by omega) ?_); conv => whnf) | ((with_reducible refine XHold.mk ?_ ?_); (first | omega | rfl | decide | exact ⟨rfl, by decide, rfl⟩ | exact wideI _ | exact widePr _ | exact wideSk _ | (unfold Room; constructor <;> ((try simp) <;> omega)) | exact ⟨rfl, by simp only [List.length_map], by unfold Room; constructor <;> ((try simp) <;> omega)⟩ | exact ⟨by omega, by omega, by unfold Room; constructor <;> ((try simp) <;> omega)⟩); conv => whnf) | (with_reducible apply XAnd.mk) | ((first | (with_reducible apply Chk.go) | (with_reducible apply ChkA.go) | (with_reducible apply ChkF.go) | (with_reducible apply ChkB.go)); conv => whnf) | (exact XSame.mk rfl rfl) | (with_reducible exact trivial) | (apply Walk.drawN (id := 6) tab_ok mixed_ok [] [6, 9, 11] (hsC [_, _, _, _]) [_, _, _, _, _, _, _, _, _, _, _, _] (by kernel_rfl) rfl) | ((first | (with_reducible apply XNext.mk) | (refine XCall.hp (j := 0) hd1 rfl rfl ?_) | (refine XCall.hp (j := 0) hd2 rfl rfl ?_)); conv => whnf) | fail
        apply Walk.drawX tab_ok mixed_ok [] [6, 8, 11, 13] (hsC [_, _, _, _, _]) [_, _, _, _, _, _, _, _, _, _, _, _, _, _] (by kernel_rfl) rfl
        · skip
          repeat' first | ((with_reducible refine XInt.i64 (by omega) (by omega) ?_); conv => whnf) | ((with_reducible refine XHold.mk ?_ ?_); (first | omega | rfl | decide | exact ⟨rfl, by decide, rfl⟩ | exact wideI _ | exact widePr _ | exact wideSk _ | (unfold Room; constructor <;> ((try simp) <;> omega)) | exact ⟨rfl, by simp only [List.length_map], by unfold Room; constructor <;> ((try simp) <;> omega)⟩ | exact ⟨by omega, by omega, by unfold Room; constructor <;> ((try simp) <;> omega)⟩); conv => whnf) | (with_reducible apply XAnd.mk) | ((first | (with_reducible apply Chk.go) | (with_reducible apply ChkA.go)); conv => whnf) | (exact XSame.mk rfl rfl) | (with_reducible exact trivial) | ((first | (refine XCall.hp (j := 0) hd3 rfl rfl ?_) | (refine XCall.hp (j := 0) hd4 rfl rfl ?_)); conv => whnf) | fail
        · skip
          repeat' first | ((with_reducible refine XHold.mk ?_ ?_); (first | omega | rfl | decide | exact ⟨rfl, by decide, rfl⟩ | exact wideI _ | exact widePr _ | exact wideSk _ | (unfold Room; constructor <;> ((try simp) <;> omega)) | exact ⟨rfl, by simp only [List.length_map], by unfold Room; constructor <;> ((try simp) <;> omega)⟩ | exact ⟨by omega, by omega, by unfold Room; constructor <;> ((try simp) <;> omega)⟩); conv => whnf) | (with_reducible apply XAnd.mk) | ((first | (with_reducible apply Chk.go) | (with_reducible apply ChkF.go) | (with_reducible apply ChkB.go)); conv => whnf) | (exact XSame.mk rfl rfl) | (with_reducible exact trivial) | fail
        conv => whnf
        repeat' first | ((with_reducible refine XInt.i64 (by omega) (by omega) ?_); conv => whnf) | fail
        refine XAgain.go (p + 1, (W ++ [((p : Int) - 1, (p : Int), m1)]) ++ [((p : Int), q, m2)], v4) ⟨⟨by dsimp only; omega, by dsimp only; omega⟩, ov4, hW2⟩ (by dsimp only; omega) ?_ ⟨rfl, rfl, rfl, rfl, trivial⟩
        dsimp only
        rw [List.length_append, isEmpty_app, List.map_append, List.length_append, isEmpty_app, List.map_append]; rfl
    · skip
      repeat' first | ((with_reducible apply XBr.ff); conv => whnf) | ((with_reducible apply XBr.dec) <;> (intro h; first | (exfalso; omega) | ((try simp only [List.length_map] at h); first | (exfalso; omega) | (conv => whnf)))) | ((with_reducible refine XInt.i64 (by omega) (by omega) ?_); conv => whnf) | ((with_reducible refine XHold.mk ?_ ?_); (first | omega | rfl | decide | exact ⟨rfl, by decide, rfl⟩ | exact wideI _ | exact widePr _ | exact wideSk _ | (unfold Room; constructor <;> ((try simp) <;> omega)) | exact ⟨rfl, by simp only [List.length_map], by unfold Room; constructor <;> ((try simp) <;> omega)⟩ | exact ⟨by omega, by omega, by unfold Room; constructor <;> ((try simp) <;> omega)⟩); conv => whnf) | (with_reducible apply XAnd.mk) | ((first | (with_reducible apply Chk.go) | (with_reducible apply ChkA.go) | (with_reducible apply ChkF.go) | (with_reducible apply ChkB.go)); conv => whnf) | (exact XSame.mk rfl rfl) | (with_reducible exact trivial) | (apply Walk.drawN (id := 6) tab_ok mixed_ok [] [6, 9, 11] (hsC [_, _, _, _]) [_, _, _, _, _, _, _, _, _, _, _, _] (by kernel_rfl) rfl) | ((first | (with_reducible apply XNext.mk) | (refine XCall.hp (j := 0) hd1 rfl rfl ?_)); conv => whnf) | fail
      refine XAgain.go (p + 1, W ++ [((p : Int) - 1, (p : Int), m1)], v1) ⟨⟨by dsimp only; omega, by dsimp only; omega⟩, ov1, hW1⟩ (by dsimp only; omega) ?_ ⟨rfl, rfl, rfl, rfl, trivial⟩
      dsimp only
      rw [List.length_append, isEmpty_app, List.map_append]; rfl
  have hpP : (p : Int) = P := by omega
  rw [hpP] at hW
  obtain ⟨N, v1, hN, ov1, hd1⟩ := from_e v 1 4 ov (by omega) (by omega) (by omega) (by omega)
  repeat' first | ((with_reducible apply XBr.dec) <;> (intro h; first | (exfalso; omega) | ((try simp only [List.length_map] at h); first | (exfalso; omega) | (conv => whnf)))) | ((refine XCall.hp (j := 0) hd1 rfl rfl ?_); conv => whnf) | fail
  refine Walk.freezeCell 2 4 3 W.length rfl rfl rfl hWm ?_
  refine Walk.nilcell 2 5 43 rfl rfl ?_
  refine Walk.nilcell 2 6 37 rfl rfl ?_
  refine Walk.heapE [hpC v1, .cells zSn, .cells [.int .i64 P, .int .i64 0, .int .i64 bd, .int .i64 L, .sl W.isEmpty (W.map wyA), .gr 4 0, .gr 5 0], .dead, .grow 43 true [], .grow 37 true []] rfl ?_
  clear hd1 ov
  refine Walk.loopGK tab_ok [] [(0, _), (4, _), (5, _), (66, _)] ⟨rfl, rfl, rfl, rfl, trivial⟩ (fun g : Nat × List Rw × List Tru × Hp => (g.1 : Int) ≤ N ∧ g.2.2.2.Ok ∧ (g.2.1.length = g.1 ∧ g.2.2.1.length = g.1) ∧ (∀ r ∈ g.2.1, (r.2.length : Int) = P ∧ ∀ n ∈ r.2, 0 ≤ n ∧ n ≤ 3) ∧ ∀ t ∈ g.2.2.1, (t.2.length : Int) = P ∧ ∀ r ∈ t.2, spE L none r.2 = 0 ∧ r.2.length ≤ 2) (fun g => [(67, natA g.1)]) (fun g => [hpC g.2.2.2, .cells zSn, .cells [.int .i64 P, .int .i64 0, .int .i64 bd, .int .i64 L, .sl W.isEmpty (W.map wyA), .gr 4 g.2.1.length, .gr 5 g.2.2.1.length], .dead, .grow 43 g.2.1.isEmpty (g.2.1.map rwA), .grow 37 g.2.2.1.isEmpty (g.2.2.1.map trA)]) (fun g => N.toNat - g.1) (0, [], [], v1) ⟨by dsimp only; omega, ov1, ⟨rfl, rfl⟩, by simp, by simp⟩ rfl ⟨rfl, trivial⟩ ?_ (fun _ _ => (show (6 : Nat) ≤ 6 from Nat.le_refl 6)) ?_
  · intro g _
    refine ⟨fun z hz => ?_, fun z hz => ?_⟩
    · simp only [List.mem_cons, List.not_mem_nil, or_false] at hz
      rcases hz with rfl | rfl | rfl | rfl | rfl | rfl
      · exact hpC_low _
      · rfl
      · simp only [Blk.low, lowL, AV.low, lowWy]; rfl
      · rfl
      · exact lowRk _
      · exact lowTr _
    · simp only [List.cons_append, List.nil_append, List.mem_cons, List.not_mem_nil, or_false] at hz
      rcases hz with rfl | rfl | rfl | rfl | rfl <;> rfl
  clear ov1
  rintro ⟨k, looks, truths, v⟩ ⟨hk, ov, ⟨hll, htl⟩, hlk, htr⟩
  dsimp only at hk ov hll htl hlk htr ⊢
  have hlm : (looks.map rwA).length = looks.length := List.length_map _
  have htm : (truths.map trA).length = truths.length := List.length_map _
  conv => whnf
  by_cases hlt : (k : Int) < N
  · skip
    repeat' first | ((with_reducible apply XBr.dec) <;> (intro h; first | (exfalso; omega) | ((try simp only [List.length_map] at h); first | (exfalso; omega) | (conv => whnf)))) | fail
    refine Walk.nilgr 7 3 rfl ?_
    refine Walk.nilcell 6 0 34 rfl rfl ?_
    refine Walk.heapE [hpC v, .cells zSn, .cells [.int .i64 P, .int .i64 0, .int .i64 bd, .int .i64 L, .sl W.isEmpty (W.map wyA), .gr 4 looks.length, .gr 5 truths.length], .dead, .grow 43 looks.isEmpty (looks.map rwA), .grow 37 truths.isEmpty (truths.map trA), .cells [.gr 8 0], .grow 3 true [], .grow 34 true []] rfl ?_
    refine Walk.loopK tab_ok [] [(0, _), (4, _), (5, _), (8, _), (66, _), (67, _), (70, _)] ⟨rfl, rfl, rfl, rfl, rfl, rfl, rfl, trivial⟩ (fun g : Nat × List Int × List Sps × Hp => (g.1 : Int) ≤ P ∧ g.2.2.2.Ok ∧ (g.2.1.length = g.1 ∧ g.2.2.1.length = g.1) ∧ (∀ n ∈ g.2.1, 0 ≤ n ∧ n ≤ 3) ∧ ∀ r ∈ g.2.2.1, spE L none r.2 = 0 ∧ r.2.length ≤ 2) (fun g => [(7, .gr 7 g.2.1.length), (71, natA g.1)]) (fun g => [hpC g.2.2.2, .cells zSn, .cells [.int .i64 P, .int .i64 0, .int .i64 bd, .int .i64 L, .sl W.isEmpty (W.map wyA), .gr 4 looks.length, .gr 5 truths.length], .dead, .grow 43 looks.isEmpty (looks.map rwA), .grow 37 truths.isEmpty (truths.map trA), .cells [.gr 8 g.2.2.1.length], .grow 3 g.2.1.isEmpty (ints g.2.1), .grow 34 g.2.2.1.isEmpty (g.2.2.1.map spsA)]) (fun g => P.toNat - g.1) (0, [], [], v) ⟨by dsimp only; omega, ov, ⟨rfl, rfl⟩, by simp, by simp⟩ rfl ⟨rfl, rfl, trivial⟩ ?_
    clear ov
    rintro ⟨q, row, dry, v⟩ ⟨hq, ov, ⟨hrl, hdl⟩, hrow, hdry⟩
    dsimp only at hq ov hrl hdl hrow hdry ⊢
    have hrm : (ints row).length = row.length := ints_len _
    have hdm : (dry.map spsA).length = dry.length := List.length_map _
    conv => whnf
    by_cases hlt2 : (q : Int) < P
    · have htd : L.tdiv 2 = L / 2 := Int.tdiv_eq_ediv_of_nonneg (by omega)
      have htd1 : 0 ≤ L.tdiv 2 ∧ L.tdiv 2 ≤ L - 2 := by rw [htd]; omega
      obtain ⟨z1, v1, hz1, ov1, hd1⟩ := upto_e v 3 ov (by omega) (by omega)
      obtain ⟨z2, v2, hz2, ov2, hd2⟩ := upto_e v1 1 ov1 (by omega) (by omega)
      obtain ⟨z3, v3, hz3, ov3, hd3⟩ := upto_e v2 2 ov2 (by omega) (by omega)
      obtain ⟨z4, v4, hz4, ov4, hd4⟩ := upto_e v3 (L.tdiv 2) ov3 (by omega) (by omega)
      obtain ⟨z5, v5, hz5, ov5, hd5⟩ := upto_e v4 L ov4 (by omega) (by omega)
      obtain ⟨b, v6, ov6, hd6⟩ := once_e v5 4 ov5 (by omega) (by omega)
      have hzz : 0 ≤ z1 * z2 ∧ z1 * z2 ≤ 3 := by
        have : z2 = 0 ∨ z2 = 1 := by omega
        rcases this with h | h <;> rw [h] <;> omega
      have hrow' : ∀ n ∈ row ++ [z1 * z2], 0 ≤ n ∧ n ≤ 3 := fun n hn => by
        rcases List.mem_append.1 hn with hn | hn
        · exact hrow n hn
        · rw [List.mem_singleton] at hn; rw [hn]; exact hzz
      have hstep : ∀ r : Sps, spE L none r.2 = 0 → r.2.length ≤ 2 → ((q + 1 : Nat) : Int) ≤ P ∧ v6.Ok ∧ ((row ++ [z1 * z2]).length = q + 1 ∧ (dry ++ [r]).length = q + 1) ∧ (∀ n ∈ row ++ [z1 * z2], 0 ≤ n ∧ n ≤ 3) ∧ ∀ r' ∈ dry ++ [r], spE L none r'.2 = 0 ∧ r'.2.length ≤ 2 := fun r h1 h2 => ⟨by omega, ov6, ⟨by rw [List.length_append, hrl]; rfl, by rw [List.length_append, hdl]; rfl⟩, hrow', fun r' hr' => by
        rcases List.mem_append.1 hr' with hr' | hr'
        · exact hdry r' hr'
        · rw [List.mem_singleton] at hr'; rw [hr']; exact ⟨h1, h2⟩⟩
      by_cases hq0 : (q : Int) = 0
      · skip
        by_cases hc : b = true ∧ 0 + 1 < z5 ∧ z5 < L - 1
        · obtain ⟨hcb, hc1, hc2⟩ := hc
          subst hcb
          repeat' first | ((with_reducible apply XBr.tt); conv => whnf) | ((with_reducible apply XBr.dec) <;> (intro h; first | (exfalso; omega) | ((try simp only [List.length_map] at h); first | (exfalso; omega) | (conv => whnf)))) | ((with_reducible apply XBr.beq) <;> (intro h; first | (exfalso; omega) | (conv => whnf))) | ((with_reducible refine XInt.i64 (by omega) (by omega) ?_); conv => whnf) | ((with_reducible refine XHold.mk ?_ ?_); (first | omega | rfl | decide | exact ⟨rfl, by decide, rfl⟩ | exact wideI _ | exact widePr _ | exact wideSk _ | (unfold Room; constructor <;> ((try simp) <;> omega)) | exact ⟨rfl, by simp only [List.length_map], by unfold Room; constructor <;> ((try simp) <;> omega)⟩ | exact ⟨by omega, by omega, by unfold Room; constructor <;> ((try simp) <;> omega)⟩); conv => whnf) | (with_reducible apply XAnd.mk) | ((first | (with_reducible apply Chk.go) | (with_reducible apply ChkA.go) | (with_reducible apply ChkF.go) | (with_reducible apply ChkB.go)); conv => whnf) | (exact XSame.mk rfl rfl) | (with_reducible exact trivial) | (apply Walk.drawN (id := 17) tab_ok mixed_ok [] [1, 8] (hsC [_, _, _]) [_, _, _, _, _, _, _, _, _, _, _, _] (by kernel_rfl) rfl) | (apply Walk.drawN (id := 19) tab_ok mixed_ok [] [] (hsU _) [_, _, _, _] (by kernel_rfl) rfl) | ((first | (with_reducible apply XNext.mk) | (refine XCall.hp (j := 0) hd1 rfl rfl ?_) | (refine XCall.hp (j := 0) hd2 rfl rfl ?_) | (refine XCall.hp (j := 0) hd3 rfl rfl ?_) | (refine XCall.hp (j := 0) hd4 rfl rfl ?_) | (refine XCall.hp (j := 0) hd5 rfl rfl ?_) | (refine XCall.hp (j := 0) hd6 rfl rfl ?_)); conv => whnf) | fail
          all_goals
            refine XAgain.go (q + 1, row ++ [z1 * z2], dry ++ [((false, [(0, z5 - 1), (z5 + 1, L)]) : Sps)], v6) (hstep _ (by exact sp_two (by omega) (by omega) (by omega) (by omega)) (by simp)) (by dsimp only; omega) ?_ ⟨rfl, rfl, rfl, rfl, rfl, rfl, rfl, (by rw [List.length_append]; rfl), rfl, trivial⟩
            dsimp only
            rw [List.length_append, isEmpty_app, isEmpty_app, List.map_append, ints_app]; rfl
        cases b with
        | false =>
          repeat' first | ((with_reducible apply XBr.ff); conv => whnf) | ((with_reducible apply XBr.dec) <;> (intro h; first | (exfalso; omega) | ((try simp only [List.length_map] at h); first | (exfalso; omega) | (conv => whnf)))) | ((with_reducible apply XBr.beq) <;> (intro h; first | (exfalso; omega) | (conv => whnf))) | ((with_reducible refine XInt.i64 (by omega) (by omega) ?_); conv => whnf) | ((with_reducible refine XHold.mk ?_ ?_); (first | omega | rfl | decide | exact ⟨rfl, by decide, rfl⟩ | exact wideI _ | exact widePr _ | exact wideSk _ | (unfold Room; constructor <;> ((try simp) <;> omega)) | exact ⟨rfl, by simp only [List.length_map], by unfold Room; constructor <;> ((try simp) <;> omega)⟩ | exact ⟨by omega, by omega, by unfold Room; constructor <;> ((try simp) <;> omega)⟩); conv => whnf) | (with_reducible apply XAnd.mk) | ((first | (with_reducible apply Chk.go) | (with_reducible apply ChkA.go) | (with_reducible apply ChkF.go) | (with_reducible apply ChkB.go)); conv => whnf) | (exact XSame.mk rfl rfl) | (with_reducible exact trivial) | (apply Walk.drawN (id := 17) tab_ok mixed_ok [] [1, 8] (hsC [_, _, _]) [_, _, _, _, _, _, _, _, _, _, _, _] (by kernel_rfl) rfl) | (apply Walk.drawN (id := 19) tab_ok mixed_ok [] [] (hsU _) [_, _, _, _] (by kernel_rfl) rfl) | ((first | (with_reducible apply XNext.mk) | (refine XCall.hp (j := 0) hd1 rfl rfl ?_) | (refine XCall.hp (j := 0) hd2 rfl rfl ?_) | (refine XCall.hp (j := 0) hd3 rfl rfl ?_) | (refine XCall.hp (j := 0) hd4 rfl rfl ?_) | (refine XCall.hp (j := 0) hd5 rfl rfl ?_) | (refine XCall.hp (j := 0) hd6 rfl rfl ?_)); conv => whnf) | fail
          all_goals
            refine XAgain.go (q + 1, row ++ [z1 * z2], dry ++ [((false, [(0, max 0 (L))]) : Sps)], v6) (hstep _ (by exact sp_one (by omega) (by omega) (by omega)) (by simp)) (by dsimp only; omega) ?_ ⟨rfl, rfl, rfl, rfl, rfl, rfl, rfl, (by rw [List.length_append]; rfl), rfl, trivial⟩
            dsimp only
            rw [List.length_append, isEmpty_app, isEmpty_app, List.map_append, ints_app]; rfl
        | true =>
          have hc' : ¬ (0 + 1 < z5 ∧ z5 < L - 1) := fun h => hc ⟨rfl, h⟩
          repeat' first | ((first | (with_reducible apply XBr.tt) | (with_reducible apply XBr.ff)); conv => whnf) | ((with_reducible apply XBr.dec) <;> (intro h; first | (exfalso; omega) | ((try simp only [List.length_map] at h); first | (exfalso; omega) | (conv => whnf)))) | ((with_reducible apply XBr.beq) <;> (intro h; first | (exfalso; omega) | (conv => whnf))) | ((with_reducible refine XInt.i64 (by omega) (by omega) ?_); conv => whnf) | ((with_reducible refine XHold.mk ?_ ?_); (first | omega | rfl | decide | exact ⟨rfl, by decide, rfl⟩ | exact wideI _ | exact widePr _ | exact wideSk _ | (unfold Room; constructor <;> ((try simp) <;> omega)) | exact ⟨rfl, by simp only [List.length_map], by unfold Room; constructor <;> ((try simp) <;> omega)⟩ | exact ⟨by omega, by omega, by unfold Room; constructor <;> ((try simp) <;> omega)⟩); conv => whnf) | (with_reducible apply XAnd.mk) | ((first | (with_reducible apply Chk.go) | (with_reducible apply ChkA.go) | (with_reducible apply ChkF.go) | (with_reducible apply ChkB.go)); conv => whnf) | (exact XSame.mk rfl rfl) | (with_reducible exact trivial) | (apply Walk.drawN (id := 17) tab_ok mixed_ok [] [1, 8] (hsC [_, _, _]) [_, _, _, _, _, _, _, _, _, _, _, _] (by kernel_rfl) rfl) | (apply Walk.drawN (id := 19) tab_ok mixed_ok [] [] (hsU _) [_, _, _, _] (by kernel_rfl) rfl) | ((first | (with_reducible apply XNext.mk) | (refine XCall.hp (j := 0) hd1 rfl rfl ?_) | (refine XCall.hp (j := 0) hd2 rfl rfl ?_) | (refine XCall.hp (j := 0) hd3 rfl rfl ?_) | (refine XCall.hp (j := 0) hd4 rfl rfl ?_) | (refine XCall.hp (j := 0) hd5 rfl rfl ?_) | (refine XCall.hp (j := 0) hd6 rfl rfl ?_)); conv => whnf) | fail
          all_goals
            refine XAgain.go (q + 1, row ++ [z1 * z2], dry ++ [((false, [(0, max 0 (L))]) : Sps)], v6) (hstep _ (by exact sp_one (by omega) (by omega) (by omega)) (by simp)) (by dsimp only; omega) ?_ ⟨rfl, rfl, rfl, rfl, rfl, rfl, rfl, (by rw [List.length_append]; rfl), rfl, trivial⟩
            dsimp only
            rw [List.length_append, isEmpty_app, isEmpty_app, List.map_append, ints_app]; rfl
      · skip
        by_cases hc : b = true ∧ z3 + 1 < z5 ∧ z5 < (L - z4) - 1
        · obtain ⟨hcb, hc1, hc2⟩ := hc
          subst hcb
          repeat' first | ((with_reducible apply XBr.tt); conv => whnf) | ((with_reducible apply XBr.dec) <;> (intro h; first | (exfalso; omega) | ((try simp only [List.length_map] at h); first | (exfalso; omega) | (conv => whnf)))) | ((with_reducible apply XBr.beq) <;> (intro h; first | (exfalso; omega) | (conv => whnf))) | ((with_reducible refine XInt.i64 (by omega) (by omega) ?_); conv => whnf) | ((with_reducible refine XHold.mk ?_ ?_); (first | omega | rfl | decide | exact ⟨rfl, by decide, rfl⟩ | exact wideI _ | exact widePr _ | exact wideSk _ | (unfold Room; constructor <;> ((try simp) <;> omega)) | exact ⟨rfl, by simp only [List.length_map], by unfold Room; constructor <;> ((try simp) <;> omega)⟩ | exact ⟨by omega, by omega, by unfold Room; constructor <;> ((try simp) <;> omega)⟩); conv => whnf) | (with_reducible apply XAnd.mk) | ((first | (with_reducible apply Chk.go) | (with_reducible apply ChkA.go) | (with_reducible apply ChkF.go) | (with_reducible apply ChkB.go)); conv => whnf) | (exact XSame.mk rfl rfl) | (with_reducible exact trivial) | (apply Walk.drawN (id := 17) tab_ok mixed_ok [] [1, 8] (hsC [_, _, _]) [_, _, _, _, _, _, _, _, _, _, _, _] (by kernel_rfl) rfl) | ((first | (with_reducible apply XNext.mk) | (refine XCall.hp (j := 0) hd1 rfl rfl ?_) | (refine XCall.hp (j := 0) hd2 rfl rfl ?_) | (refine XCall.hp (j := 0) hd3 rfl rfl ?_) | (refine XCall.hp (j := 0) hd4 rfl rfl ?_) | (refine XCall.hp (j := 0) hd5 rfl rfl ?_) | (refine XCall.hp (j := 0) hd6 rfl rfl ?_)); conv => whnf) | fail
          all_goals
            refine XAgain.go (q + 1, row ++ [z1 * z2], dry ++ [((false, [(z3, z5 - 1), (z5 + 1, (L - z4))]) : Sps)], v6) (hstep _ (by exact sp_two (by omega) (by omega) (by omega) (by omega)) (by simp)) (by dsimp only; omega) ?_ ⟨rfl, rfl, rfl, rfl, rfl, rfl, rfl, (by rw [List.length_append]; rfl), rfl, trivial⟩
            dsimp only
            rw [List.length_append, isEmpty_app, isEmpty_app, List.map_append, ints_app]; rfl
        cases b with
        | false =>
          repeat' first | ((with_reducible apply XBr.ff); conv => whnf) | ((with_reducible apply XBr.dec) <;> (intro h; first | (exfalso; omega) | ((try simp only [List.length_map] at h); first | (exfalso; omega) | (conv => whnf)))) | ((with_reducible apply XBr.beq) <;> (intro h; first | (exfalso; omega) | (conv => whnf))) | ((with_reducible refine XInt.i64 (by omega) (by omega) ?_); conv => whnf) | ((with_reducible refine XHold.mk ?_ ?_); (first | omega | rfl | decide | exact ⟨rfl, by decide, rfl⟩ | exact wideI _ | exact widePr _ | exact wideSk _ | (unfold Room; constructor <;> ((try simp) <;> omega)) | exact ⟨rfl, by simp only [List.length_map], by unfold Room; constructor <;> ((try simp) <;> omega)⟩ | exact ⟨by omega, by omega, by unfold Room; constructor <;> ((try simp) <;> omega)⟩); conv => whnf) | (with_reducible apply XAnd.mk) | ((first | (with_reducible apply Chk.go) | (with_reducible apply ChkA.go) | (with_reducible apply ChkF.go) | (with_reducible apply ChkB.go)); conv => whnf) | (exact XSame.mk rfl rfl) | (with_reducible exact trivial) | (apply Walk.drawN (id := 17) tab_ok mixed_ok [] [1, 8] (hsC [_, _, _]) [_, _, _, _, _, _, _, _, _, _, _, _] (by kernel_rfl) rfl) | ((first | (with_reducible apply XNext.mk) | (refine XCall.hp (j := 0) hd1 rfl rfl ?_) | (refine XCall.hp (j := 0) hd2 rfl rfl ?_) | (refine XCall.hp (j := 0) hd3 rfl rfl ?_) | (refine XCall.hp (j := 0) hd4 rfl rfl ?_) | (refine XCall.hp (j := 0) hd5 rfl rfl ?_) | (refine XCall.hp (j := 0) hd6 rfl rfl ?_)); conv => whnf) | fail
          all_goals
            refine XAgain.go (q + 1, row ++ [z1 * z2], dry ++ [((false, [(z3, max z3 ((L - z4)))]) : Sps)], v6) (hstep _ (by exact sp_one (by omega) (by omega) (by omega)) (by simp)) (by dsimp only; omega) ?_ ⟨rfl, rfl, rfl, rfl, rfl, rfl, rfl, (by rw [List.length_append]; rfl), rfl, trivial⟩
            dsimp only
            rw [List.length_append, isEmpty_app, isEmpty_app, List.map_append, ints_app]; rfl
        | true =>
          have hc' : ¬ (z3 + 1 < z5 ∧ z5 < (L - z4) - 1) := fun h => hc ⟨rfl, h⟩
          repeat' first | ((first | (with_reducible apply XBr.tt) | (with_reducible apply XBr.ff)); conv => whnf) | ((with_reducible apply XBr.dec) <;> (intro h; first | (exfalso; omega) | ((try simp only [List.length_map] at h); first | (exfalso; omega) | (conv => whnf)))) | ((with_reducible apply XBr.beq) <;> (intro h; first | (exfalso; omega) | (conv => whnf))) | ((with_reducible refine XInt.i64 (by omega) (by omega) ?_); conv => whnf) | ((with_reducible refine XHold.mk ?_ ?_); (first | omega | rfl | decide | exact ⟨rfl, by decide, rfl⟩ | exact wideI _ | exact widePr _ | exact wideSk _ | (unfold Room; constructor <;> ((try simp) <;> omega)) | exact ⟨rfl, by simp only [List.length_map], by unfold Room; constructor <;> ((try simp) <;> omega)⟩ | exact ⟨by omega, by omega, by unfold Room; constructor <;> ((try simp) <;> omega)⟩); conv => whnf) | (with_reducible apply XAnd.mk) | ((first | (with_reducible apply Chk.go) | (with_reducible apply ChkA.go) | (with_reducible apply ChkF.go) | (with_reducible apply ChkB.go)); conv => whnf) | (exact XSame.mk rfl rfl) | (with_reducible exact trivial) | (apply Walk.drawN (id := 17) tab_ok mixed_ok [] [1, 8] (hsC [_, _, _]) [_, _, _, _, _, _, _, _, _, _, _, _] (by kernel_rfl) rfl) | ((first | (with_reducible apply XNext.mk) | (refine XCall.hp (j := 0) hd1 rfl rfl ?_) | (refine XCall.hp (j := 0) hd2 rfl rfl ?_) | (refine XCall.hp (j := 0) hd3 rfl rfl ?_) | (refine XCall.hp (j := 0) hd4 rfl rfl ?_) | (refine XCall.hp (j := 0) hd5 rfl rfl ?_) | (refine XCall.hp (j := 0) hd6 rfl rfl ?_)); conv => whnf) | fail
          all_goals
            refine XAgain.go (q + 1, row ++ [z1 * z2], dry ++ [((false, [(z3, max z3 ((L - z4)))]) : Sps)], v6) (hstep _ (by exact sp_one (by omega) (by omega) (by omega)) (by simp)) (by dsimp only; omega) ?_ ⟨rfl, rfl, rfl, rfl, rfl, rfl, rfl, (by rw [List.length_append]; rfl), rfl, trivial⟩
            dsimp only
            rw [List.length_append, isEmpty_app, isEmpty_app, List.map_append, ints_app]; rfl
    have hqP : (q : Int) = P := by omega
    repeat' first | ((with_reducible apply XBr.dec) <;> (intro h; first | (exfalso; omega) | ((try simp only [List.length_map] at h); first | (exfalso; omega) | (conv => whnf)))) | fail
    refine Walk.freeze 7 7 row.length rfl rfl hrm ?_
    refine Walk.freezeCell 6 0 8 dry.length rfl rfl rfl hdm ?_
    apply Walk.drawX tab_ok mixed_ok [] [4, 9, 11, 13] (hsC [_, _, _, _, _]) [_, _, _, _, _, _, _, _, _, _, _, _, _, _] (by kernel_rfl) rfl
    · skip
      repeat' first | ((with_reducible refine XHold.mk ?_ ?_); (first | omega | rfl | decide | exact ⟨rfl, by decide, rfl⟩ | exact wideI _ | exact widePr _ | exact wideSk _ | (unfold Room; constructor <;> ((try simp) <;> omega)) | exact ⟨rfl, by simp only [List.length_map], by unfold Room; constructor <;> ((try simp) <;> omega)⟩ | exact ⟨by omega, by omega, by unfold Room; constructor <;> ((try simp) <;> omega)⟩); conv => whnf) | (with_reducible apply XAnd.mk) | ((first | (with_reducible apply Chk.go) | (with_reducible apply ChkA.go)); conv => whnf) | (exact XSame.mk rfl rfl) | (with_reducible exact trivial) | fail
    · skip
      repeat' first | ((with_reducible refine XHold.mk ?_ ?_); (first | omega | rfl | decide | exact ⟨rfl, by decide, rfl⟩ | exact wideI _ | exact widePr _ | exact wideSk _ | (unfold Room; constructor <;> ((try simp) <;> omega)) | exact ⟨rfl, by simp only [List.length_map], by unfold Room; constructor <;> ((try simp) <;> omega)⟩ | exact ⟨by omega, by omega, by unfold Room; constructor <;> ((try simp) <;> omega)⟩); conv => whnf) | (with_reducible apply XAnd.mk) | ((first | (with_reducible apply Chk.go) | (with_reducible apply ChkF.go) | (with_reducible apply ChkB.go)); conv => whnf) | (exact XSame.mk rfl rfl) | (with_reducible exact trivial) | fail
    conv => whnf
    repeat' first | ((with_reducible refine XInt.i64 (by omega) (by omega) ?_); conv => whnf) | fail
    refine XAgainG.go (k + 1, looks ++ [((row.isEmpty, row) : Rw)], truths ++ [((dry.isEmpty, dry) : Tru)], v) [.cells [.sl dry.isEmpty (dry.map spsA)], .dead, .dead] ⟨by dsimp only; omega, ov, ⟨by dsimp only; rw [List.length_append, hll]; rfl, by dsimp only; rw [List.length_append, htl]; rfl⟩, fun r hr => ?_, fun t ht => ?_⟩ (by dsimp only; omega) ?_ ⟨rfl, rfl, rfl, rfl, rfl, trivial⟩
    · rcases List.mem_append.1 hr with hr | hr
      · exact hlk r hr
      · rw [List.mem_singleton] at hr; rw [hr]; exact ⟨by dsimp only; omega, hrow⟩
    · rcases List.mem_append.1 ht with ht | ht
      · exact htr t ht
      · rw [List.mem_singleton] at ht; rw [ht]; exact ⟨by dsimp only; omega, hdry⟩
    dsimp only
    rw [List.length_append, List.length_append, isEmpty_app, isEmpty_app, List.map_append, List.map_append]; rfl
  have hkN : (k : Int) = N := by omega
  repeat' first | ((with_reducible apply XBr.dec) <;> (intro h; first | (exfalso; omega) | ((try simp only [List.length_map] at h); first | (exfalso; omega) | (conv => whnf)))) | fail
  exact ⟨_, [hpC v], ⟨rfl, rfl, fun x hx => hpLow hx, FrozN.agg (snOne ⟨P, 0, bd, L, W.isEmpty, W, looks.isEmpty, looks, truths.isEmpty, truths⟩) (.cons (.low rfl) (.cons (.low rfl) (.cons (.low rfl) (.cons (.low rfl) (.cons (.low (lowWy _)) (.cons (FrozN.grow (show (1 : Nat) ≤ 4 by omega) rfl hlm (lowRk _)) (.cons (FrozN.grow (show (1 : Nat) ≤ 5 by omega) rfl htm (lowTr _)) .nil)))))))⟩, _, v, snL _, ⟨_, rfl, mk_ok (by omega) (by omega) (by omega) hl2 hW hlk htr (by omega) (by omega) (by omega), ov⟩, rfl, rfl⟩
end GA
end

section
namespace GA
open Go Go.RowKit Go.Proofs
set_option pp.deepTerms true
set_option maxRecDepth 8000
set_option linter.unusedVariables false
set_option linter.unusedSimpArgs false

def lowB (l : Nat) : Nat := ((List.range 4).find? fun i => l.testBit i).getD 0
end GA
end

section
namespace GA
open Go Go.RowKit Go.Proofs
set_option pp.deepTerms true
set_option maxRecDepth 8000
set_option linter.unusedVariables false
set_option linter.unusedSimpArgs false

def drA (s : Sn) (p m i j : Nat) (t : Nat) : Bool := if t = i then ((((s.truths.getD i default).2.getD p default).2).take j).any (fun x => inZ m x.1 x.2) else dryT s t p m
theorem drA_0 (s : Sn) (p m i : Nat) : bsum (drA s p m i 0) (i + 1) = bsum (fun t => dryT s t p m) i := by
  rw [bsum]
  have h : drA s p m i 0 i = false := by unfold drA; rw [if_pos rfl, List.take_zero]; rfl
  rw [h, if_neg (by simp), Nat.add_zero]
  exact bsum_congr fun t ht => by unfold drA; rw [if_neg (by omega)]
theorem drA_end (s : Sn) (p m i : Nat) : bsum (drA s p m i (((s.truths.getD i default).2.getD p default).2).length) (i + 1) = bsum (fun t => dryT s t p m) (i + 1) := by
  refine bsum_congr fun t ht => ?_
  unfold drA
  by_cases e : t = i
  · rw [if_pos e, List.take_length, e]; rfl
  · rw [if_neg e]
theorem drA_hit {s : Sn} {p m i j : Nat} (hj : j < (((s.truths.getD i default).2.getD p default).2).length) (h : inZ m ((((s.truths.getD i default).2.getD p default).2).getD j default).1 ((((s.truths.getD i default).2.getD p default).2).getD j default).2 = true) : bsum (drA s p m i j) (i + 1) ||| 2 ^ i = bsum (drA s p m i (j + 1)) (i + 1) := by
  rw [bsum_set (by omega)]
  refine bsum_congr fun t ht => ?_
  unfold updV drA
  by_cases e : t = i
  · rw [if_pos e, if_pos e, take_next hj, List.any_append]
    show true = (_ || (inZ m _ _ || false))
    rw [h]; simp
  · rw [if_neg e, if_neg e, if_neg e]
theorem drA_miss {s : Sn} {p m i j : Nat} (hj : j < (((s.truths.getD i default).2.getD p default).2).length) (h : inZ m ((((s.truths.getD i default).2.getD p default).2).getD j default).1 ((((s.truths.getD i default).2.getD p default).2).getD j default).2 = false) : bsum (drA s p m i (j + 1)) (i + 1) = bsum (drA s p m i j) (i + 1) := by
  refine bsum_congr fun t ht => ?_
  unfold drA
  by_cases e : t = i
  · rw [if_pos e, if_pos e, take_next hj, List.any_append]
    show (_ || (inZ m _ _ || false)) = _
    rw [h]; simp
  · rw [if_neg e, if_neg e]
theorem lawDry_c (s : Sn) (hb : SnB s) (ok : SnOk s) (p m : Nat) (hp : (p : Int) < s.places) : Comp Try.prog 13 [snA s, natA p, natA m] (natA (drN s p m)) := by
  have t2 := ok.t2
  have e3 : ((s.truths.map trA).length : Int) = s.truths.length := by rw [List.length_map]
  refine Comp.body (T := tab) (res := [.tmp 6]) tab_ok [] Try.func13 rfl (by kernel_rfl) Try.ntmps13 rfl (by simp only [List.length_cons, List.length_nil]; decide) (by simp only [lowL, AV.low, snL]; rfl) ?_; conv => whnf
  repeat' first | ((with_reducible first | apply XBr.tt | apply XBr.ff | apply Chk.go | apply ChkA.go | apply ChkF.go | apply ChkB.go | apply XArr.pim0 | apply XArr.pim1); conv => whnf) | (with_reducible apply XBr.not) | ((with_reducible apply XBr.dec) <;> (intro h; first | (exfalso; omega) | ((try simp only [List.length_map] at h); first | (exfalso; omega) | (conv => whnf)))) | ((with_reducible first | apply XBr.beq | apply XBr.bne) <;> (intro h; first | (exfalso; omega) | (conv => whnf))) | ((with_reducible refine XInt.i64 (by omega) (by omega) ?_); conv => whnf) | ((with_reducible refine XHold.mk ?_ ?_); (first | omega | rfl | decide | exact ⟨rfl, by decide, rfl⟩ | exact wideI _ | exact widePr _ | exact wideSk _ | (unfold Room; constructor <;> ((try simp) <;> omega)) | exact ⟨rfl, by simp only [List.length_map], by unfold Room; constructor <;> ((try simp) <;> omega)⟩ | exact ⟨by omega, by omega, by unfold Room; constructor <;> ((try simp) <;> omega)⟩); conv => whnf) | ((first | ((with_reducible refine XIx.nat ?_ ?_ ?_); omega; (intro _; rfl)) | ((with_reducible refine XIx.map ?_ ?_ ?_ ?_); omega; omega; (intro _; rfl))); conv => whnf) | (with_reducible apply XAnd.mk) | (exact XSame.mk rfl rfl) | (exact XSame.mk (by first | rfl | (simp only [List.map_append, List.length_append, List.length_map]; done) | (simp only [List.map_append, List.length_append, List.length_map]; rfl)) (by first | rfl | (simp only [List.map_append]; done) | (simp only [List.map_append]; rfl))) | (with_reducible exact trivial) | ((first | (with_reducible refine xdrop_app (by rw [List.length_map]; omega) ?_) | (with_reducible refine XDrop.desk (by assumption) ?_) | (with_reducible first | refine XArr.ints (by omega) (by omega) (by omega) ?_ | refine XArr.intsA (by omega) (by omega) (by omega) ?_) | ((with_reducible first | refine XArr.nats ?_ ?_ ?_ | refine XArr.natsA ?_ ?_ ?_ | refine XArr.ptr ?_ ?_ ?_); omega; omega) | (with_reducible apply XNext.mk)); conv => whnf) | ((with_reducible apply XBr.mk') <;> (intro h; conv => whnf))
  refine Walk.loopGK tab_ok [] [(1, _), (2, _), (6, _), (13, _), (14, _)] ⟨rfl, rfl, rfl, rfl, rfl, trivial⟩ (fun i : Nat => i ≤ s.truths.length) (fun i => [(7, natA (bsum (fun t => dryT s t p m) i)), (15, natA i)]) (fun _ => []) (fun i => s.truths.length - i) 0 (Nat.zero_le _) rfl ⟨rfl, rfl, trivial⟩ ?_ (fun _ _ => (show (0 : Nat) ≤ 0 from Nat.le_refl 0)) ?_
  · intro i _
    refine ⟨by simp, fun z hz => ?_⟩
    simp only [List.cons_append, List.nil_append, List.mem_cons, List.not_mem_nil, or_false] at hz
    rcases hz with rfl | rfl | rfl | rfl | rfl | rfl | rfl <;> first | rfl | exact lowTr _
  intro i hi
  have h0 := drA_0 s p m i
  have hE := drA_end s p m i
  have hend : i = s.truths.length → bsum (fun t => dryT s t p m) i = drN s p m := fun h => by rw [h]; rfl
  conv => whnf
  by_cases hlt : i < s.truths.length
  · have htl := ok.tl _ (getD_mem (d := default) hlt)
    have hplt : p < (s.truths.getD i default).2.length := by omega
    have hsl := hb.sl _ (getD_mem (d := default) hlt) _ (getD_mem (d := default) hplt)
    have e4 : (((s.truths.getD i default).2.map spsA).length : Int) = (s.truths.getD i default).2.length := by rw [List.length_map]
    have e5 : ((((s.truths.getD i default).2.getD p default).2.map sgA).length : Int) = ((s.truths.getD i default).2.getD p default).2.length := by rw [List.length_map]
    have hhit := fun j hj => drA_hit (s := s) (p := p) (m := m) (i := i) (j := j) hj
    have hmis := fun j hj => drA_miss (s := s) (p := p) (m := m) (i := i) (j := j) hj
    have hblt := fun j => bsum_lt (drA s p m i j) (i + 1)
    have hpw : 2 ^ (i + 1) ≤ 2 ^ 4 := Nat.pow_le_pow_right (by omega) (by omega)
    have hpw2 : 2 ^ i ≤ 2 ^ 4 := Nat.pow_le_pow_right (by omega) (by omega)
    rw [← h0]
    repeat' first | ((with_reducible first | apply XBr.tt | apply XBr.ff | apply Chk.go | apply ChkA.go | apply ChkF.go | apply ChkB.go | apply XArr.pim0 | apply XArr.pim1); conv => whnf) | (with_reducible apply XBr.not) | ((with_reducible apply XBr.dec) <;> (intro h; first | (exfalso; omega) | ((try simp only [List.length_map] at h); first | (exfalso; omega) | (conv => whnf)))) | ((with_reducible first | apply XBr.beq | apply XBr.bne) <;> (intro h; first | (exfalso; omega) | (conv => whnf))) | ((with_reducible refine XInt.i64 (by omega) (by omega) ?_); conv => whnf) | ((with_reducible refine XHold.mk ?_ ?_); (first | omega | rfl | decide | exact ⟨rfl, by decide, rfl⟩ | exact wideI _ | exact widePr _ | exact wideSk _ | (unfold Room; constructor <;> ((try simp) <;> omega)) | exact ⟨rfl, by simp only [List.length_map], by unfold Room; constructor <;> ((try simp) <;> omega)⟩ | exact ⟨by omega, by omega, by unfold Room; constructor <;> ((try simp) <;> omega)⟩); conv => whnf) | ((first | ((with_reducible refine XIx.nat ?_ ?_ ?_); omega; (intro _; rfl)) | ((with_reducible refine XIx.map ?_ ?_ ?_ ?_); omega; omega; (intro _; rfl))); conv => whnf) | (with_reducible apply XAnd.mk) | (exact XSame.mk rfl rfl) | (exact XSame.mk (by first | rfl | (simp only [List.map_append, List.length_append, List.length_map]; done) | (simp only [List.map_append, List.length_append, List.length_map]; rfl)) (by first | rfl | (simp only [List.map_append]; done) | (simp only [List.map_append]; rfl))) | (with_reducible exact trivial) | ((first | (with_reducible refine xdrop_app (by rw [List.length_map]; omega) ?_) | (with_reducible refine XDrop.desk (by assumption) ?_) | (with_reducible first | refine XArr.ints (by omega) (by omega) (by omega) ?_ | refine XArr.intsA (by omega) (by omega) (by omega) ?_) | ((with_reducible first | refine XArr.nats ?_ ?_ ?_ | refine XArr.natsA ?_ ?_ ?_ | refine XArr.ptr ?_ ?_ ?_); omega; omega) | (with_reducible apply XNext.mk)); conv => whnf) | ((with_reducible apply XBr.mk') <;> (intro h; conv => whnf))
    refine Walk.loopGK tab_ok [] [(1, _), (2, _), (6, _), (8, _), (13, _), (14, _), (15, _), (24, _), (25, _)] ⟨rfl, rfl, rfl, rfl, rfl, rfl, rfl, rfl, rfl, trivial⟩ (fun j : Nat => j ≤ ((s.truths.getD i default).2.getD p default).2.length) (fun j => [(7, natA (bsum (drA s p m i j) (i + 1))), (26, natA j)]) (fun _ => [.cells [.sl (s.truths.getD i default).1 ((s.truths.getD i default).2.map spsA)]]) (fun j => ((s.truths.getD i default).2.getD p default).2.length - j) 0 (Nat.zero_le _) rfl ⟨rfl, rfl, trivial⟩ ?_ (fun _ _ => (show (1 : Nat) ≤ 1 from Nat.le_refl 1)) ?_
    · intro j _
      refine ⟨fun z hz => ?_, fun z hz => ?_⟩
      · rw [List.mem_singleton] at hz; subst hz
        simp only [Blk.low, lowL, AV.low, lowSps]; rfl
      · simp only [List.cons_append, List.nil_append, List.mem_cons, List.not_mem_nil, or_false] at hz
        rcases hz with rfl | rfl | rfl | rfl | rfl | rfl | rfl | rfl | rfl | rfl | rfl <;> first | rfl | exact lowTr _ | exact lowSg _
    intro j hj
    have hhit := hhit j
    have hmis := hmis j
    have hblt := hblt j
    have hje : j = ((s.truths.getD i default).2.getD p default).2.length → bsum (drA s p m i j) (i + 1) = bsum (fun t => dryT s t p m) (i + 1) := fun h => by rw [h]; exact hE
    generalize hv : bsum (drA s p m i j) (i + 1) = v at hhit hmis hblt hje
    conv => whnf
    by_cases hlt2 : j < ((s.truths.getD i default).2.getD p default).2.length
    · have hhit := hhit hlt2
      have hmis := hmis hlt2
      have a2 : ior .i64 (v : Int) ((2 ^ i : Nat) : Int) = ((v ||| 2 ^ i : Nat) : Int) := ior_nat (by omega) (by omega)
      by_cases hin : (((((s.truths.getD i default).2.getD p default).2).getD j default).1 ≤ (m : Int)) ∧ ((m : Int) ≤ ((((s.truths.getD i default).2.getD p default).2).getD j default).2)
      · have hx := hhit (inZ_iff.2 hin)
        repeat' first | ((with_reducible first | apply XBr.tt | apply XBr.ff | apply Chk.go | apply ChkA.go | apply ChkF.go | apply ChkB.go | apply XArr.pim0 | apply XArr.pim1); conv => whnf) | (with_reducible apply XBr.not) | ((with_reducible apply XBr.dec) <;> (intro h; first | (exfalso; omega) | ((try simp only [List.length_map] at h); first | (exfalso; omega) | (conv => whnf)))) | ((with_reducible first | apply XBr.beq | apply XBr.bne) <;> (intro h; first | (exfalso; omega) | (conv => whnf))) | ((with_reducible refine XInt.i64 (by omega) (by omega) ?_); conv => whnf) | ((with_reducible refine XHold.mk ?_ ?_); (first | omega | rfl | decide | exact ⟨rfl, by decide, rfl⟩ | exact wideI _ | exact widePr _ | exact wideSk _ | (unfold Room; constructor <;> ((try simp) <;> omega)) | exact ⟨rfl, by simp only [List.length_map], by unfold Room; constructor <;> ((try simp) <;> omega)⟩ | exact ⟨by omega, by omega, by unfold Room; constructor <;> ((try simp) <;> omega)⟩); conv => whnf) | ((first | ((with_reducible refine XIx.nat ?_ ?_ ?_); omega; (intro _; rfl)) | ((with_reducible refine XIx.map ?_ ?_ ?_ ?_); omega; omega; (intro _; rfl))); conv => whnf) | (with_reducible apply XAnd.mk) | (exact XSame.mk rfl rfl) | (exact XSame.mk (by first | rfl | (simp only [List.map_append, List.length_append, List.length_map]; done) | (simp only [List.map_append, List.length_append, List.length_map]; rfl)) (by first | rfl | (simp only [List.map_append]; done) | (simp only [List.map_append]; rfl))) | (with_reducible exact trivial) | ((first | (with_reducible refine xdrop_app (by rw [List.length_map]; omega) ?_) | (with_reducible refine XDrop.desk (by assumption) ?_) | (with_reducible first | refine XArr.ints (by omega) (by omega) (by omega) ?_ | refine XArr.intsA (by omega) (by omega) (by omega) ?_) | ((with_reducible first | refine XArr.nats ?_ ?_ ?_ | refine XArr.natsA ?_ ?_ ?_ | refine XArr.ptr ?_ ?_ ?_); omega; omega) | (with_reducible apply XNext.mk) | (refine XInt.shl (by omega) ?_)); conv => whnf) | ((with_reducible apply XBr.mk') <;> (intro h; conv => whnf))
        exact XAgainG.go (j + 1) [.cells (sgA ((((s.truths.getD i default).2.getD p default).2).getD j default)).cells] (by omega) (by omega) rfl ⟨rfl, rfl, rfl, rfl, rfl, rfl, rfl, rfl, rfl, (by show some (AV.int .i64 (ior .i64 _ _)) = _; rw [a2, hx]; rfl), rfl, trivial⟩
      · have hx := hmis (by rw [← Bool.not_eq_true, inZ_iff]; exact hin)
        repeat' first | ((with_reducible first | apply XBr.tt | apply XBr.ff | apply Chk.go | apply ChkA.go | apply ChkF.go | apply ChkB.go | apply XArr.pim0 | apply XArr.pim1); conv => whnf) | (with_reducible apply XBr.not) | ((with_reducible apply XBr.dec) <;> (intro h; first | (exfalso; omega) | ((try simp only [List.length_map] at h); first | (exfalso; omega) | (conv => whnf)))) | ((with_reducible first | apply XBr.beq | apply XBr.bne) <;> (intro h; first | (exfalso; omega) | (conv => whnf))) | ((with_reducible refine XInt.i64 (by omega) (by omega) ?_); conv => whnf) | ((with_reducible refine XHold.mk ?_ ?_); (first | omega | rfl | decide | exact ⟨rfl, by decide, rfl⟩ | exact wideI _ | exact widePr _ | exact wideSk _ | (unfold Room; constructor <;> ((try simp) <;> omega)) | exact ⟨rfl, by simp only [List.length_map], by unfold Room; constructor <;> ((try simp) <;> omega)⟩ | exact ⟨by omega, by omega, by unfold Room; constructor <;> ((try simp) <;> omega)⟩); conv => whnf) | ((first | ((with_reducible refine XIx.nat ?_ ?_ ?_); omega; (intro _; rfl)) | ((with_reducible refine XIx.map ?_ ?_ ?_ ?_); omega; omega; (intro _; rfl))); conv => whnf) | (with_reducible apply XAnd.mk) | (exact XSame.mk rfl rfl) | (exact XSame.mk (by first | rfl | (simp only [List.map_append, List.length_append, List.length_map]; done) | (simp only [List.map_append, List.length_append, List.length_map]; rfl)) (by first | rfl | (simp only [List.map_append]; done) | (simp only [List.map_append]; rfl))) | (with_reducible exact trivial) | ((first | (with_reducible refine xdrop_app (by rw [List.length_map]; omega) ?_) | (with_reducible refine XDrop.desk (by assumption) ?_) | (with_reducible first | refine XArr.ints (by omega) (by omega) (by omega) ?_ | refine XArr.intsA (by omega) (by omega) (by omega) ?_) | ((with_reducible first | refine XArr.nats ?_ ?_ ?_ | refine XArr.natsA ?_ ?_ ?_ | refine XArr.ptr ?_ ?_ ?_); omega; omega) | (with_reducible apply XNext.mk)); conv => whnf) | ((with_reducible apply XBr.mk') <;> (intro h; conv => whnf))
        all_goals exact XAgainG.go (j + 1) [.cells (sgA ((((s.truths.getD i default).2.getD p default).2).getD j default)).cells] (by omega) (by omega) rfl ⟨rfl, rfl, rfl, rfl, rfl, rfl, rfl, rfl, rfl, (by rw [hx]; rfl), rfl, trivial⟩
    have hje := hje (by omega)
    rw [hje]
    repeat' first | ((with_reducible first | apply XBr.tt | apply XBr.ff | apply Chk.go | apply ChkA.go | apply ChkF.go | apply ChkB.go | apply XArr.pim0 | apply XArr.pim1); conv => whnf) | (with_reducible apply XBr.not) | ((with_reducible apply XBr.dec) <;> (intro h; first | (exfalso; omega) | ((try simp only [List.length_map] at h); first | (exfalso; omega) | (conv => whnf)))) | ((with_reducible first | apply XBr.beq | apply XBr.bne) <;> (intro h; first | (exfalso; omega) | (conv => whnf))) | ((with_reducible refine XInt.i64 (by omega) (by omega) ?_); conv => whnf) | ((with_reducible refine XHold.mk ?_ ?_); (first | omega | rfl | decide | exact ⟨rfl, by decide, rfl⟩ | exact wideI _ | exact widePr _ | exact wideSk _ | (unfold Room; constructor <;> ((try simp) <;> omega)) | exact ⟨rfl, by simp only [List.length_map], by unfold Room; constructor <;> ((try simp) <;> omega)⟩ | exact ⟨by omega, by omega, by unfold Room; constructor <;> ((try simp) <;> omega)⟩); conv => whnf) | ((first | ((with_reducible refine XIx.nat ?_ ?_ ?_); omega; (intro _; rfl)) | ((with_reducible refine XIx.map ?_ ?_ ?_ ?_); omega; omega; (intro _; rfl))); conv => whnf) | (with_reducible apply XAnd.mk) | (exact XSame.mk rfl rfl) | (exact XSame.mk (by first | rfl | (simp only [List.map_append, List.length_append, List.length_map]; done) | (simp only [List.map_append, List.length_append, List.length_map]; rfl)) (by first | rfl | (simp only [List.map_append]; done) | (simp only [List.map_append]; rfl))) | (with_reducible exact trivial) | ((first | (with_reducible refine xdrop_app (by rw [List.length_map]; omega) ?_) | (with_reducible refine XDrop.desk (by assumption) ?_) | (with_reducible first | refine XArr.ints (by omega) (by omega) (by omega) ?_ | refine XArr.intsA (by omega) (by omega) (by omega) ?_) | ((with_reducible first | refine XArr.nats ?_ ?_ ?_ | refine XArr.natsA ?_ ?_ ?_ | refine XArr.ptr ?_ ?_ ?_); omega; omega) | (with_reducible apply XNext.mk)); conv => whnf) | ((with_reducible apply XBr.mk') <;> (intro h; conv => whnf))
    exact XAgainG.go (i + 1) [.cells [.sl (s.truths.getD i default).1 ((s.truths.getD i default).2.map spsA)]] (by omega) (by omega) rfl ⟨rfl, rfl, rfl, rfl, rfl, rfl, rfl, trivial⟩
  rw [hend (by omega)]
  repeat' first | ((with_reducible first | apply XBr.tt | apply XBr.ff | apply Chk.go | apply ChkA.go | apply ChkF.go | apply ChkB.go | apply XArr.pim0 | apply XArr.pim1); conv => whnf) | (with_reducible apply XBr.not) | ((with_reducible apply XBr.dec) <;> (intro h; first | (exfalso; omega) | ((try simp only [List.length_map] at h); first | (exfalso; omega) | (conv => whnf)))) | ((with_reducible first | apply XBr.beq | apply XBr.bne) <;> (intro h; first | (exfalso; omega) | (conv => whnf))) | ((with_reducible refine XInt.i64 (by omega) (by omega) ?_); conv => whnf) | ((with_reducible refine XHold.mk ?_ ?_); (first | omega | rfl | decide | exact ⟨rfl, by decide, rfl⟩ | exact wideI _ | exact widePr _ | exact wideSk _ | (unfold Room; constructor <;> ((try simp) <;> omega)) | exact ⟨rfl, by simp only [List.length_map], by unfold Room; constructor <;> ((try simp) <;> omega)⟩ | exact ⟨by omega, by omega, by unfold Room; constructor <;> ((try simp) <;> omega)⟩); conv => whnf) | ((first | ((with_reducible refine XIx.nat ?_ ?_ ?_); omega; (intro _; rfl)) | ((with_reducible refine XIx.map ?_ ?_ ?_ ?_); omega; omega; (intro _; rfl))); conv => whnf) | (with_reducible apply XAnd.mk) | (exact XSame.mk rfl rfl) | (exact XSame.mk (by first | rfl | (simp only [List.map_append, List.length_append, List.length_map]; done) | (simp only [List.map_append, List.length_append, List.length_map]; rfl)) (by first | rfl | (simp only [List.map_append]; done) | (simp only [List.map_append]; rfl))) | (with_reducible exact trivial) | ((first | (with_reducible refine xdrop_app (by rw [List.length_map]; omega) ?_) | (with_reducible refine XDrop.desk (by assumption) ?_) | (with_reducible first | refine XArr.ints (by omega) (by omega) (by omega) ?_ | refine XArr.intsA (by omega) (by omega) (by omega) ?_) | ((with_reducible first | refine XArr.nats ?_ ?_ ?_ | refine XArr.natsA ?_ ?_ ?_ | refine XArr.ptr ?_ ?_ ?_); omega; omega) | (with_reducible apply XNext.mk)); conv => whnf) | ((with_reducible apply XBr.mk') <;> (intro h; conv => whnf))
  exact XOut.int rfl
end GA
end

section
namespace GA
open Go Go.RowKit Go.Proofs
set_option pp.deepTerms true
set_option maxRecDepth 8000
set_option linter.unusedVariables false
set_option linter.unusedSimpArgs false

theorem hpB_ok {nl : Bool} {bs : List Int} (h : bs.length < 9223372036854775808) : (hp0 nl bs).Ok := ⟨h, .inr rfl⟩
theorem XInt.shlL {α : Type} {f : α → AV} {xs : List α} {w : Nat} {k : AV → Prop} (hw : w = 2 ^ xs.length) (h : xs.length ≤ 62) (hk : k (natA w)) : XInt .i64 (1 * 2 ^ min (((xs.map f).length : Nat) : Int).toNat IntKind.i64.bits) k := by
  rw [List.length_map]; subst hw; exact XInt.shl h hk
end GA
end

section
namespace GA
open Go Go.RowKit Go.Proofs
set_option pp.deepTerms true
set_option maxRecDepth 8000
set_option linter.unusedVariables false
set_option linter.unusedSimpArgs false

theorem XGive.whole {Hn : List Blk} {r : AV} (lr : r.low Hn.length = true) (lH : ∀ x ∈ Hn, x.low Hn.length = true) : XGive Hn r r Hn := by
  have hid : ∀ i, i < Hn.length → rnF (List.range Hn.length) i = i := fun i hi => by
    unfold rnF
    rw [lget_eq, List.getElem?_range hi]
  refine XGive.mk' (List.range Hn.length) List.length_range List.nodup_range ?_ (AV.ren_low hid lr).symm
  have key : ∀ (l : List Blk) (i : Nat), Hn.drop i = l → SelR (rnF (List.range Hn.length)) Hn i l := by
    intro l
    induction l with
    | nil => intro i _; trivial
    | cons x l ih =>
      intro i e
      have hi : i < Hn.length := by
        refine Classical.byContradiction fun h => ?_
        rw [List.drop_eq_nil_of_le (by omega)] at e; cases e
      rw [List.drop_eq_getElem_cons hi] at e
      injection e with e1 e2
      refine ⟨?_, ih (i + 1) e2⟩
      rw [hid i hi, lget_eq, List.getElem?_eq_getElem hi, e1, Blk.ren_low hid (lH x (by rw [← e1]; exact List.getElem_mem hi))]
  exact key Hn 0 List.drop_zero
theorem XCall.hpS {f : FuncId} {qs : List AV} {h h' : Hp} {r : AV} (x : HpOk f qs h r h') (hr : r.low 0 = true) {H H' : List Blk} {k : AV → List Blk → Prop} {j : Nat} (h0 : lget H j = some (hpC h)) (hs : H.set j (hpC h') = H')
    (hk : k r H') : XCall Try.prog f (.ptr j 0 :: qs) H k := XCall.hp x hr h0 (hs ▸ hk)
def cpR (R : List Rw) (m : Nat) : AV := .gr (m + 1) (R.getD m default).2.length
def cpC (R : List Rw) (m : Nat) : Blk := .grow 3 false (ints (R.getD m default).2)
theorem cpR_low (R : List Rw) {k n : Nat} (h : k < n) : lowL n (vecF k (cpR R)) = true := by
  rw [lowL_iff]
  intro x hx
  obtain ⟨j, hj, rfl⟩ := vecF_mem.1 hx
  show decide (j + 1 < n) = true
  exact decide_eq_true (by omega)
theorem rows_lH (R : List Rw) (k : Nat) : ∀ x ∈ (Blk.grow 43 false (vecF k (cpR R)) :: vecF k (cpC R)), x.low (Blk.grow 43 false (vecF k (cpR R)) :: vecF k (cpC R)).length = true := by
  intro x hx
  rw [List.length_cons, vecF_len]
  rcases List.mem_cons.1 hx with rfl | hx
  · exact cpR_low R (by omega)
  · obtain ⟨j, hj, rfl⟩ := vecF_mem.1 hx
    exact lowI _
theorem rows_lr (R : List Rw) (k : Nat) : (AV.gr 0 k).low (Blk.grow 43 false (vecF k (cpR R)) :: vecF k (cpC R)).length = true := by
  rw [List.length_cons, vecF_len]
  show decide (0 < k + 1) = true
  exact decide_eq_true (by omega)
theorem rows_g (nl : Bool) (R : List Rw) (hR : R.length ≤ 1000) (h : ∀ r ∈ R, r.2.length ≤ 1000) : Gives Try.prog 14 [.sl nl (R.map rwA)] (.gr 0 R.length) (Blk.grow 43 false (vecF R.length (cpR R)) :: vecF R.length (cpC R)) := by
  have e1 : ((R.map rwA).length : Int) = R.length := by rw [List.length_map]
  refine Gives.body (T := tab) (res := [.tmp 2]) tab_ok [] Try.func14 rfl (by kernel_rfl) Try.ntmps14 rfl (by simp only [List.length_cons, List.length_nil]; decide) (by simp only [lowL, AV.low, lowRk]; rfl) (rows_lr R _) (rows_lH R _) ?_; conv => whnf
  repeat' first | ((with_reducible refine XHold.mk ?_ ?_); (first | omega | rfl | decide | exact ⟨rfl, by decide, rfl⟩ | exact wideI _ | exact widePr _ | exact wideSk _ | (unfold Room; constructor <;> ((try simp) <;> omega)) | exact ⟨rfl, by simp only [List.length_map], by unfold Room; constructor <;> ((try simp) <;> omega)⟩ | exact ⟨by omega, by omega, by unfold Room; constructor <;> ((try simp) <;> omega)⟩); conv => whnf) | fail
  refine Walk.loopK tab_ok [] [(2, _), (9, _), (10, _)] ⟨rfl, rfl, rfl, trivial⟩ (fun k : Nat => k ≤ R.length) (fun k => [(3, .gr 0 k), (11, natA k)]) (fun k => Blk.grow 43 false (vecF k (cpR R)) :: vecF k (cpC R)) (fun k => R.length - k) 0 (Nat.zero_le _) (by rw [vecF_eq, vecF_eq]; rfl) ⟨rfl, rfl, trivial⟩ ?_
  intro k hk
  conv => whnf
  by_cases hlt : k < R.length
  · have hr := h _ (getD_mem (d := default) hlt)
    repeat' first | ((with_reducible apply XBr.dec) <;> (intro h; first | (exfalso; omega) | ((try simp only [List.length_map] at h); first | (exfalso; omega) | (conv => whnf)))) | ((with_reducible refine XInt.i64 (by omega) (by omega) ?_); conv => whnf) | ((with_reducible refine XHold.mk ?_ ?_); (first | omega | rfl | decide | exact ⟨rfl, by decide, rfl⟩ | exact wideI _ | exact widePr _ | exact wideSk _ | (unfold Room; constructor <;> ((try simp) <;> omega)) | exact ⟨rfl, by simp only [List.length_map], by unfold Room; constructor <;> ((try simp) <;> omega)⟩ | exact ⟨by omega, by omega, by unfold Room; constructor <;> ((try simp) <;> omega)⟩); conv => whnf) | ((first | ((with_reducible refine XIx.nat ?_ ?_ ?_); omega; (intro _; rfl)) | (refine XCall.dup (by omega) ?_)); conv => whnf) | ((refine XHold.mk ⟨rfl, vecF_len _ _, by unfold Room; constructor <;> ((try simp) <;> omega)⟩ ?_); conv => whnf) | fail
    refine XAgain.go (k + 1) (by omega) (by omega) ?_ ⟨rfl, rfl, rfl, rfl, rfl, trivial⟩
    rw [vecF_succ, vecF_succ]
    have e : cpR R k = AV.gr (Blk.grow 43 false (vecF k (cpR R)) :: vecF k (cpC R)).length (R.getD k default).2.length := by rw [List.length_cons, vecF_len]; rfl
    rw [e]; rfl
  obtain rfl : k = R.length := by omega
  repeat' first | ((with_reducible apply XBr.dec) <;> (intro h; first | (exfalso; omega) | ((try simp only [List.length_map] at h); first | (exfalso; omega) | (conv => whnf)))) | fail
  exact XGive.whole (rows_lr R _) (rows_lH R _)
theorem XCall.rowsG {nl : Bool} {R : List Rw} {H : List Blk} {k : AV → List Blk → Prop} (hR : R.length ≤ 1000) (h : ∀ r ∈ R, r.2.length ≤ 1000)
    (hk : k (.gr H.length R.length) (H ++ (Blk.grow 43 false (vecF R.length fun m => .gr (H.length + (m + 1)) (R.getD m default).2.length) :: vecF R.length (cpC R)))) : XCall Try.prog 14 [.sl nl (R.map rwA)] H k := by
  refine XCall.give (rows_g nl R hR h) ?_
  have e1 : (vecF R.length (cpC R)).map (Blk.ren (H.length + ·)) = vecF R.length (cpC R) := by
    rw [vecF_map]
    exact vecF_congr fun i _ => ren_grow _ _ _ _
  have e2 : Blk.ren (H.length + ·) (Blk.grow 43 false (vecF R.length (cpR R))) = Blk.grow 43 false (vecF R.length fun m => .gr (H.length + (m + 1)) (R.getD m default).2.length) := by
    show Blk.grow 43 false (renL _ (vecF R.length (cpR R))) = _
    rw [renL_eq, vecF_map]; rfl
  rw [List.map_cons, e1, e2]
  exact hk
theorem XCall.rowsS {nl : Bool} {R : List Rw} {H : List Blk} {k : AV → List Blk → Prop} (n : Nat) (hn : H.length = n) (hR : R.length ≤ 1000) (h : ∀ r ∈ R, r.2.length ≤ 1000)
    (hk : ∀ H1, H1 = H ++ (Blk.grow 43 false (vecF R.length fun m => .gr (n + (m + 1)) (R.getD m default).2.length) :: vecF R.length (cpC R)) → k (.gr n R.length) H1) : XCall Try.prog 14 [.sl nl (R.map rwA)] H k := by
  subst hn
  exact XCall.rowsG hR h (hk _ rfl)
def memS (b M N P0 : Nat) (W : T3 Int) : List Blk := (vecF (rowI M P0) (memB M N P0 0 W)).map (Blk.ren (b + ·))
theorem memS_len (b M N P0 : Nat) (W : T3 Int) : (memS b M N P0 W).length = rowI M P0 := by unfold memS; rw [List.length_map, vecF_len]
theorem lget_pre {pre X : List Blk} {b i : Nat} (h : pre.length = b) : lget (pre ++ X) (b + i) = X[i]? := by
  rw [lget_eq, List.getElem?_append_right (by omega), show b + i - pre.length = i by omega]
theorem set_pre {pre X : List Blk} {b i : Nat} {x : Blk} (h : pre.length = b) : (pre ++ X).set (b + i) x = pre ++ X.set i x := by
  rw [List.set_append_right _ _ (by omega), show b + i - pre.length = i by omega]
theorem memS_get {b M N P0 : Nat} {W : T3 Int} {i : Nat} (h : i < rowI M P0) : (memS b M N P0 W)[i]? = some ((memB M N P0 0 W i).ren (b + ·)) := by
  unfold memS
  rw [List.getElem?_map, vecF_get?, if_pos h]; rfl
theorem memS_t {pre : List Blk} {b M N P0 : Nat} {W : T3 Int} (h : pre.length = b) : lget (pre ++ memS b M N P0 W) b = some (.grow 24 (decide (P0 = 0)) (vecF P0 fun p => .gr (b + rowI M p) M)) := by
  have := lget_pre (X := memS b M N P0 W) (i := 0) h
  rw [Nat.add_zero] at this
  rw [this, memS_get (by unfold rowI; omega), memB_t]
  show some (Blk.grow 24 _ (renL _ _)) = _
  rw [renL_eq, vecF_map]; rfl
theorem memS_r {pre : List Blk} {b M N P0 : Nat} {W : T3 Int} {p : Nat} (h : pre.length = b) (hp : p < P0) : lget (pre ++ memS b M N P0 W) (b + rowI M p) = some (.grow 43 false (vecF M fun m => .gr (b + celI M p m) N)) := by
  rw [lget_pre h, memS_get (rowI_lt hp), memB_r, decide_eq_false (by omega), if_neg (by omega)]
  show some (Blk.grow 43 _ (renL _ _)) = _
  rw [renL_eq, vecF_map]; rfl
theorem zvs_ren (f : Nat → Nat) (t : TypeId) (N : Nat) (F : Nat → Int) : Blk.ren f (.grow t false (zvs N F)) = .grow t false (zvs N F) := Blk.ren_low (n := 0) (fun i hi => by omega) (zvs_low _ _)
theorem memS_c {pre : List Blk} {b M N P0 : Nat} {W : T3 Int} {p m : Nat} (h : pre.length = b) (hp : p < P0) (hm : m < M) : lget (pre ++ memS b M N P0 W) (b + celI M p m) = some (.grow 3 false (zvs N fun l => W p m l)) := by
  rw [lget_pre h, memS_get (celI_lt hp hm), memB_c hm, zvs_ren]
theorem memS_set {pre : List Blk} {b M N P0 : Nat} {W : T3 Int} {p m l : Nat} {v : Int} (h : pre.length = b) (hp : p < P0) (hm : m < M) : (pre ++ memS b M N P0 W).set (b + celI M p m) (.grow 3 false (zvs N (updV (fun l => W p m l) l v))) = pre ++ memS b M N P0 (upd3 W p m l v) := by
  rw [set_pre h]
  congr 1
  have e := memW_set (N := N) (W := W) (l := l) (v := v) hp hm
  unfold memW at e
  unfold memS
  rw [← zvs_ren (b + ·), ← List.map_set, e]
theorem memS_init (b M N : Nat) (W : T3 Int) : memS b M N 0 W = [.grow 24 true []] := by
  unfold memS
  rw [bld_init]; rfl
theorem memS_next {pre : List Blk} {b M N p : Nat} {W : T3 Int} {R : List Rw} (h : pre.length = b) (hR : R = vecF M fun m => (false, vecF N fun l => W p m l)) :
    ((pre ++ memS b M N p W) ++ (Blk.grow 43 false (vecF R.length fun m => .gr (b + rowI M p + (m + 1)) (R.getD m default).2.length) :: vecF R.length (cpC R))).set b (Blk.grow 24 false (vecF p (fun p => AV.gr (b + rowI M p) M) ++ [AV.gr (b + rowI M p) R.length])) = pre ++ memS b M N (p + 1) W := by
  have hl : R.length = M := by rw [hR, vecF_len]
  have e1 : (vecF R.length fun m => AV.gr (b + rowI M p + (m + 1)) (R.getD m default).2.length) = vecF M fun m => AV.gr (b + celI M p m) N := by
    rw [hl]
    refine vecF_congr fun m hm => ?_
    have : (R.getD m default).2.length = N := by
      rw [hR, vecF_get _ hm]
      show (vecF N _).length = N
      rw [vecF_len]
    rw [this]
    unfold celI
    rw [show b + rowI M p + (m + 1) = b + (rowI M p + 1 + m) by omega]
  have e2 : vecF R.length (cpC R) = vecF M fun m => Blk.grow 3 false (zvs N fun l => W p m l) := by
    rw [hl]
    refine vecF_congr fun m hm => ?_
    show Blk.grow 3 false (ints (R.getD m default).2) = _
    rw [hR, vecF_get _ hm]; rfl
  rw [e1, e2, hl, List.append_assoc]
  have hz := set_pre (X := memS b M N p W ++ (Blk.grow 43 false (vecF M fun m => AV.gr (b + celI M p m) N) :: vecF M fun m => Blk.grow 3 false (zvs N fun l => W p m l))) (i := 0) (x := Blk.grow 24 false (vecF p (fun p => AV.gr (b + rowI M p) M) ++ [AV.gr (b + rowI M p) M])) h
  rw [Nat.add_zero] at hz
  rw [hz]
  congr 1
  refine List.ext_getElem? fun i => ?_
  have hll : (memS b M N p W).length = rowI M p := memS_len _ _ _ _ _
  by_cases hi : i < rowI M (p + 1)
  · rw [memS_get hi]
    by_cases h0 : i = 0
    · subst h0
      rw [List.getElem?_set_self (by rw [List.length_append, hll]; unfold rowI; omega), memB_t, decide_eq_false (by omega)]
      show _ = some (Blk.grow 24 _ (renL _ _))
      rw [renL_eq, vecF_map, vecF_succ]; rfl
    · rw [List.getElem?_set_ne (by omega)]
      by_cases h1 : i < rowI M p
      · rw [List.getElem?_append_left (by omega), memS_get h1]
        congr 2
        unfold memB
        rw [if_neg h0, if_neg h0]
        by_cases e1 : (i - 1) % (M + 1) = 0
        · have hq : (i - 1) / (M + 1) ≠ p := fun h => by have := rowI_of h0 e1 h; omega
          have hq' : (i - 1) / (M + 1) ≠ p + 1 := fun h => by
            have := rowI_of h0 e1 h
            have := rowI_mono (M := M) (show p ≤ p + 1 by omega)
            omega
          rw [if_pos e1, if_pos e1, decide_eq_false (fun h => hq h.1), decide_eq_false (fun h => hq' h.1), if_neg hq, if_neg hq']
        · rw [if_neg e1, if_neg e1]
      · rw [List.getElem?_append_right (by omega), hll]
        by_cases h2 : i = rowI M p
        · subst h2
          rw [Nat.sub_self, List.getElem?_cons_zero, memB_r, decide_eq_false (by omega), if_neg (by omega)]
          show _ = some (Blk.grow 43 _ (renL _ _))
          rw [renL_eq, vecF_map]; rfl
        · obtain ⟨m, hm, rfl⟩ : ∃ m, m < M ∧ i = celI M p m := ⟨i - rowI M p - 1, by rw [rowI_succ] at hi; omega, by unfold celI; omega⟩
          rw [memB_c hm, zvs_ren, show celI M p m - rowI M p = m + 1 by unfold celI; omega, List.getElem?_cons_succ, vecF_get?, if_pos hm]
  · refine (List.getElem?_eq_none ?_).trans (List.getElem?_eq_none (by rw [memS_len]; omega)).symm
    rw [List.length_set, List.length_append, hll, List.length_cons, vecF_len]
    rw [rowI_succ] at hi; omega
theorem memS_froz {pre : List Blk} {b M N P : Nat} (W : T3 Int) (h : pre.length = b) : Froz Try.prog (pre ++ memS b M N P W) (.gr b P) (.sl (decide (P = 0)) ((mkT P M N W).map rsT)) := by
  unfold mkT
  rw [vecF_map]
  refine froz_vec (memS_t h) (by kernel_rfl) (fun _ _ => rfl) (fun _ _ => rfl) fun p hp => ?_
  show Froz _ _ _ (.sl false ((vecF M fun m => (false, vecF N fun l => W p m l)).map rwA))
  rw [vecF_map]
  refine froz_vec (memS_r h hp) (by kernel_rfl) (fun _ _ => rfl) (fun _ _ => rfl) fun m hm => ?_
  exact Froz.grow (memS_c h hp hm) (zvs_len _ _) (zvs_low _ _)
end GA
end

section
namespace GA
open Go Go.RowKit
set_option linter.unusedVariables false
section
variable {P : Program} {N : Nat} {ρ : Option Nat} {H : List Blk} {σ : St} {D : List Nat}

theorem XDo.freezeRow {K : St → List Blk → Prop} (j e i n : Nat) {t t' : TypeId} {nl nl' : Bool} {els ys : List AV} (hj : lget H j = some (.grow t nl els)) (hone : ∀ x ∈ els, x.one = true) (he : els[e]? = some (.gr i n)) (hi : lget H i = some (.grow t' nl' ys)) (hij : i ≠ j) (hn : ys.length = n)
    (x : XDo P N D σ ((H.set i .dead).set j (.grow t nl (els.set e (.sl nl' ys)))) K) : XDo P N D σ H K := by
  constructor
  intro E h β a w s
  rw [lget_eq] at hi hj
  obtain ⟨h', s1, X1, hfz⟩ := s.sr.freeze hi
  have hj1 : (H.set i .dead)[j]? = some (.grow t nl els) := by rw [List.getElem?_set_ne hij]; exact hj
  have hlt := (List.getElem?_eq_some_iff.1 he).1
  have hone' : ∀ x ∈ els.set e (.sl nl' ys), x.one = true := fun x hx => by
    rcases List.mem_or_eq_of_mem_set hx with hx | rfl
    · exact hone x hx
    · rfl
  obtain ⟨s2, X2⟩ := s1.modify (β' := β) (w' := w) (x' := .grow t nl (els.set e (.sl nl' ys))) hj1 (fun _ _ => rfl) (.inr ⟨_, _, rfl, by rw [List.length_set]; exact Nat.le_refl _, fun _ => rfl⟩) s1.env (fun _ _ _ => rfl) (fun b e => .inl (by unfold blkOf; rw [hj1]; exact e)) (fun X => by
    rcases s.sr.blk j _ hj with ⟨_, h0, _⟩ | ⟨_, h0, _⟩ | ⟨h0, b, cap, c, h1, h2, h3, h4, h5, h6, h7, h8, h9, us, h10, h11⟩
    · subst h0; simp at hlt
    · subst h0; simp at hlt
    · refine .inr (.inr ⟨h0, b, cap, c, by rw [List.length_set]; exact h1, h2, h3, by rw [List.length_set]; exact h4, h5, h6, h7, fun y hy => ?_, fun y hy => ?_, us, fun k y ek => ?_, fun k y ek => ?_⟩)
      · rw [cells_one (hone' y hy)]
        have := h8 _ (List.mem_of_getElem? he)
        exact this
      · rw [flat_one hone'] at hy; exact hone' y hy
      · rw [flat_one hone'] at ek
        rw [flat_one hone] at h10
        by_cases hke : e = k
        · subst hke; exact h10 e _ he
        · rw [List.getElem?_set_ne hke] at ek; exact h10 k y ek
      · rw [flat_one hone'] at ek
        rw [flat_one hone] at h11
        by_cases hke : e = k
        · subst hke
          rw [List.getElem?_set_self hlt] at ek; cases ek
          exact gr_frz s.sr hi hn (h11 e _ he) (X1.trans X) hfz
        · rw [List.getElem?_set_ne hke] at ek; exact (X1.trans X).rep (h11 k y ek))
  obtain ⟨σ2, H2, h2, β2, q2, X3, s3⟩ := x.o E h' β a w ⟨s2, fun u r e => let ⟨v, h1, h2⟩ := s.fits u r e; ⟨v, h1, (X1.trans X2).rep h2⟩, s.size, s.df.ext (X1.trans X2)⟩
  exact ⟨σ2, H2, h2, β2, q2, (X1.trans X2).trans X3, s3⟩
end
end GA
end
