/- Part 7 of a proof: S20, S23, S25, S27, S28, S36, S37, S38, S30b, Abs32, S39. -/
import Derived.Test.YtlbdomhfcghjdaaP6
import Derived.Test.YtlbdomhfcghjdaaRows
section
namespace GA
open Go Go.RowKit Go.Proofs
set_option pp.deepTerms true
set_option maxRecDepth 8000
set_option linter.unusedVariables false
set_option linter.unusedSimpArgs false

def five : Ld := ⟨50, 10, false, [⟨30, 0⟩, ⟨20, 1⟩, ⟨25, 0⟩, ⟨20, 2⟩, ⟨10, 1⟩], true, [], true, []⟩
def fiveP : Ld := { five with nla := false, apart := [(0, 2)], nlw := false, wth := [(1, 3)] }
def fivePr : Pr := ⟨50, false, [27, 18, 23, 18, 9]⟩
theorem five_ok : checkR five = 0 ∧ checkR fiveP = 0 := by decide +kernel
theorem five_many : manyD (openD five) = 2 := by decide +kernel
theorem five_out : (loadI (openD five) 2 2).out = [0, 0, 1, 1, 1] := by decide +kernel
theorem fiveP_many : manyD (openD fiveP) = 3 := by decide +kernel
theorem fiveP_out : (loadI (openD fiveP) 3 3).out = [0, 1, 2, 1, 0] := by decide +kernel
theorem five_pr : priceE five fivePr = 0 ∧ fairB (openD five) fivePr = true ∧ (fivePr.ps.sum + fivePr.unit - 1) / fivePr.unit = 2 := by decide +kernel
theorem five_share : shareE five 10 = 0 ∧ shareI (partsR five) 10 = [5, 3, 2, 0, 0, 0] := by decide +kernel
theorem five_riddle : riddledR [12, 20, 19, 25] 20 = 0 ∧ keptL [12, 20, 19, 25] 20 = [20, 25] := by decide +kernel
theorem five_w : LdW five := ⟨fun _ => rfl, by decide, by decide, by decide⟩
theorem fiveP_w : LdW fiveP := ⟨(fun h => by cases h), by decide, by decide, by decide⟩
theorem five_c : Comp Try.prog 82 [] (ldA five) := by
  refine Comp.body' (T := tab) (res := [.cell 0 26]) tab_ok [] Try.func82 rfl (by kernel_rfl) Try.ntmps82 rfl (by simp only [List.length_cons, List.length_nil]; decide) (by rfl) ?_; conv => whnf
  repeat' first
      | ((with_reducible apply XBr.tt); conv => whnf)
      | ((with_reducible apply XBr.ff); conv => whnf)
      | (with_reducible apply XBr.not)
      | ((with_reducible apply XBr.dec) <;> (intro h; first | (exfalso; omega) | ((try simp only [List.length_map] at h); first | (exfalso; omega) | (conv => whnf))))
      | ((with_reducible apply XBr.beq) <;> (intro h; first | (exfalso; omega) | (conv => whnf)))
      | ((with_reducible apply XBr.bne) <;> (intro h; first | (exfalso; omega) | (conv => whnf)))
      | ((with_reducible refine XInt.i64 (by omega) (by omega) ?_); conv => whnf)
      | ((with_reducible refine XHold.mk ?_ ?_); (first | omega | rfl | decide | exact ⟨rfl, by decide, rfl⟩ | exact wideI _ | exact widePr _ | exact wideSk _ | (unfold Room; constructor <;> ((try simp) <;> omega)) | exact ⟨rfl, by simp only [List.length_map], by unfold Room; constructor <;> ((try simp) <;> omega)⟩ | exact ⟨by omega, by omega, by unfold Room; constructor <;> ((try simp) <;> omega)⟩); conv => whnf)
      | ((with_reducible refine XIx.nat ?_ ?_ ?_); omega; (intro _; rfl); conv => whnf)
      | ((with_reducible refine XIx.map ?_ ?_ ?_ ?_); omega; omega; (intro _; rfl); conv => whnf)
      | (with_reducible apply XAnd.mk)
      | ((with_reducible apply Chk.go); conv => whnf)
      | ((with_reducible apply ChkA.go); conv => whnf)
      | ((with_reducible apply ChkF.go); conv => whnf)
      | ((with_reducible apply ChkB.go); conv => whnf)
      | (exact XSame.mk rfl rfl)
      | (exact XSame.mk (by first | rfl | (simp only [List.map_append, List.length_append, List.length_map]; done) | (simp only [List.map_append, List.length_append, List.length_map]; rfl)) (by first | rfl | (simp only [List.map_append]; done) | (simp only [List.map_append]; rfl)))
      | (with_reducible exact trivial)
      | ((with_reducible refine xdrop_app (by rw [List.length_map]; omega) ?_); conv => whnf)
      | ((with_reducible refine XArr.ints (by omega) (by omega) (by omega) ?_); conv => whnf)
      | ((with_reducible refine XArr.intsA (by omega) (by omega) (by omega) ?_); conv => whnf)
      | ((with_reducible refine XArr.nats ?_ ?_ ?_); omega; omega; conv => whnf)
      | ((with_reducible refine XArr.natsA ?_ ?_ ?_); omega; omega; conv => whnf)
      | ((with_reducible apply XArr.pim0); conv => whnf)
      | ((with_reducible apply XArr.pim1); conv => whnf)
      | ((with_reducible refine XArr.ptr ?_ ?_ ?_); omega; omega; conv => whnf)
      | ((with_reducible apply XBr.mk') <;> (intro h; conv => whnf))
  exact ⟨Froz.low rfl⟩
theorem five_fewest : fewestR five = .tup [.sl false (ints [0, 0, 1, 1, 1]), .int .i64 2, .int .i64 0] := by
  unfold fewestR; rw [if_pos five_ok.1]; unfold fewestD; rw [five_many, if_neg (by decide), five_out]; rfl
theorem fiveP_fewest : fewestR fiveP = .tup [.sl false (ints [0, 1, 2, 1, 0]), .int .i64 3, .int .i64 0] := by
  unfold fewestR; rw [if_pos five_ok.2]; unfold fewestD; rw [fiveP_many, if_neg (by decide), fiveP_out]; rfl
theorem five_proves : provesR five fivePr = .tup [.int .i64 2, .int .i64 0] := by
  unfold provesR; rw [if_pos five_ok.1, if_pos five_pr.1, if_pos five_pr.2.1, five_pr.2.2]
theorem five_shareR : shareR five 10 = .tup [.sl false (ints [5, 3, 2, 0, 0, 0]), .int .i64 0] := by
  unfold shareR; rw [if_pos five_share.1, show (10 : Int).toNat = 10 from rfl, five_share.2]
theorem five_riddleR : riddleR [12, 20, 19, 25] 20 = .tup [.sl false (ints [20, 25]), slA (thruL [12, 20, 19, 25] 20), .int .i64 0] := by
  unfold riddleR; rw [if_pos five_riddle.1]; unfold riddleA; rw [five_riddle.2]; rfl
theorem cFive : Comp Try.prog 18 [ldA five] (.tup [.sl false (ints [0, 0, 1, 1, 1]), .int .i64 2, .int .i64 0]) := five_fewest ▸ fewest_c five five_w.w five_w.h1 five_w.h2 five_w.h3
theorem cFiveP : Comp Try.prog 18 [ldA fiveP] (.tup [.sl false (ints [0, 1, 2, 1, 0]), .int .i64 3, .int .i64 0]) := fiveP_fewest ▸ fewest_c fiveP fiveP_w.w fiveP_w.h1 fiveP_w.h2 fiveP_w.h3
theorem cRid : Comp Try.prog 27 [.sl false (ints [12, 20, 19, 25]), .int .i64 20] (.tup [.sl false (ints [20, 25]), slA (thruL [12, 20, 19, 25] 20), .int .i64 0]) := five_riddleR ▸ riddle_c false [12, 20, 19, 25] 20 (by decide)
theorem cShare : Comp Try.prog 33 [ldA five, .int .i64 10] (.tup [.sl false (ints [5, 3, 2, 0, 0, 0]), .int .i64 0]) := five_shareR ▸ share_c five 10 five_w
theorem cProves : Comp Try.prog 25 [ldA five, pcA fivePr] (.tup [.int .i64 2, .int .i64 0]) := five_proves ▸ proves_c five fivePr five_w (by decide)
theorem cEq (xs : List Int) (h : xs.length ≤ 100000) : Comp Try.prog 30 [.sl false (ints xs), .sl false (ints xs)] (.bool true) := by
  have := eq_int false false xs xs h
  rwa [show (xs == xs) = true from beq_self_eq_true xs] at this
theorem cEq1 : Comp Try.prog 30 [.sl false (ints [0, 0, 1, 1, 1]), .sl false [.int .i64 0, .int .i64 0, .int .i64 1, .int .i64 1, .int .i64 1]] (.bool true) := cEq [0, 0, 1, 1, 1] (by decide)
theorem cEq2 : Comp Try.prog 30 [.sl false (ints [20, 25]), .sl false [.int .i64 20, .int .i64 25]] (.bool true) := cEq [20, 25] (by decide)
theorem cEq3 : Comp Try.prog 30 [.sl false (ints [5, 3, 2, 0, 0, 0]), .sl false [.int .i64 5, .int .i64 3, .int .i64 2, .int .i64 0, .int .i64 0, .int .i64 0]] (.bool true) := cEq [5, 3, 2, 0, 0, 0] (by decide)
theorem cEq4 : Comp Try.prog 30 [.sl false (ints [0, 1, 2, 1, 0]), .sl false [.int .i64 0, .int .i64 1, .int .i64 2, .int .i64 1, .int .i64 0]] (.bool true) := cEq [0, 1, 2, 1, 0] (by decide)
theorem awake_c : Comp Try.prog 19 [] (.bool true) := by
  refine Comp.body' (T := tab) (res := [.tmp 0]) tab_ok [] Try.func19 rfl (by kernel_rfl) Try.ntmps19 rfl (by simp only [List.length_cons, List.length_nil]; decide) (by rfl) ?_; conv => whnf
  refine XCall.ret five_c ?_
  conv => whnf
  refine XCall.ret cFive ?_
  conv => whnf
  repeat' first
      | ((with_reducible apply XBr.tt); conv => whnf)
      | ((with_reducible apply XBr.ff); conv => whnf)
      | (with_reducible apply XBr.not)
      | ((with_reducible apply XBr.dec) <;> (intro h; first | (exfalso; omega) | ((try simp only [List.length_map] at h); first | (exfalso; omega) | (conv => whnf))))
      | ((with_reducible apply XBr.beq) <;> (intro h; first | (exfalso; omega) | (conv => whnf)))
      | ((with_reducible apply XBr.bne) <;> (intro h; first | (exfalso; omega) | (conv => whnf)))
      | ((with_reducible refine XInt.i64 (by omega) (by omega) ?_); conv => whnf)
      | ((with_reducible refine XHold.mk ?_ ?_); (first | omega | rfl | decide | exact ⟨rfl, by decide, rfl⟩ | exact wideI _ | exact widePr _ | exact wideSk _ | (unfold Room; constructor <;> ((try simp) <;> omega)) | exact ⟨rfl, by simp only [List.length_map], by unfold Room; constructor <;> ((try simp) <;> omega)⟩ | exact ⟨by omega, by omega, by unfold Room; constructor <;> ((try simp) <;> omega)⟩); conv => whnf)
      | ((with_reducible refine XIx.nat ?_ ?_ ?_); omega; (intro _; rfl); conv => whnf)
      | ((with_reducible refine XIx.map ?_ ?_ ?_ ?_); omega; omega; (intro _; rfl); conv => whnf)
      | (with_reducible apply XAnd.mk)
      | ((with_reducible apply Chk.go); conv => whnf)
      | ((with_reducible apply ChkA.go); conv => whnf)
      | ((with_reducible apply ChkF.go); conv => whnf)
      | ((with_reducible apply ChkB.go); conv => whnf)
      | (exact XSame.mk rfl rfl)
      | (exact XSame.mk (by first | rfl | (simp only [List.map_append, List.length_append, List.length_map]; done) | (simp only [List.map_append, List.length_append, List.length_map]; rfl)) (by first | rfl | (simp only [List.map_append]; done) | (simp only [List.map_append]; rfl)))
      | (with_reducible exact trivial)
      | ((with_reducible refine xdrop_app (by rw [List.length_map]; omega) ?_); conv => whnf)
      | ((with_reducible refine XArr.ints (by omega) (by omega) (by omega) ?_); conv => whnf)
      | ((with_reducible refine XArr.intsA (by omega) (by omega) (by omega) ?_); conv => whnf)
      | ((with_reducible refine XArr.nats ?_ ?_ ?_); omega; omega; conv => whnf)
      | ((with_reducible refine XArr.natsA ?_ ?_ ?_); omega; omega; conv => whnf)
      | ((with_reducible apply XArr.pim0); conv => whnf)
      | ((with_reducible apply XArr.pim1); conv => whnf)
      | ((with_reducible refine XArr.ptr ?_ ?_ ?_); omega; omega; conv => whnf)
      | ((with_reducible apply XBr.mk') <;> (intro h; conv => whnf))
  refine XCall.ret cRid ?_
  conv => whnf
  refine XCall.ret five_c ?_
  conv => whnf
  refine XCall.ret cShare ?_
  conv => whnf
  refine XCall.ret five_c ?_
  conv => whnf
  repeat' first
      | ((with_reducible apply XBr.tt); conv => whnf)
      | ((with_reducible apply XBr.ff); conv => whnf)
      | (with_reducible apply XBr.not)
      | ((with_reducible apply XBr.dec) <;> (intro h; first | (exfalso; omega) | ((try simp only [List.length_map] at h); first | (exfalso; omega) | (conv => whnf))))
      | ((with_reducible apply XBr.beq) <;> (intro h; first | (exfalso; omega) | (conv => whnf)))
      | ((with_reducible apply XBr.bne) <;> (intro h; first | (exfalso; omega) | (conv => whnf)))
      | ((with_reducible refine XInt.i64 (by omega) (by omega) ?_); conv => whnf)
      | ((with_reducible refine XHold.mk ?_ ?_); (first | omega | rfl | decide | exact ⟨rfl, by decide, rfl⟩ | exact wideI _ | exact widePr _ | exact wideSk _ | (unfold Room; constructor <;> ((try simp) <;> omega)) | exact ⟨rfl, by simp only [List.length_map], by unfold Room; constructor <;> ((try simp) <;> omega)⟩ | exact ⟨by omega, by omega, by unfold Room; constructor <;> ((try simp) <;> omega)⟩); conv => whnf)
      | ((with_reducible refine XIx.nat ?_ ?_ ?_); omega; (intro _; rfl); conv => whnf)
      | ((with_reducible refine XIx.map ?_ ?_ ?_ ?_); omega; omega; (intro _; rfl); conv => whnf)
      | (with_reducible apply XAnd.mk)
      | ((with_reducible apply Chk.go); conv => whnf)
      | ((with_reducible apply ChkA.go); conv => whnf)
      | ((with_reducible apply ChkF.go); conv => whnf)
      | ((with_reducible apply ChkB.go); conv => whnf)
      | (exact XSame.mk rfl rfl)
      | (exact XSame.mk (by first | rfl | (simp only [List.map_append, List.length_append, List.length_map]; done) | (simp only [List.map_append, List.length_append, List.length_map]; rfl)) (by first | rfl | (simp only [List.map_append]; done) | (simp only [List.map_append]; rfl)))
      | (with_reducible exact trivial)
      | ((with_reducible refine xdrop_app (by rw [List.length_map]; omega) ?_); conv => whnf)
      | ((with_reducible refine XArr.ints (by omega) (by omega) (by omega) ?_); conv => whnf)
      | ((with_reducible refine XArr.intsA (by omega) (by omega) (by omega) ?_); conv => whnf)
      | ((with_reducible refine XArr.nats ?_ ?_ ?_); omega; omega; conv => whnf)
      | ((with_reducible refine XArr.natsA ?_ ?_ ?_); omega; omega; conv => whnf)
      | ((with_reducible apply XArr.pim0); conv => whnf)
      | ((with_reducible apply XArr.pim1); conv => whnf)
      | ((with_reducible refine XArr.ptr ?_ ?_ ?_); omega; omega; conv => whnf)
      | ((with_reducible apply XBr.mk') <;> (intro h; conv => whnf))
  refine XCall.ret cFiveP ?_
  conv => whnf
  refine XCall.ret five_c ?_
  conv => whnf
  repeat' first
      | ((with_reducible apply XBr.tt); conv => whnf)
      | ((with_reducible apply XBr.ff); conv => whnf)
      | (with_reducible apply XBr.not)
      | ((with_reducible apply XBr.dec) <;> (intro h; first | (exfalso; omega) | ((try simp only [List.length_map] at h); first | (exfalso; omega) | (conv => whnf))))
      | ((with_reducible apply XBr.beq) <;> (intro h; first | (exfalso; omega) | (conv => whnf)))
      | ((with_reducible apply XBr.bne) <;> (intro h; first | (exfalso; omega) | (conv => whnf)))
      | ((with_reducible refine XInt.i64 (by omega) (by omega) ?_); conv => whnf)
      | ((with_reducible refine XHold.mk ?_ ?_); (first | omega | rfl | decide | exact ⟨rfl, by decide, rfl⟩ | exact wideI _ | exact widePr _ | exact wideSk _ | (unfold Room; constructor <;> ((try simp) <;> omega)) | exact ⟨rfl, by simp only [List.length_map], by unfold Room; constructor <;> ((try simp) <;> omega)⟩ | exact ⟨by omega, by omega, by unfold Room; constructor <;> ((try simp) <;> omega)⟩); conv => whnf)
      | ((with_reducible refine XIx.nat ?_ ?_ ?_); omega; (intro _; rfl); conv => whnf)
      | ((with_reducible refine XIx.map ?_ ?_ ?_ ?_); omega; omega; (intro _; rfl); conv => whnf)
      | (with_reducible apply XAnd.mk)
      | ((with_reducible apply Chk.go); conv => whnf)
      | ((with_reducible apply ChkA.go); conv => whnf)
      | ((with_reducible apply ChkF.go); conv => whnf)
      | ((with_reducible apply ChkB.go); conv => whnf)
      | (exact XSame.mk rfl rfl)
      | (exact XSame.mk (by first | rfl | (simp only [List.map_append, List.length_append, List.length_map]; done) | (simp only [List.map_append, List.length_append, List.length_map]; rfl)) (by first | rfl | (simp only [List.map_append]; done) | (simp only [List.map_append]; rfl)))
      | (with_reducible exact trivial)
      | ((with_reducible refine xdrop_app (by rw [List.length_map]; omega) ?_); conv => whnf)
      | ((with_reducible refine XArr.ints (by omega) (by omega) (by omega) ?_); conv => whnf)
      | ((with_reducible refine XArr.intsA (by omega) (by omega) (by omega) ?_); conv => whnf)
      | ((with_reducible refine XArr.nats ?_ ?_ ?_); omega; omega; conv => whnf)
      | ((with_reducible refine XArr.natsA ?_ ?_ ?_); omega; omega; conv => whnf)
      | ((with_reducible apply XArr.pim0); conv => whnf)
      | ((with_reducible apply XArr.pim1); conv => whnf)
      | ((with_reducible refine XArr.ptr ?_ ?_ ?_); omega; omega; conv => whnf)
      | ((with_reducible apply XBr.mk') <;> (intro h; conv => whnf))
  refine XCall.ret cProves ?_
  conv => whnf
  refine Walk.norm tab_ok [] [(3, .int .i64 0), (6, .int .i64 0), (8, .int .i64 0), (12, .int .i64 0), (14, .int .i64 0), (1, .sl false (ints [0, 0, 1, 1, 1])), (2, .int .i64 2), (4, .sl false (ints [20, 25])), (7, .sl false (ints [5, 3, 2, 0, 0, 0])), (10, .sl false (ints [0, 1, 2, 1, 0])), (11, .int .i64 3), (13, .int .i64 2)] ⟨rfl, rfl, rfl, rfl, rfl, rfl, rfl, rfl, rfl, rfl, rfl, rfl, trivial⟩ ?_
  conv => whnf
  repeat' first
      | ((with_reducible apply XBr.tt); conv => whnf)
      | ((with_reducible apply XBr.ff); conv => whnf)
      | (with_reducible apply XBr.not)
      | ((with_reducible apply XBr.dec) <;> (intro h; first | (exfalso; omega) | ((try simp only [List.length_map] at h); first | (exfalso; omega) | (conv => whnf))))
      | ((with_reducible apply XBr.beq) <;> (intro h; first | (exfalso; omega) | (conv => whnf)))
      | ((with_reducible apply XBr.bne) <;> (intro h; first | (exfalso; omega) | (conv => whnf)))
      | ((with_reducible refine XInt.i64 (by omega) (by omega) ?_); conv => whnf)
      | ((with_reducible refine XHold.mk ?_ ?_); (first | omega | rfl | decide | exact ⟨rfl, by decide, rfl⟩ | exact wideI _ | exact widePr _ | exact wideSk _ | (unfold Room; constructor <;> ((try simp) <;> omega)) | exact ⟨rfl, by simp only [List.length_map], by unfold Room; constructor <;> ((try simp) <;> omega)⟩ | exact ⟨by omega, by omega, by unfold Room; constructor <;> ((try simp) <;> omega)⟩); conv => whnf)
      | ((with_reducible refine XIx.nat ?_ ?_ ?_); omega; (intro _; rfl); conv => whnf)
      | ((with_reducible refine XIx.map ?_ ?_ ?_ ?_); omega; omega; (intro _; rfl); conv => whnf)
      | (with_reducible apply XAnd.mk)
      | ((with_reducible apply Chk.go); conv => whnf)
      | ((with_reducible apply ChkA.go); conv => whnf)
      | ((with_reducible apply ChkF.go); conv => whnf)
      | ((with_reducible apply ChkB.go); conv => whnf)
      | (exact XSame.mk rfl rfl)
      | (exact XSame.mk (by first | rfl | (simp only [List.map_append, List.length_append, List.length_map]; done) | (simp only [List.map_append, List.length_append, List.length_map]; rfl)) (by first | rfl | (simp only [List.map_append]; done) | (simp only [List.map_append]; rfl)))
      | (with_reducible exact trivial)
      | ((with_reducible refine xdrop_app (by rw [List.length_map]; omega) ?_); conv => whnf)
      | ((with_reducible refine XArr.ints (by omega) (by omega) (by omega) ?_); conv => whnf)
      | ((with_reducible refine XArr.intsA (by omega) (by omega) (by omega) ?_); conv => whnf)
      | ((with_reducible refine XArr.nats ?_ ?_ ?_); omega; omega; conv => whnf)
      | ((with_reducible refine XArr.natsA ?_ ?_ ?_); omega; omega; conv => whnf)
      | ((with_reducible apply XArr.pim0); conv => whnf)
      | ((with_reducible apply XArr.pim1); conv => whnf)
      | ((with_reducible refine XArr.ptr ?_ ?_ ?_); omega; omega; conv => whnf)
      | ((with_reducible apply XBr.mk') <;> (intro h; conv => whnf))
  refine XCall.ret cEq1 ?_
  conv => whnf
  repeat' first
      | ((with_reducible apply XBr.tt); conv => whnf)
      | ((with_reducible apply XBr.ff); conv => whnf)
      | (with_reducible apply XBr.not)
      | ((with_reducible apply XBr.dec) <;> (intro h; first | (exfalso; omega) | ((try simp only [List.length_map] at h); first | (exfalso; omega) | (conv => whnf))))
      | ((with_reducible apply XBr.beq) <;> (intro h; first | (exfalso; omega) | (conv => whnf)))
      | ((with_reducible apply XBr.bne) <;> (intro h; first | (exfalso; omega) | (conv => whnf)))
      | ((with_reducible refine XInt.i64 (by omega) (by omega) ?_); conv => whnf)
      | ((with_reducible refine XHold.mk ?_ ?_); (first | omega | rfl | decide | exact ⟨rfl, by decide, rfl⟩ | exact wideI _ | exact widePr _ | exact wideSk _ | (unfold Room; constructor <;> ((try simp) <;> omega)) | exact ⟨rfl, by simp only [List.length_map], by unfold Room; constructor <;> ((try simp) <;> omega)⟩ | exact ⟨by omega, by omega, by unfold Room; constructor <;> ((try simp) <;> omega)⟩); conv => whnf)
      | ((with_reducible refine XIx.nat ?_ ?_ ?_); omega; (intro _; rfl); conv => whnf)
      | ((with_reducible refine XIx.map ?_ ?_ ?_ ?_); omega; omega; (intro _; rfl); conv => whnf)
      | (with_reducible apply XAnd.mk)
      | ((with_reducible apply Chk.go); conv => whnf)
      | ((with_reducible apply ChkA.go); conv => whnf)
      | ((with_reducible apply ChkF.go); conv => whnf)
      | ((with_reducible apply ChkB.go); conv => whnf)
      | (exact XSame.mk rfl rfl)
      | (exact XSame.mk (by first | rfl | (simp only [List.map_append, List.length_append, List.length_map]; done) | (simp only [List.map_append, List.length_append, List.length_map]; rfl)) (by first | rfl | (simp only [List.map_append]; done) | (simp only [List.map_append]; rfl)))
      | (with_reducible exact trivial)
      | ((with_reducible refine xdrop_app (by rw [List.length_map]; omega) ?_); conv => whnf)
      | ((with_reducible refine XArr.ints (by omega) (by omega) (by omega) ?_); conv => whnf)
      | ((with_reducible refine XArr.intsA (by omega) (by omega) (by omega) ?_); conv => whnf)
      | ((with_reducible refine XArr.nats ?_ ?_ ?_); omega; omega; conv => whnf)
      | ((with_reducible refine XArr.natsA ?_ ?_ ?_); omega; omega; conv => whnf)
      | ((with_reducible apply XArr.pim0); conv => whnf)
      | ((with_reducible apply XArr.pim1); conv => whnf)
      | ((with_reducible refine XArr.ptr ?_ ?_ ?_); omega; omega; conv => whnf)
      | ((with_reducible apply XBr.mk') <;> (intro h; conv => whnf))
  refine XCall.ret cEq2 ?_
  conv => whnf
  repeat' first
      | ((with_reducible apply XBr.tt); conv => whnf)
      | ((with_reducible apply XBr.ff); conv => whnf)
      | (with_reducible apply XBr.not)
      | ((with_reducible apply XBr.dec) <;> (intro h; first | (exfalso; omega) | ((try simp only [List.length_map] at h); first | (exfalso; omega) | (conv => whnf))))
      | ((with_reducible apply XBr.beq) <;> (intro h; first | (exfalso; omega) | (conv => whnf)))
      | ((with_reducible apply XBr.bne) <;> (intro h; first | (exfalso; omega) | (conv => whnf)))
      | ((with_reducible refine XInt.i64 (by omega) (by omega) ?_); conv => whnf)
      | ((with_reducible refine XHold.mk ?_ ?_); (first | omega | rfl | decide | exact ⟨rfl, by decide, rfl⟩ | exact wideI _ | exact widePr _ | exact wideSk _ | (unfold Room; constructor <;> ((try simp) <;> omega)) | exact ⟨rfl, by simp only [List.length_map], by unfold Room; constructor <;> ((try simp) <;> omega)⟩ | exact ⟨by omega, by omega, by unfold Room; constructor <;> ((try simp) <;> omega)⟩); conv => whnf)
      | ((with_reducible refine XIx.nat ?_ ?_ ?_); omega; (intro _; rfl); conv => whnf)
      | ((with_reducible refine XIx.map ?_ ?_ ?_ ?_); omega; omega; (intro _; rfl); conv => whnf)
      | (with_reducible apply XAnd.mk)
      | ((with_reducible apply Chk.go); conv => whnf)
      | ((with_reducible apply ChkA.go); conv => whnf)
      | ((with_reducible apply ChkF.go); conv => whnf)
      | ((with_reducible apply ChkB.go); conv => whnf)
      | (exact XSame.mk rfl rfl)
      | (exact XSame.mk (by first | rfl | (simp only [List.map_append, List.length_append, List.length_map]; done) | (simp only [List.map_append, List.length_append, List.length_map]; rfl)) (by first | rfl | (simp only [List.map_append]; done) | (simp only [List.map_append]; rfl)))
      | (with_reducible exact trivial)
      | ((with_reducible refine xdrop_app (by rw [List.length_map]; omega) ?_); conv => whnf)
      | ((with_reducible refine XArr.ints (by omega) (by omega) (by omega) ?_); conv => whnf)
      | ((with_reducible refine XArr.intsA (by omega) (by omega) (by omega) ?_); conv => whnf)
      | ((with_reducible refine XArr.nats ?_ ?_ ?_); omega; omega; conv => whnf)
      | ((with_reducible refine XArr.natsA ?_ ?_ ?_); omega; omega; conv => whnf)
      | ((with_reducible apply XArr.pim0); conv => whnf)
      | ((with_reducible apply XArr.pim1); conv => whnf)
      | ((with_reducible refine XArr.ptr ?_ ?_ ?_); omega; omega; conv => whnf)
      | ((with_reducible apply XBr.mk') <;> (intro h; conv => whnf))
  refine XCall.ret cEq3 ?_
  conv => whnf
  repeat' first
      | ((with_reducible apply XBr.tt); conv => whnf)
      | ((with_reducible apply XBr.ff); conv => whnf)
      | (with_reducible apply XBr.not)
      | ((with_reducible apply XBr.dec) <;> (intro h; first | (exfalso; omega) | ((try simp only [List.length_map] at h); first | (exfalso; omega) | (conv => whnf))))
      | ((with_reducible apply XBr.beq) <;> (intro h; first | (exfalso; omega) | (conv => whnf)))
      | ((with_reducible apply XBr.bne) <;> (intro h; first | (exfalso; omega) | (conv => whnf)))
      | ((with_reducible refine XInt.i64 (by omega) (by omega) ?_); conv => whnf)
      | ((with_reducible refine XHold.mk ?_ ?_); (first | omega | rfl | decide | exact ⟨rfl, by decide, rfl⟩ | exact wideI _ | exact widePr _ | exact wideSk _ | (unfold Room; constructor <;> ((try simp) <;> omega)) | exact ⟨rfl, by simp only [List.length_map], by unfold Room; constructor <;> ((try simp) <;> omega)⟩ | exact ⟨by omega, by omega, by unfold Room; constructor <;> ((try simp) <;> omega)⟩); conv => whnf)
      | ((with_reducible refine XIx.nat ?_ ?_ ?_); omega; (intro _; rfl); conv => whnf)
      | ((with_reducible refine XIx.map ?_ ?_ ?_ ?_); omega; omega; (intro _; rfl); conv => whnf)
      | (with_reducible apply XAnd.mk)
      | ((with_reducible apply Chk.go); conv => whnf)
      | ((with_reducible apply ChkA.go); conv => whnf)
      | ((with_reducible apply ChkF.go); conv => whnf)
      | ((with_reducible apply ChkB.go); conv => whnf)
      | (exact XSame.mk rfl rfl)
      | (exact XSame.mk (by first | rfl | (simp only [List.map_append, List.length_append, List.length_map]; done) | (simp only [List.map_append, List.length_append, List.length_map]; rfl)) (by first | rfl | (simp only [List.map_append]; done) | (simp only [List.map_append]; rfl)))
      | (with_reducible exact trivial)
      | ((with_reducible refine xdrop_app (by rw [List.length_map]; omega) ?_); conv => whnf)
      | ((with_reducible refine XArr.ints (by omega) (by omega) (by omega) ?_); conv => whnf)
      | ((with_reducible refine XArr.intsA (by omega) (by omega) (by omega) ?_); conv => whnf)
      | ((with_reducible refine XArr.nats ?_ ?_ ?_); omega; omega; conv => whnf)
      | ((with_reducible refine XArr.natsA ?_ ?_ ?_); omega; omega; conv => whnf)
      | ((with_reducible apply XArr.pim0); conv => whnf)
      | ((with_reducible apply XArr.pim1); conv => whnf)
      | ((with_reducible refine XArr.ptr ?_ ?_ ?_); omega; omega; conv => whnf)
      | ((with_reducible apply XBr.mk') <;> (intro h; conv => whnf))
  refine XCall.ret cEq4 ?_
  conv => whnf
  repeat' first
      | ((with_reducible apply XBr.tt); conv => whnf)
      | ((with_reducible apply XBr.ff); conv => whnf)
      | (with_reducible apply XBr.not)
      | ((with_reducible apply XBr.dec) <;> (intro h; first | (exfalso; omega) | ((try simp only [List.length_map] at h); first | (exfalso; omega) | (conv => whnf))))
      | ((with_reducible apply XBr.beq) <;> (intro h; first | (exfalso; omega) | (conv => whnf)))
      | ((with_reducible apply XBr.bne) <;> (intro h; first | (exfalso; omega) | (conv => whnf)))
      | ((with_reducible refine XInt.i64 (by omega) (by omega) ?_); conv => whnf)
      | ((with_reducible refine XHold.mk ?_ ?_); (first | omega | rfl | decide | exact ⟨rfl, by decide, rfl⟩ | exact wideI _ | exact widePr _ | exact wideSk _ | (unfold Room; constructor <;> ((try simp) <;> omega)) | exact ⟨rfl, by simp only [List.length_map], by unfold Room; constructor <;> ((try simp) <;> omega)⟩ | exact ⟨by omega, by omega, by unfold Room; constructor <;> ((try simp) <;> omega)⟩); conv => whnf)
      | ((with_reducible refine XIx.nat ?_ ?_ ?_); omega; (intro _; rfl); conv => whnf)
      | ((with_reducible refine XIx.map ?_ ?_ ?_ ?_); omega; omega; (intro _; rfl); conv => whnf)
      | (with_reducible apply XAnd.mk)
      | ((with_reducible apply Chk.go); conv => whnf)
      | ((with_reducible apply ChkA.go); conv => whnf)
      | ((with_reducible apply ChkF.go); conv => whnf)
      | ((with_reducible apply ChkB.go); conv => whnf)
      | (exact XSame.mk rfl rfl)
      | (exact XSame.mk (by first | rfl | (simp only [List.map_append, List.length_append, List.length_map]; done) | (simp only [List.map_append, List.length_append, List.length_map]; rfl)) (by first | rfl | (simp only [List.map_append]; done) | (simp only [List.map_append]; rfl)))
      | (with_reducible exact trivial)
      | ((with_reducible refine xdrop_app (by rw [List.length_map]; omega) ?_); conv => whnf)
      | ((with_reducible refine XArr.ints (by omega) (by omega) (by omega) ?_); conv => whnf)
      | ((with_reducible refine XArr.intsA (by omega) (by omega) (by omega) ?_); conv => whnf)
      | ((with_reducible refine XArr.nats ?_ ?_ ?_); omega; omega; conv => whnf)
      | ((with_reducible refine XArr.natsA ?_ ?_ ?_); omega; omega; conv => whnf)
      | ((with_reducible apply XArr.pim0); conv => whnf)
      | ((with_reducible apply XArr.pim1); conv => whnf)
      | ((with_reducible refine XArr.ptr ?_ ?_ ?_); omega; omega; conv => whnf)
      | ((with_reducible apply XBr.mk') <;> (intro h; conv => whnf))
  exact ⟨Froz.low rfl⟩
end GA
end

section
namespace GA
open Go Go.RowKit Go.Proofs
set_option pp.deepTerms true
set_option maxRecDepth 8000
set_option linter.unusedVariables false

abbrev bytes (xs : List Int) : List AV := xs.map (.int .u8)
theorem lowBy {n : Nat} (xs : List Int) : lowL n (bytes xs) = true := lowL_map (fun _ => rfl) xs
/-- A heap of numbers. -/
structure Hp where
  nl : Bool
  bs : List Int
  nx : Nat
  rd : Int
  deriving Inhabited
def hpC (h : Hp) : Blk := .cells [.sl h.nl (bytes h.bs), .int .i64 h.nx, .int .u32 h.rd]
structure Hp.Ok (h : Hp) : Prop where
  l : h.bs.length < 9223372036854775808
  n : h.nx < h.bs.length ∨ h.nx = 0
def hpN (h : Hp) : Int := IntKind.u32.wrap (40503 * IntKind.u32.wrap (h.rd + 1))
def hpM (h : Hp) : Int := if h.nx < h.bs.length then IntKind.u32.wrap (hpN h + IntKind.u32.wrap (331 * IntKind.u32.wrap (h.bs.getD h.nx default))) else hpN h
def hpV' (n : Int) : Int := iand .u32 (ixor .u32 n (n.fdiv (2 ^ (min (9 : Int).toNat IntKind.u32.bits)))) 32767
def hpV (h : Hp) : Int := hpV' (hpM h)
def hpS (h : Hp) : Hp := if h.bs.length ≤ h.nx + 1 then ⟨h.nl, h.bs, 0, IntKind.u32.wrap (h.rd + 1)⟩ else ⟨h.nl, h.bs, h.nx + 1, h.rd⟩
theorem hpV_bound (n : Int) : 0 ≤ hpV' n ∧ hpV' n ≤ 32767 := by
  unfold hpV' iand
  have h1 : (BitVec.ofInt IntKind.u32.bits (ixor .u32 n (n.fdiv (2 ^ (min (9 : Int).toNat IntKind.u32.bits)))) &&& BitVec.ofInt IntKind.u32.bits 32767).toNat ≤ 32767 := by
    rw [BitVec.toNat_and]
    exact Nat.le_trans Nat.and_le_right (by decide)
  generalize (BitVec.ofInt IntKind.u32.bits (ixor .u32 n (n.fdiv (2 ^ (min (9 : Int).toNat IntKind.u32.bits)))) &&& BitVec.ofInt IntKind.u32.bits 32767).toNat = m at h1 ⊢
  simp only [IntKind.wrap, IntKind.bits, IntKind.signed]
  constructor <;> simp <;> omega
theorem hpS_ok {h : Hp} (o : h.Ok) : (hpS h).Ok := by
  unfold hpS; split
  · exact ⟨o.l, .inr rfl⟩
  · exact ⟨o.l, .inl (by dsimp only; omega)⟩
theorem hpC_low {n : Nat} (h : Hp) : (hpC h).low n = true := by simp only [hpC, Blk.low, lowL, AV.low, lowBy]; rfl
theorem hpC_ren (f : Nat → Nat) (h : Hp) : (hpC h).ren f = hpC h := Blk.ren_low (n := 0) (fun i hi => by omega) (hpC_low h)

theorem XInt.w {q : IntKind} {x : Int} {k : AV → Prop} (h : k (.int q (q.wrap x))) : XInt q x k := ⟨h⟩

/-- A call that is lent a heap. -/
def HpOk (f : FuncId) (qs : List AV) (h : Hp) (r : AV) (h' : Hp) : Prop :=
  lowL 0 qs = true ∧ ACall Try.prog f (.ptr 0 0 :: qs) [hpC h] fun r' H' => r' = r ∧ H' = [hpC h']
theorem XCall.hp {f : FuncId} {qs : List AV} {h h' : Hp} {r : AV} (x : HpOk f qs h r h') (hr : r.low 0 = true) {H : List Blk} {k : AV → List Blk → Prop} {j : Nat} (h0 : lget H j = some (hpC h))
    (hk : k r (H.set j (hpC h'))) : XCall Try.prog f (.ptr j 0 :: qs) H k := by
  constructor
  have e := ACall.frame (ρ := fun i => j + i) (H := H) (k := k) x.2 (fun a b _ _ h => by have : j + a = j + b := h; omega) ?_ (fun y hy => by simp at hy; subst hy; exact hpC_low h) ?_ ?_
  · have hd : renL (fun i => j + i) qs = qs := renL_low0 x.1
    rw [List.map_cons, ← renL_eq, hd] at e
    exact e
  · intro i x1 hi
    rw [lget_eq] at h0
    rcases i with _ | i
    · simp only [List.getElem?_cons_zero, Option.some.injEq] at hi; subst hi
      rw [hpC_ren]; exact h0
    · simp at hi
  · simp only [lowL, AV.low, lowL_mono (Nat.zero_le _) x.1]; rfl
  · rintro r1 H1' ⟨rfl, rfl⟩
    rw [lget_eq] at h0
    have hj := (List.getElem?_eq_some_iff.1 h0).1
    refine ⟨rfl, H.set j (hpC h'), by simp, fun i x1 hi => ?_, fun q hq => ?_, ?_⟩
    · rcases i with _ | i
      · simp only [List.getElem?_cons_zero, Option.some.injEq] at hi; subst hi
        rw [hpC_ren]; simp [hj]
      · simp at hi
    · exact List.getElem?_set_ne (by have := hq 0 (by simp); simpa using this)
    · rw [AV.ren_low (n := 0) (fun i hi => by omega) hr]; exact hk

theorem hpM_lt {u : Hp} (h : (u.nx : Int) < u.bs.length) : hpM u = IntKind.u32.wrap (hpN u + IntKind.u32.wrap (331 * IntKind.u32.wrap (u.bs.getD u.nx default))) := if_pos (by omega)
theorem hpM_ge {u : Hp} (h : ¬ (u.nx : Int) < u.bs.length) : hpM u = hpN u := if_neg (by omega)
theorem hpS_end {u : Hp} (h : (u.bs.length : Int) ≤ u.nx + 1) : [hpC (hpS u)] = [Blk.cells [AV.sl u.nl (bytes u.bs), AV.int IntKind.i64 0, AV.int IntKind.u32 (IntKind.u32.wrap (u.rd + 1))]] := by
  unfold hpS; rw [if_pos (by omega)]; rfl
theorem hpS_on {u : Hp} (h : ¬ (u.bs.length : Int) ≤ u.nx + 1) : [hpC (hpS u)] = [Blk.cells [AV.sl u.nl (bytes u.bs), AV.int IntKind.i64 (u.nx + 1), AV.int IntKind.u32 u.rd]] := by
  unfold hpS; rw [if_neg (by omega)]; rfl
theorem i64_small {n : Int} (h1 : 0 ≤ n) (h2 : n ≤ 32767) : IntKind.i64.wrap n = n := by
  simp only [IntKind.wrap, IntKind.bits, IntKind.signed]; simp; omega
theorem pick_end {u : Hp} {n : Int} {H1 : List Blk} (hn : hpM u = n) (hS : [hpC (hpS u)] = H1) : XCut [hpC u].length [] H1 (.int .i64 (IntKind.i64.wrap (hpV' n))) fun r' H' => r' = .int .i64 (hpV u) ∧ H' = [hpC (hpS u)] := by
  subst hn; subst hS
  obtain ⟨h1, h2⟩ := hpV_bound (hpM u)
  rw [i64_small h1 h2]
  exact XCut.mk' [hpC (hpS u)] [] rfl rfl (fun x hx => by simp only [List.mem_cons, List.not_mem_nil, or_false] at hx; subst hx; exact hpC_low _) rfl ⟨rfl, rfl⟩
theorem pick_c (u : Hp) (o : u.Ok) : HpOk 86 [] u (.int .i64 (hpV u)) (hpS u) := by
  have hl := o.l
  have hn := o.n
  refine ⟨rfl, ?_⟩
  refine ACall.bodyK (T := tab) (res := [.tmp 2]) tab_ok [] Try.func86 rfl (by kernel_rfl) Try.ntmps86 rfl (by simp only [List.length_cons, List.length_nil]; decide) ?_; conv => whnf
  repeat' first
      | ((with_reducible apply XBr.tt); conv => whnf)
      | ((with_reducible apply XBr.ff); conv => whnf)
      | (with_reducible apply XBr.not)
      | ((with_reducible apply XBr.dec) <;> (intro h; first | (exfalso; omega) | ((try simp only [List.length_map] at h); first | (exfalso; omega) | (conv => whnf))))
      | ((with_reducible apply XBr.beq) <;> (intro h; first | (exfalso; omega) | (conv => whnf)))
      | ((with_reducible apply XBr.bne) <;> (intro h; first | (exfalso; omega) | (conv => whnf)))
      | ((with_reducible refine XInt.i64 (by omega) (by omega) ?_); conv => whnf)
      | ((with_reducible refine XHold.mk ?_ ?_); (first | omega | rfl | decide | exact ⟨rfl, by decide, rfl⟩ | exact wideI _ | exact widePr _ | exact wideSk _ | (unfold Room; constructor <;> ((try simp) <;> omega)) | exact ⟨rfl, by simp only [List.length_map], by unfold Room; constructor <;> ((try simp) <;> omega)⟩ | exact ⟨by omega, by omega, by unfold Room; constructor <;> ((try simp) <;> omega)⟩); conv => whnf)
      | ((with_reducible refine XIx.nat ?_ ?_ ?_); omega; (intro _; rfl); conv => whnf)
      | ((with_reducible refine XIx.map ?_ ?_ ?_ ?_); omega; omega; (intro _; rfl); conv => whnf)
      | (with_reducible apply XAnd.mk)
      | ((with_reducible apply Chk.go); conv => whnf)
      | ((with_reducible apply ChkA.go); conv => whnf)
      | ((with_reducible apply ChkF.go); conv => whnf)
      | ((with_reducible apply ChkB.go); conv => whnf)
      | (exact XSame.mk rfl rfl)
      | (exact XSame.mk (by first | rfl | (simp only [List.map_append, List.length_append, List.length_map]; done) | (simp only [List.map_append, List.length_append, List.length_map]; rfl)) (by first | rfl | (simp only [List.map_append]; done) | (simp only [List.map_append]; rfl)))
      | (with_reducible exact trivial)
      | ((with_reducible refine xdrop_app (by rw [List.length_map]; omega) ?_); conv => whnf)
      | ((with_reducible refine XArr.ints (by omega) (by omega) (by omega) ?_); conv => whnf)
      | ((with_reducible refine XArr.intsA (by omega) (by omega) (by omega) ?_); conv => whnf)
      | ((with_reducible refine XArr.nats ?_ ?_ ?_); omega; omega; conv => whnf)
      | ((with_reducible refine XArr.natsA ?_ ?_ ?_); omega; omega; conv => whnf)
      | ((with_reducible apply XArr.pim0); conv => whnf)
      | ((with_reducible apply XArr.pim1); conv => whnf)
      | ((with_reducible refine XArr.ptr ?_ ?_ ?_); omega; omega; conv => whnf)
      | ((refine XInt.w ?_); conv => whnf)
      | ((with_reducible apply XBr.mk') <;> (intro h; conv => whnf))
  apply Walk.drawX tab_ok mixed_ok [] [] (hsK _) [_, _, _, _, _, _, _, _, _, _] (by kernel_rfl) rfl
  · skip
    repeat' first
        | ((with_reducible apply XBr.tt); conv => whnf)
        | ((with_reducible apply XBr.ff); conv => whnf)
        | (with_reducible apply XBr.not)
        | ((with_reducible apply XBr.dec) <;> (intro h; first | (exfalso; omega) | ((try simp only [List.length_map] at h); first | (exfalso; omega) | (conv => whnf))))
        | ((with_reducible apply XBr.beq) <;> (intro h; first | (exfalso; omega) | (conv => whnf)))
        | ((with_reducible apply XBr.bne) <;> (intro h; first | (exfalso; omega) | (conv => whnf)))
        | ((with_reducible refine XInt.i64 (by omega) (by omega) ?_); conv => whnf)
        | ((with_reducible refine XHold.mk ?_ ?_); (first | omega | rfl | decide | exact ⟨rfl, by decide, rfl⟩ | exact wideI _ | exact widePr _ | exact wideSk _ | (unfold Room; constructor <;> ((try simp) <;> omega)) | exact ⟨rfl, by simp only [List.length_map], by unfold Room; constructor <;> ((try simp) <;> omega)⟩ | exact ⟨by omega, by omega, by unfold Room; constructor <;> ((try simp) <;> omega)⟩); conv => whnf)
        | ((with_reducible refine XIx.nat ?_ ?_ ?_); omega; (intro _; rfl); conv => whnf)
        | ((with_reducible refine XIx.map ?_ ?_ ?_ ?_); omega; omega; (intro _; rfl); conv => whnf)
        | (with_reducible apply XAnd.mk)
        | ((with_reducible apply Chk.go); conv => whnf)
        | ((with_reducible apply ChkA.go); conv => whnf)
        | ((with_reducible apply ChkF.go); conv => whnf)
        | ((with_reducible apply ChkB.go); conv => whnf)
        | (exact XSame.mk rfl rfl)
        | (exact XSame.mk (by first | rfl | (simp only [List.map_append, List.length_append, List.length_map]; done) | (simp only [List.map_append, List.length_append, List.length_map]; rfl)) (by first | rfl | (simp only [List.map_append]; done) | (simp only [List.map_append]; rfl)))
        | (with_reducible exact trivial)
        | ((with_reducible refine xdrop_app (by rw [List.length_map]; omega) ?_); conv => whnf)
        | ((with_reducible refine XArr.ints (by omega) (by omega) (by omega) ?_); conv => whnf)
        | ((with_reducible refine XArr.intsA (by omega) (by omega) (by omega) ?_); conv => whnf)
        | ((with_reducible refine XArr.nats ?_ ?_ ?_); omega; omega; conv => whnf)
        | ((with_reducible refine XArr.natsA ?_ ?_ ?_); omega; omega; conv => whnf)
        | ((with_reducible apply XArr.pim0); conv => whnf)
        | ((with_reducible apply XArr.pim1); conv => whnf)
        | ((with_reducible refine XArr.ptr ?_ ?_ ?_); omega; omega; conv => whnf)
        | ((with_reducible apply XBr.mk') <;> (intro h; conv => whnf))
  · skip
    repeat' first
        | ((with_reducible apply XBr.tt); conv => whnf)
        | ((with_reducible apply XBr.ff); conv => whnf)
        | (with_reducible apply XBr.not)
        | ((with_reducible apply XBr.dec) <;> (intro h; first | (exfalso; omega) | ((try simp only [List.length_map] at h); first | (exfalso; omega) | (conv => whnf))))
        | ((with_reducible apply XBr.beq) <;> (intro h; first | (exfalso; omega) | (conv => whnf)))
        | ((with_reducible apply XBr.bne) <;> (intro h; first | (exfalso; omega) | (conv => whnf)))
        | ((with_reducible refine XInt.i64 (by omega) (by omega) ?_); conv => whnf)
        | ((with_reducible refine XHold.mk ?_ ?_); (first | omega | rfl | decide | exact ⟨rfl, by decide, rfl⟩ | exact wideI _ | exact widePr _ | exact wideSk _ | (unfold Room; constructor <;> ((try simp) <;> omega)) | exact ⟨rfl, by simp only [List.length_map], by unfold Room; constructor <;> ((try simp) <;> omega)⟩ | exact ⟨by omega, by omega, by unfold Room; constructor <;> ((try simp) <;> omega)⟩); conv => whnf)
        | ((with_reducible refine XIx.nat ?_ ?_ ?_); omega; (intro _; rfl); conv => whnf)
        | ((with_reducible refine XIx.map ?_ ?_ ?_ ?_); omega; omega; (intro _; rfl); conv => whnf)
        | (with_reducible apply XAnd.mk)
        | ((with_reducible apply Chk.go); conv => whnf)
        | ((with_reducible apply ChkA.go); conv => whnf)
        | ((with_reducible apply ChkF.go); conv => whnf)
        | ((with_reducible apply ChkB.go); conv => whnf)
        | (exact XSame.mk rfl rfl)
        | (exact XSame.mk (by first | rfl | (simp only [List.map_append, List.length_append, List.length_map]; done) | (simp only [List.map_append, List.length_append, List.length_map]; rfl)) (by first | rfl | (simp only [List.map_append]; done) | (simp only [List.map_append]; rfl)))
        | (with_reducible exact trivial)
        | ((with_reducible refine xdrop_app (by rw [List.length_map]; omega) ?_); conv => whnf)
        | ((with_reducible refine XArr.ints (by omega) (by omega) (by omega) ?_); conv => whnf)
        | ((with_reducible refine XArr.intsA (by omega) (by omega) (by omega) ?_); conv => whnf)
        | ((with_reducible refine XArr.nats ?_ ?_ ?_); omega; omega; conv => whnf)
        | ((with_reducible refine XArr.natsA ?_ ?_ ?_); omega; omega; conv => whnf)
        | ((with_reducible apply XArr.pim0); conv => whnf)
        | ((with_reducible apply XArr.pim1); conv => whnf)
        | ((with_reducible refine XArr.ptr ?_ ?_ ?_); omega; omega; conv => whnf)
        | ((with_reducible apply XBr.mk') <;> (intro h; conv => whnf))
  · conv => whnf
    repeat' first
        | ((with_reducible apply XBr.tt); conv => whnf)
        | ((with_reducible apply XBr.ff); conv => whnf)
        | (with_reducible apply XBr.not)
        | ((with_reducible apply XBr.dec) <;> (intro h; first | (exfalso; omega) | ((try simp only [List.length_map] at h); first | (exfalso; omega) | (conv => whnf))))
        | ((with_reducible apply XBr.beq) <;> (intro h; first | (exfalso; omega) | (conv => whnf)))
        | ((with_reducible apply XBr.bne) <;> (intro h; first | (exfalso; omega) | (conv => whnf)))
        | ((with_reducible refine XInt.i64 (by omega) (by omega) ?_); conv => whnf)
        | ((with_reducible refine XHold.mk ?_ ?_); (first | omega | rfl | decide | exact ⟨rfl, by decide, rfl⟩ | exact wideI _ | exact widePr _ | exact wideSk _ | (unfold Room; constructor <;> ((try simp) <;> omega)) | exact ⟨rfl, by simp only [List.length_map], by unfold Room; constructor <;> ((try simp) <;> omega)⟩ | exact ⟨by omega, by omega, by unfold Room; constructor <;> ((try simp) <;> omega)⟩); conv => whnf)
        | ((with_reducible refine XIx.nat ?_ ?_ ?_); omega; (intro _; rfl); conv => whnf)
        | ((with_reducible refine XIx.map ?_ ?_ ?_ ?_); omega; omega; (intro _; rfl); conv => whnf)
        | (with_reducible apply XAnd.mk)
        | ((with_reducible apply Chk.go); conv => whnf)
        | ((with_reducible apply ChkA.go); conv => whnf)
        | ((with_reducible apply ChkF.go); conv => whnf)
        | ((with_reducible apply ChkB.go); conv => whnf)
        | (exact XSame.mk rfl rfl)
        | (exact XSame.mk (by first | rfl | (simp only [List.map_append, List.length_append, List.length_map]; done) | (simp only [List.map_append, List.length_append, List.length_map]; rfl)) (by first | rfl | (simp only [List.map_append]; done) | (simp only [List.map_append]; rfl)))
        | (with_reducible exact trivial)
        | ((with_reducible refine xdrop_app (by rw [List.length_map]; omega) ?_); conv => whnf)
        | ((with_reducible refine XArr.ints (by omega) (by omega) (by omega) ?_); conv => whnf)
        | ((with_reducible refine XArr.intsA (by omega) (by omega) (by omega) ?_); conv => whnf)
        | ((with_reducible refine XArr.nats ?_ ?_ ?_); omega; omega; conv => whnf)
        | ((with_reducible refine XArr.natsA ?_ ?_ ?_); omega; omega; conv => whnf)
        | ((with_reducible apply XArr.pim0); conv => whnf)
        | ((with_reducible apply XArr.pim1); conv => whnf)
        | ((with_reducible refine XArr.ptr ?_ ?_ ?_); omega; omega; conv => whnf)
        | ((with_reducible apply XBr.mk') <;> (intro h; conv => whnf))
    · apply Walk.drawX tab_ok mixed_ok [] [] (hsK _) [_, _, _, _, _, _, _, _, _, _, _, _, _, _, _] (by kernel_rfl) rfl
      · skip
        repeat' first
            | ((with_reducible apply XBr.tt); conv => whnf)
            | ((with_reducible apply XBr.ff); conv => whnf)
            | (with_reducible apply XBr.not)
            | ((with_reducible apply XBr.dec) <;> (intro h; first | (exfalso; omega) | ((try simp only [List.length_map] at h); first | (exfalso; omega) | (conv => whnf))))
            | ((with_reducible apply XBr.beq) <;> (intro h; first | (exfalso; omega) | (conv => whnf)))
            | ((with_reducible apply XBr.bne) <;> (intro h; first | (exfalso; omega) | (conv => whnf)))
            | ((with_reducible refine XInt.i64 (by omega) (by omega) ?_); conv => whnf)
            | ((with_reducible refine XHold.mk ?_ ?_); (first | omega | rfl | decide | exact ⟨rfl, by decide, rfl⟩ | exact wideI _ | exact widePr _ | exact wideSk _ | (unfold Room; constructor <;> ((try simp) <;> omega)) | exact ⟨rfl, by simp only [List.length_map], by unfold Room; constructor <;> ((try simp) <;> omega)⟩ | exact ⟨by omega, by omega, by unfold Room; constructor <;> ((try simp) <;> omega)⟩); conv => whnf)
            | ((with_reducible refine XIx.nat ?_ ?_ ?_); omega; (intro _; rfl); conv => whnf)
            | ((with_reducible refine XIx.map ?_ ?_ ?_ ?_); omega; omega; (intro _; rfl); conv => whnf)
            | (with_reducible apply XAnd.mk)
            | ((with_reducible apply Chk.go); conv => whnf)
            | ((with_reducible apply ChkA.go); conv => whnf)
            | ((with_reducible apply ChkF.go); conv => whnf)
            | ((with_reducible apply ChkB.go); conv => whnf)
            | (exact XSame.mk rfl rfl)
            | (exact XSame.mk (by first | rfl | (simp only [List.map_append, List.length_append, List.length_map]; done) | (simp only [List.map_append, List.length_append, List.length_map]; rfl)) (by first | rfl | (simp only [List.map_append]; done) | (simp only [List.map_append]; rfl)))
            | (with_reducible exact trivial)
            | ((with_reducible refine xdrop_app (by rw [List.length_map]; omega) ?_); conv => whnf)
            | ((with_reducible refine XArr.ints (by omega) (by omega) (by omega) ?_); conv => whnf)
            | ((with_reducible refine XArr.intsA (by omega) (by omega) (by omega) ?_); conv => whnf)
            | ((with_reducible refine XArr.nats ?_ ?_ ?_); omega; omega; conv => whnf)
            | ((with_reducible refine XArr.natsA ?_ ?_ ?_); omega; omega; conv => whnf)
            | ((with_reducible apply XArr.pim0); conv => whnf)
            | ((with_reducible apply XArr.pim1); conv => whnf)
            | ((with_reducible refine XArr.ptr ?_ ?_ ?_); omega; omega; conv => whnf)
            | ((refine XInt.w ?_); conv => whnf)
            | ((with_reducible apply XBr.mk') <;> (intro h; conv => whnf))
      · skip
        repeat' first
            | ((with_reducible apply XBr.tt); conv => whnf)
            | ((with_reducible apply XBr.ff); conv => whnf)
            | (with_reducible apply XBr.not)
            | ((with_reducible apply XBr.dec) <;> (intro h; first | (exfalso; omega) | ((try simp only [List.length_map] at h); first | (exfalso; omega) | (conv => whnf))))
            | ((with_reducible apply XBr.beq) <;> (intro h; first | (exfalso; omega) | (conv => whnf)))
            | ((with_reducible apply XBr.bne) <;> (intro h; first | (exfalso; omega) | (conv => whnf)))
            | ((with_reducible refine XInt.i64 (by omega) (by omega) ?_); conv => whnf)
            | ((with_reducible refine XHold.mk ?_ ?_); (first | omega | rfl | decide | exact ⟨rfl, by decide, rfl⟩ | exact wideI _ | exact widePr _ | exact wideSk _ | (unfold Room; constructor <;> ((try simp) <;> omega)) | exact ⟨rfl, by simp only [List.length_map], by unfold Room; constructor <;> ((try simp) <;> omega)⟩ | exact ⟨by omega, by omega, by unfold Room; constructor <;> ((try simp) <;> omega)⟩); conv => whnf)
            | ((with_reducible refine XIx.nat ?_ ?_ ?_); omega; (intro _; rfl); conv => whnf)
            | ((with_reducible refine XIx.map ?_ ?_ ?_ ?_); omega; omega; (intro _; rfl); conv => whnf)
            | (with_reducible apply XAnd.mk)
            | ((with_reducible apply Chk.go); conv => whnf)
            | ((with_reducible apply ChkA.go); conv => whnf)
            | ((with_reducible apply ChkF.go); conv => whnf)
            | ((with_reducible apply ChkB.go); conv => whnf)
            | (exact XSame.mk rfl rfl)
            | (exact XSame.mk (by first | rfl | (simp only [List.map_append, List.length_append, List.length_map]; done) | (simp only [List.map_append, List.length_append, List.length_map]; rfl)) (by first | rfl | (simp only [List.map_append]; done) | (simp only [List.map_append]; rfl)))
            | (with_reducible exact trivial)
            | ((with_reducible refine xdrop_app (by rw [List.length_map]; omega) ?_); conv => whnf)
            | ((with_reducible refine XArr.ints (by omega) (by omega) (by omega) ?_); conv => whnf)
            | ((with_reducible refine XArr.intsA (by omega) (by omega) (by omega) ?_); conv => whnf)
            | ((with_reducible refine XArr.nats ?_ ?_ ?_); omega; omega; conv => whnf)
            | ((with_reducible refine XArr.natsA ?_ ?_ ?_); omega; omega; conv => whnf)
            | ((with_reducible apply XArr.pim0); conv => whnf)
            | ((with_reducible apply XArr.pim1); conv => whnf)
            | ((with_reducible refine XArr.ptr ?_ ?_ ?_); omega; omega; conv => whnf)
            | ((refine XInt.w ?_); conv => whnf)
            | ((with_reducible apply XBr.mk') <;> (intro h; conv => whnf))
      · conv => whnf
        repeat' first
            | ((with_reducible apply XBr.tt); conv => whnf)
            | ((with_reducible apply XBr.ff); conv => whnf)
            | (with_reducible apply XBr.not)
            | ((with_reducible apply XBr.dec) <;> (intro h; first | (exfalso; omega) | ((try simp only [List.length_map] at h); first | (exfalso; omega) | (conv => whnf))))
            | ((with_reducible apply XBr.beq) <;> (intro h; first | (exfalso; omega) | (conv => whnf)))
            | ((with_reducible apply XBr.bne) <;> (intro h; first | (exfalso; omega) | (conv => whnf)))
            | ((with_reducible refine XInt.i64 (by omega) (by omega) ?_); conv => whnf)
            | ((with_reducible refine XHold.mk ?_ ?_); (first | omega | rfl | decide | exact ⟨rfl, by decide, rfl⟩ | exact wideI _ | exact widePr _ | exact wideSk _ | (unfold Room; constructor <;> ((try simp) <;> omega)) | exact ⟨rfl, by simp only [List.length_map], by unfold Room; constructor <;> ((try simp) <;> omega)⟩ | exact ⟨by omega, by omega, by unfold Room; constructor <;> ((try simp) <;> omega)⟩); conv => whnf)
            | ((with_reducible refine XIx.nat ?_ ?_ ?_); omega; (intro _; rfl); conv => whnf)
            | ((with_reducible refine XIx.map ?_ ?_ ?_ ?_); omega; omega; (intro _; rfl); conv => whnf)
            | (with_reducible apply XAnd.mk)
            | ((with_reducible apply Chk.go); conv => whnf)
            | ((with_reducible apply ChkA.go); conv => whnf)
            | ((with_reducible apply ChkF.go); conv => whnf)
            | ((with_reducible apply ChkB.go); conv => whnf)
            | (exact XSame.mk rfl rfl)
            | (exact XSame.mk (by first | rfl | (simp only [List.map_append, List.length_append, List.length_map]; done) | (simp only [List.map_append, List.length_append, List.length_map]; rfl)) (by first | rfl | (simp only [List.map_append]; done) | (simp only [List.map_append]; rfl)))
            | (with_reducible exact trivial)
            | ((with_reducible refine xdrop_app (by rw [List.length_map]; omega) ?_); conv => whnf)
            | ((with_reducible refine XArr.ints (by omega) (by omega) (by omega) ?_); conv => whnf)
            | ((with_reducible refine XArr.intsA (by omega) (by omega) (by omega) ?_); conv => whnf)
            | ((with_reducible refine XArr.nats ?_ ?_ ?_); omega; omega; conv => whnf)
            | ((with_reducible refine XArr.natsA ?_ ?_ ?_); omega; omega; conv => whnf)
            | ((with_reducible apply XArr.pim0); conv => whnf)
            | ((with_reducible apply XArr.pim1); conv => whnf)
            | ((with_reducible refine XArr.ptr ?_ ?_ ?_); omega; omega; conv => whnf)
            | ((with_reducible apply XBr.mk') <;> (intro h; conv => whnf))
        apply Walk.drawX tab_ok mixed_ok [] [] (hsK _) [_, _, _, _, _, _, _, _, _, _] (by kernel_rfl) rfl
        · skip
          repeat' first
              | ((with_reducible apply XBr.tt); conv => whnf)
              | ((with_reducible apply XBr.ff); conv => whnf)
              | (with_reducible apply XBr.not)
              | ((with_reducible apply XBr.dec) <;> (intro h; first | (exfalso; omega) | ((try simp only [List.length_map] at h); first | (exfalso; omega) | (conv => whnf))))
              | ((with_reducible apply XBr.beq) <;> (intro h; first | (exfalso; omega) | (conv => whnf)))
              | ((with_reducible apply XBr.bne) <;> (intro h; first | (exfalso; omega) | (conv => whnf)))
              | ((with_reducible refine XInt.i64 (by omega) (by omega) ?_); conv => whnf)
              | ((with_reducible refine XHold.mk ?_ ?_); (first | omega | rfl | decide | exact ⟨rfl, by decide, rfl⟩ | exact wideI _ | exact widePr _ | exact wideSk _ | (unfold Room; constructor <;> ((try simp) <;> omega)) | exact ⟨rfl, by simp only [List.length_map], by unfold Room; constructor <;> ((try simp) <;> omega)⟩ | exact ⟨by omega, by omega, by unfold Room; constructor <;> ((try simp) <;> omega)⟩); conv => whnf)
              | ((with_reducible refine XIx.nat ?_ ?_ ?_); omega; (intro _; rfl); conv => whnf)
              | ((with_reducible refine XIx.map ?_ ?_ ?_ ?_); omega; omega; (intro _; rfl); conv => whnf)
              | (with_reducible apply XAnd.mk)
              | ((with_reducible apply Chk.go); conv => whnf)
              | ((with_reducible apply ChkA.go); conv => whnf)
              | ((with_reducible apply ChkF.go); conv => whnf)
              | ((with_reducible apply ChkB.go); conv => whnf)
              | (exact XSame.mk rfl rfl)
              | (exact XSame.mk (by first | rfl | (simp only [List.map_append, List.length_append, List.length_map]; done) | (simp only [List.map_append, List.length_append, List.length_map]; rfl)) (by first | rfl | (simp only [List.map_append]; done) | (simp only [List.map_append]; rfl)))
              | (with_reducible exact trivial)
              | ((with_reducible refine xdrop_app (by rw [List.length_map]; omega) ?_); conv => whnf)
              | ((with_reducible refine XArr.ints (by omega) (by omega) (by omega) ?_); conv => whnf)
              | ((with_reducible refine XArr.intsA (by omega) (by omega) (by omega) ?_); conv => whnf)
              | ((with_reducible refine XArr.nats ?_ ?_ ?_); omega; omega; conv => whnf)
              | ((with_reducible refine XArr.natsA ?_ ?_ ?_); omega; omega; conv => whnf)
              | ((with_reducible apply XArr.pim0); conv => whnf)
              | ((with_reducible apply XArr.pim1); conv => whnf)
              | ((with_reducible refine XArr.ptr ?_ ?_ ?_); omega; omega; conv => whnf)
              | ((with_reducible apply XBr.mk') <;> (intro h; conv => whnf))
        · skip
          repeat' first
              | ((with_reducible apply XBr.tt); conv => whnf)
              | ((with_reducible apply XBr.ff); conv => whnf)
              | (with_reducible apply XBr.not)
              | ((with_reducible apply XBr.dec) <;> (intro h; first | (exfalso; omega) | ((try simp only [List.length_map] at h); first | (exfalso; omega) | (conv => whnf))))
              | ((with_reducible apply XBr.beq) <;> (intro h; first | (exfalso; omega) | (conv => whnf)))
              | ((with_reducible apply XBr.bne) <;> (intro h; first | (exfalso; omega) | (conv => whnf)))
              | ((with_reducible refine XInt.i64 (by omega) (by omega) ?_); conv => whnf)
              | ((with_reducible refine XHold.mk ?_ ?_); (first | omega | rfl | decide | exact ⟨rfl, by decide, rfl⟩ | exact wideI _ | exact widePr _ | exact wideSk _ | (unfold Room; constructor <;> ((try simp) <;> omega)) | exact ⟨rfl, by simp only [List.length_map], by unfold Room; constructor <;> ((try simp) <;> omega)⟩ | exact ⟨by omega, by omega, by unfold Room; constructor <;> ((try simp) <;> omega)⟩); conv => whnf)
              | ((with_reducible refine XIx.nat ?_ ?_ ?_); omega; (intro _; rfl); conv => whnf)
              | ((with_reducible refine XIx.map ?_ ?_ ?_ ?_); omega; omega; (intro _; rfl); conv => whnf)
              | (with_reducible apply XAnd.mk)
              | ((with_reducible apply Chk.go); conv => whnf)
              | ((with_reducible apply ChkA.go); conv => whnf)
              | ((with_reducible apply ChkF.go); conv => whnf)
              | ((with_reducible apply ChkB.go); conv => whnf)
              | (exact XSame.mk rfl rfl)
              | (exact XSame.mk (by first | rfl | (simp only [List.map_append, List.length_append, List.length_map]; done) | (simp only [List.map_append, List.length_append, List.length_map]; rfl)) (by first | rfl | (simp only [List.map_append]; done) | (simp only [List.map_append]; rfl)))
              | (with_reducible exact trivial)
              | ((with_reducible refine xdrop_app (by rw [List.length_map]; omega) ?_); conv => whnf)
              | ((with_reducible refine XArr.ints (by omega) (by omega) (by omega) ?_); conv => whnf)
              | ((with_reducible refine XArr.intsA (by omega) (by omega) (by omega) ?_); conv => whnf)
              | ((with_reducible refine XArr.nats ?_ ?_ ?_); omega; omega; conv => whnf)
              | ((with_reducible refine XArr.natsA ?_ ?_ ?_); omega; omega; conv => whnf)
              | ((with_reducible apply XArr.pim0); conv => whnf)
              | ((with_reducible apply XArr.pim1); conv => whnf)
              | ((with_reducible refine XArr.ptr ?_ ?_ ?_); omega; omega; conv => whnf)
              | ((with_reducible apply XBr.mk') <;> (intro h; conv => whnf))
        · conv => whnf
          repeat' first
              | ((with_reducible apply XBr.tt); conv => whnf)
              | ((with_reducible apply XBr.ff); conv => whnf)
              | (with_reducible apply XBr.not)
              | ((with_reducible apply XBr.dec) <;> (intro h; first | (exfalso; omega) | ((try simp only [List.length_map] at h); first | (exfalso; omega) | (conv => whnf))))
              | ((with_reducible apply XBr.beq) <;> (intro h; first | (exfalso; omega) | (conv => whnf)))
              | ((with_reducible apply XBr.bne) <;> (intro h; first | (exfalso; omega) | (conv => whnf)))
              | ((with_reducible refine XInt.i64 (by omega) (by omega) ?_); conv => whnf)
              | ((with_reducible refine XHold.mk ?_ ?_); (first | omega | rfl | decide | exact ⟨rfl, by decide, rfl⟩ | exact wideI _ | exact widePr _ | exact wideSk _ | (unfold Room; constructor <;> ((try simp) <;> omega)) | exact ⟨rfl, by simp only [List.length_map], by unfold Room; constructor <;> ((try simp) <;> omega)⟩ | exact ⟨by omega, by omega, by unfold Room; constructor <;> ((try simp) <;> omega)⟩); conv => whnf)
              | ((with_reducible refine XIx.nat ?_ ?_ ?_); omega; (intro _; rfl); conv => whnf)
              | ((with_reducible refine XIx.map ?_ ?_ ?_ ?_); omega; omega; (intro _; rfl); conv => whnf)
              | (with_reducible apply XAnd.mk)
              | ((with_reducible apply Chk.go); conv => whnf)
              | ((with_reducible apply ChkA.go); conv => whnf)
              | ((with_reducible apply ChkF.go); conv => whnf)
              | ((with_reducible apply ChkB.go); conv => whnf)
              | (exact XSame.mk rfl rfl)
              | (exact XSame.mk (by first | rfl | (simp only [List.map_append, List.length_append, List.length_map]; done) | (simp only [List.map_append, List.length_append, List.length_map]; rfl)) (by first | rfl | (simp only [List.map_append]; done) | (simp only [List.map_append]; rfl)))
              | (with_reducible exact trivial)
              | ((with_reducible refine xdrop_app (by rw [List.length_map]; omega) ?_); conv => whnf)
              | ((with_reducible refine XArr.ints (by omega) (by omega) (by omega) ?_); conv => whnf)
              | ((with_reducible refine XArr.intsA (by omega) (by omega) (by omega) ?_); conv => whnf)
              | ((with_reducible refine XArr.nats ?_ ?_ ?_); omega; omega; conv => whnf)
              | ((with_reducible refine XArr.natsA ?_ ?_ ?_); omega; omega; conv => whnf)
              | ((with_reducible apply XArr.pim0); conv => whnf)
              | ((with_reducible apply XArr.pim1); conv => whnf)
              | ((with_reducible refine XArr.ptr ?_ ?_ ?_); omega; omega; conv => whnf)
              | ((refine XInt.w ?_); conv => whnf)
              | ((with_reducible apply XBr.mk') <;> (intro h; conv => whnf))
          · exact pick_end (hpM_lt (by assumption)) (hpS_end h)
          · exact pick_end (hpM_lt (by assumption)) (hpS_on h)
    · skip
      apply Walk.drawX tab_ok mixed_ok [] [] (hsK _) [_, _, _, _, _, _, _, _, _, _] (by kernel_rfl) rfl
      · skip
        repeat' first
            | ((with_reducible apply XBr.tt); conv => whnf)
            | ((with_reducible apply XBr.ff); conv => whnf)
            | (with_reducible apply XBr.not)
            | ((with_reducible apply XBr.dec) <;> (intro h; first | (exfalso; omega) | ((try simp only [List.length_map] at h); first | (exfalso; omega) | (conv => whnf))))
            | ((with_reducible apply XBr.beq) <;> (intro h; first | (exfalso; omega) | (conv => whnf)))
            | ((with_reducible apply XBr.bne) <;> (intro h; first | (exfalso; omega) | (conv => whnf)))
            | ((with_reducible refine XInt.i64 (by omega) (by omega) ?_); conv => whnf)
            | ((with_reducible refine XHold.mk ?_ ?_); (first | omega | rfl | decide | exact ⟨rfl, by decide, rfl⟩ | exact wideI _ | exact widePr _ | exact wideSk _ | (unfold Room; constructor <;> ((try simp) <;> omega)) | exact ⟨rfl, by simp only [List.length_map], by unfold Room; constructor <;> ((try simp) <;> omega)⟩ | exact ⟨by omega, by omega, by unfold Room; constructor <;> ((try simp) <;> omega)⟩); conv => whnf)
            | ((with_reducible refine XIx.nat ?_ ?_ ?_); omega; (intro _; rfl); conv => whnf)
            | ((with_reducible refine XIx.map ?_ ?_ ?_ ?_); omega; omega; (intro _; rfl); conv => whnf)
            | (with_reducible apply XAnd.mk)
            | ((with_reducible apply Chk.go); conv => whnf)
            | ((with_reducible apply ChkA.go); conv => whnf)
            | ((with_reducible apply ChkF.go); conv => whnf)
            | ((with_reducible apply ChkB.go); conv => whnf)
            | (exact XSame.mk rfl rfl)
            | (exact XSame.mk (by first | rfl | (simp only [List.map_append, List.length_append, List.length_map]; done) | (simp only [List.map_append, List.length_append, List.length_map]; rfl)) (by first | rfl | (simp only [List.map_append]; done) | (simp only [List.map_append]; rfl)))
            | (with_reducible exact trivial)
            | ((with_reducible refine xdrop_app (by rw [List.length_map]; omega) ?_); conv => whnf)
            | ((with_reducible refine XArr.ints (by omega) (by omega) (by omega) ?_); conv => whnf)
            | ((with_reducible refine XArr.intsA (by omega) (by omega) (by omega) ?_); conv => whnf)
            | ((with_reducible refine XArr.nats ?_ ?_ ?_); omega; omega; conv => whnf)
            | ((with_reducible refine XArr.natsA ?_ ?_ ?_); omega; omega; conv => whnf)
            | ((with_reducible apply XArr.pim0); conv => whnf)
            | ((with_reducible apply XArr.pim1); conv => whnf)
            | ((with_reducible refine XArr.ptr ?_ ?_ ?_); omega; omega; conv => whnf)
            | ((with_reducible apply XBr.mk') <;> (intro h; conv => whnf))
      · skip
        repeat' first
            | ((with_reducible apply XBr.tt); conv => whnf)
            | ((with_reducible apply XBr.ff); conv => whnf)
            | (with_reducible apply XBr.not)
            | ((with_reducible apply XBr.dec) <;> (intro h; first | (exfalso; omega) | ((try simp only [List.length_map] at h); first | (exfalso; omega) | (conv => whnf))))
            | ((with_reducible apply XBr.beq) <;> (intro h; first | (exfalso; omega) | (conv => whnf)))
            | ((with_reducible apply XBr.bne) <;> (intro h; first | (exfalso; omega) | (conv => whnf)))
            | ((with_reducible refine XInt.i64 (by omega) (by omega) ?_); conv => whnf)
            | ((with_reducible refine XHold.mk ?_ ?_); (first | omega | rfl | decide | exact ⟨rfl, by decide, rfl⟩ | exact wideI _ | exact widePr _ | exact wideSk _ | (unfold Room; constructor <;> ((try simp) <;> omega)) | exact ⟨rfl, by simp only [List.length_map], by unfold Room; constructor <;> ((try simp) <;> omega)⟩ | exact ⟨by omega, by omega, by unfold Room; constructor <;> ((try simp) <;> omega)⟩); conv => whnf)
            | ((with_reducible refine XIx.nat ?_ ?_ ?_); omega; (intro _; rfl); conv => whnf)
            | ((with_reducible refine XIx.map ?_ ?_ ?_ ?_); omega; omega; (intro _; rfl); conv => whnf)
            | (with_reducible apply XAnd.mk)
            | ((with_reducible apply Chk.go); conv => whnf)
            | ((with_reducible apply ChkA.go); conv => whnf)
            | ((with_reducible apply ChkF.go); conv => whnf)
            | ((with_reducible apply ChkB.go); conv => whnf)
            | (exact XSame.mk rfl rfl)
            | (exact XSame.mk (by first | rfl | (simp only [List.map_append, List.length_append, List.length_map]; done) | (simp only [List.map_append, List.length_append, List.length_map]; rfl)) (by first | rfl | (simp only [List.map_append]; done) | (simp only [List.map_append]; rfl)))
            | (with_reducible exact trivial)
            | ((with_reducible refine xdrop_app (by rw [List.length_map]; omega) ?_); conv => whnf)
            | ((with_reducible refine XArr.ints (by omega) (by omega) (by omega) ?_); conv => whnf)
            | ((with_reducible refine XArr.intsA (by omega) (by omega) (by omega) ?_); conv => whnf)
            | ((with_reducible refine XArr.nats ?_ ?_ ?_); omega; omega; conv => whnf)
            | ((with_reducible refine XArr.natsA ?_ ?_ ?_); omega; omega; conv => whnf)
            | ((with_reducible apply XArr.pim0); conv => whnf)
            | ((with_reducible apply XArr.pim1); conv => whnf)
            | ((with_reducible refine XArr.ptr ?_ ?_ ?_); omega; omega; conv => whnf)
            | ((with_reducible apply XBr.mk') <;> (intro h; conv => whnf))
      · conv => whnf
        repeat' first
            | ((with_reducible apply XBr.tt); conv => whnf)
            | ((with_reducible apply XBr.ff); conv => whnf)
            | (with_reducible apply XBr.not)
            | ((with_reducible apply XBr.dec) <;> (intro h; first | (exfalso; omega) | ((try simp only [List.length_map] at h); first | (exfalso; omega) | (conv => whnf))))
            | ((with_reducible apply XBr.beq) <;> (intro h; first | (exfalso; omega) | (conv => whnf)))
            | ((with_reducible apply XBr.bne) <;> (intro h; first | (exfalso; omega) | (conv => whnf)))
            | ((with_reducible refine XInt.i64 (by omega) (by omega) ?_); conv => whnf)
            | ((with_reducible refine XHold.mk ?_ ?_); (first | omega | rfl | decide | exact ⟨rfl, by decide, rfl⟩ | exact wideI _ | exact widePr _ | exact wideSk _ | (unfold Room; constructor <;> ((try simp) <;> omega)) | exact ⟨rfl, by simp only [List.length_map], by unfold Room; constructor <;> ((try simp) <;> omega)⟩ | exact ⟨by omega, by omega, by unfold Room; constructor <;> ((try simp) <;> omega)⟩); conv => whnf)
            | ((with_reducible refine XIx.nat ?_ ?_ ?_); omega; (intro _; rfl); conv => whnf)
            | ((with_reducible refine XIx.map ?_ ?_ ?_ ?_); omega; omega; (intro _; rfl); conv => whnf)
            | (with_reducible apply XAnd.mk)
            | ((with_reducible apply Chk.go); conv => whnf)
            | ((with_reducible apply ChkA.go); conv => whnf)
            | ((with_reducible apply ChkF.go); conv => whnf)
            | ((with_reducible apply ChkB.go); conv => whnf)
            | (exact XSame.mk rfl rfl)
            | (exact XSame.mk (by first | rfl | (simp only [List.map_append, List.length_append, List.length_map]; done) | (simp only [List.map_append, List.length_append, List.length_map]; rfl)) (by first | rfl | (simp only [List.map_append]; done) | (simp only [List.map_append]; rfl)))
            | (with_reducible exact trivial)
            | ((with_reducible refine xdrop_app (by rw [List.length_map]; omega) ?_); conv => whnf)
            | ((with_reducible refine XArr.ints (by omega) (by omega) (by omega) ?_); conv => whnf)
            | ((with_reducible refine XArr.intsA (by omega) (by omega) (by omega) ?_); conv => whnf)
            | ((with_reducible refine XArr.nats ?_ ?_ ?_); omega; omega; conv => whnf)
            | ((with_reducible refine XArr.natsA ?_ ?_ ?_); omega; omega; conv => whnf)
            | ((with_reducible apply XArr.pim0); conv => whnf)
            | ((with_reducible apply XArr.pim1); conv => whnf)
            | ((with_reducible refine XArr.ptr ?_ ?_ ?_); omega; omega; conv => whnf)
            | ((refine XInt.w ?_); conv => whnf)
            | ((with_reducible apply XBr.mk') <;> (intro h; conv => whnf))
        · exact pick_end (hpM_ge (by assumption)) (hpS_end h)

def modV (h : Hp) (n : Int) : Int := (hpV h).tmod (max 1 (n + 1))
theorem modV_bound (h : Hp) (n : Int) : 0 ≤ modV h n ∧ modV h n ≤ max 0 n := by
  have hb := hpV_bound (hpM h)
  have h1 : 0 ≤ hpV h := hb.1
  unfold modV
  rw [Int.tmod_eq_emod_of_nonneg h1]
  have h2 := Int.emod_nonneg (hpV h) (show max 1 (n + 1) ≠ 0 by omega)
  have h3 := Int.emod_lt_of_pos (hpV h) (show 0 < max 1 (n + 1) by omega)
  omega
theorem hp_end {u u' : Hp} {r : AV} (hr : r.low 1 = true) : XCut [hpC u].length [] [hpC u'] r fun r' H' => r' = r ∧ H' = [hpC u'] :=
  XCut.mk' [hpC u'] [] rfl rfl (fun x hx => by simp only [List.mem_cons, List.not_mem_nil, or_false] at hx; subst hx; exact hpC_low _) hr ⟨rfl, rfl⟩
theorem upto_c (u : Hp) (n : Int) (o : u.Ok) (h1 : -100000 ≤ n) (h2 : n ≤ 100000) : HpOk 23 [.int .i64 n] u (.int .i64 (modV u n)) (hpS u) := by
  refine ⟨rfl, ?_⟩
  refine ACall.bodyK (T := tab) (res := [.tmp 4]) tab_ok [] Try.func23 rfl (by kernel_rfl) Try.ntmps23 rfl (by simp only [List.length_cons, List.length_nil]; decide) ?_; conv => whnf
  refine XCall.hp (j := 0) (pick_c u o) rfl rfl ?_
  conv => whnf
  repeat' first
      | ((with_reducible apply XBr.tt); conv => whnf)
      | ((with_reducible apply XBr.ff); conv => whnf)
      | (with_reducible apply XBr.not)
      | ((with_reducible apply XBr.dec) <;> (intro h; first | (exfalso; omega) | ((try simp only [List.length_map] at h); first | (exfalso; omega) | (conv => whnf))))
      | ((with_reducible apply XBr.beq) <;> (intro h; first | (exfalso; omega) | (conv => whnf)))
      | ((with_reducible apply XBr.bne) <;> (intro h; first | (exfalso; omega) | (conv => whnf)))
      | ((with_reducible refine XInt.i64 (by omega) (by omega) ?_); conv => whnf)
      | ((with_reducible refine XHold.mk ?_ ?_); (first | omega | rfl | decide | exact ⟨rfl, by decide, rfl⟩ | exact wideI _ | exact widePr _ | exact wideSk _ | (unfold Room; constructor <;> ((try simp) <;> omega)) | exact ⟨rfl, by simp only [List.length_map], by unfold Room; constructor <;> ((try simp) <;> omega)⟩ | exact ⟨by omega, by omega, by unfold Room; constructor <;> ((try simp) <;> omega)⟩); conv => whnf)
      | ((with_reducible refine XIx.nat ?_ ?_ ?_); omega; (intro _; rfl); conv => whnf)
      | ((with_reducible refine XIx.map ?_ ?_ ?_ ?_); omega; omega; (intro _; rfl); conv => whnf)
      | (with_reducible apply XAnd.mk)
      | ((with_reducible apply Chk.go); conv => whnf)
      | ((with_reducible apply ChkA.go); conv => whnf)
      | ((with_reducible apply ChkF.go); conv => whnf)
      | ((with_reducible apply ChkB.go); conv => whnf)
      | (exact XSame.mk rfl rfl)
      | (exact XSame.mk (by first | rfl | (simp only [List.map_append, List.length_append, List.length_map]; done) | (simp only [List.map_append, List.length_append, List.length_map]; rfl)) (by first | rfl | (simp only [List.map_append]; done) | (simp only [List.map_append]; rfl)))
      | (with_reducible exact trivial)
      | ((with_reducible refine xdrop_app (by rw [List.length_map]; omega) ?_); conv => whnf)
      | ((with_reducible refine XArr.ints (by omega) (by omega) (by omega) ?_); conv => whnf)
      | ((with_reducible refine XArr.intsA (by omega) (by omega) (by omega) ?_); conv => whnf)
      | ((with_reducible refine XArr.nats ?_ ?_ ?_); omega; omega; conv => whnf)
      | ((with_reducible refine XArr.natsA ?_ ?_ ?_); omega; omega; conv => whnf)
      | ((with_reducible apply XArr.pim0); conv => whnf)
      | ((with_reducible apply XArr.pim1); conv => whnf)
      | ((with_reducible refine XArr.ptr ?_ ?_ ?_); omega; omega; conv => whnf)
      | ((with_reducible apply XBr.mk') <;> (intro h; conv => whnf))
  exact hp_end rfl
theorem from_c (u : Hp) (lo hi : Int) (o : u.Ok) (h1 : -10000 ≤ lo) (h2 : lo ≤ 10000) (h3 : -10000 ≤ hi) (h4 : hi ≤ 10000) : HpOk 22 [.int .i64 lo, .int .i64 hi] u (.int .i64 (lo + modV u (hi - lo))) (hpS u) := by
  have hb := modV_bound u (hi - lo)
  refine ⟨rfl, ?_⟩
  refine ACall.bodyK (T := tab) (res := [.tmp 6]) tab_ok [] Try.func22 rfl (by kernel_rfl) Try.ntmps22 rfl (by simp only [List.length_cons, List.length_nil]; decide) ?_; conv => whnf
  repeat' first
      | ((with_reducible apply XBr.tt); conv => whnf)
      | ((with_reducible apply XBr.ff); conv => whnf)
      | (with_reducible apply XBr.not)
      | ((with_reducible apply XBr.dec) <;> (intro h; first | (exfalso; omega) | ((try simp only [List.length_map] at h); first | (exfalso; omega) | (conv => whnf))))
      | ((with_reducible apply XBr.beq) <;> (intro h; first | (exfalso; omega) | (conv => whnf)))
      | ((with_reducible apply XBr.bne) <;> (intro h; first | (exfalso; omega) | (conv => whnf)))
      | ((with_reducible refine XInt.i64 (by omega) (by omega) ?_); conv => whnf)
      | ((with_reducible refine XHold.mk ?_ ?_); (first | omega | rfl | decide | exact ⟨rfl, by decide, rfl⟩ | exact wideI _ | exact widePr _ | exact wideSk _ | (unfold Room; constructor <;> ((try simp) <;> omega)) | exact ⟨rfl, by simp only [List.length_map], by unfold Room; constructor <;> ((try simp) <;> omega)⟩ | exact ⟨by omega, by omega, by unfold Room; constructor <;> ((try simp) <;> omega)⟩); conv => whnf)
      | ((with_reducible refine XIx.nat ?_ ?_ ?_); omega; (intro _; rfl); conv => whnf)
      | ((with_reducible refine XIx.map ?_ ?_ ?_ ?_); omega; omega; (intro _; rfl); conv => whnf)
      | (with_reducible apply XAnd.mk)
      | ((with_reducible apply Chk.go); conv => whnf)
      | ((with_reducible apply ChkA.go); conv => whnf)
      | ((with_reducible apply ChkF.go); conv => whnf)
      | ((with_reducible apply ChkB.go); conv => whnf)
      | (exact XSame.mk rfl rfl)
      | (exact XSame.mk (by first | rfl | (simp only [List.map_append, List.length_append, List.length_map]; done) | (simp only [List.map_append, List.length_append, List.length_map]; rfl)) (by first | rfl | (simp only [List.map_append]; done) | (simp only [List.map_append]; rfl)))
      | (with_reducible exact trivial)
      | ((with_reducible refine xdrop_app (by rw [List.length_map]; omega) ?_); conv => whnf)
      | ((with_reducible refine XArr.ints (by omega) (by omega) (by omega) ?_); conv => whnf)
      | ((with_reducible refine XArr.intsA (by omega) (by omega) (by omega) ?_); conv => whnf)
      | ((with_reducible refine XArr.nats ?_ ?_ ?_); omega; omega; conv => whnf)
      | ((with_reducible refine XArr.natsA ?_ ?_ ?_); omega; omega; conv => whnf)
      | ((with_reducible apply XArr.pim0); conv => whnf)
      | ((with_reducible apply XArr.pim1); conv => whnf)
      | ((with_reducible refine XArr.ptr ?_ ?_ ?_); omega; omega; conv => whnf)
      | ((refine XCall.hp (j := 0) (upto_c u (hi - lo) o (by omega) (by omega)) rfl rfl ?_); conv => whnf)
      | ((with_reducible apply XBr.mk') <;> (intro h; conv => whnf))
  exact hp_end rfl
theorem once_c (u : Hp) (n : Int) (o : u.Ok) (h1 : -10000 ≤ n) (h2 : n ≤ 10000) : HpOk 74 [.int .i64 n] u (.bool (modV u (n - 1) == 0)) (hpS u) := by
  have hb := modV_bound u (n - 1)
  refine ⟨rfl, ?_⟩
  refine ACall.bodyK (T := tab) (res := [.tmp 4]) tab_ok [] Try.func74 rfl (by kernel_rfl) Try.ntmps74 rfl (by simp only [List.length_cons, List.length_nil]; decide) ?_; conv => whnf
  repeat' first
      | ((with_reducible apply XBr.tt); conv => whnf)
      | ((with_reducible apply XBr.ff); conv => whnf)
      | (with_reducible apply XBr.not)
      | ((with_reducible apply XBr.dec) <;> (intro h; first | (exfalso; omega) | ((try simp only [List.length_map] at h); first | (exfalso; omega) | (conv => whnf))))
      | ((with_reducible apply XBr.beq) <;> (intro h; first | (exfalso; omega) | (conv => whnf)))
      | ((with_reducible apply XBr.bne) <;> (intro h; first | (exfalso; omega) | (conv => whnf)))
      | ((with_reducible refine XInt.i64 (by omega) (by omega) ?_); conv => whnf)
      | ((with_reducible refine XHold.mk ?_ ?_); (first | omega | rfl | decide | exact ⟨rfl, by decide, rfl⟩ | exact wideI _ | exact widePr _ | exact wideSk _ | (unfold Room; constructor <;> ((try simp) <;> omega)) | exact ⟨rfl, by simp only [List.length_map], by unfold Room; constructor <;> ((try simp) <;> omega)⟩ | exact ⟨by omega, by omega, by unfold Room; constructor <;> ((try simp) <;> omega)⟩); conv => whnf)
      | ((with_reducible refine XIx.nat ?_ ?_ ?_); omega; (intro _; rfl); conv => whnf)
      | ((with_reducible refine XIx.map ?_ ?_ ?_ ?_); omega; omega; (intro _; rfl); conv => whnf)
      | (with_reducible apply XAnd.mk)
      | ((with_reducible apply Chk.go); conv => whnf)
      | ((with_reducible apply ChkA.go); conv => whnf)
      | ((with_reducible apply ChkF.go); conv => whnf)
      | ((with_reducible apply ChkB.go); conv => whnf)
      | (exact XSame.mk rfl rfl)
      | (exact XSame.mk (by first | rfl | (simp only [List.map_append, List.length_append, List.length_map]; done) | (simp only [List.map_append, List.length_append, List.length_map]; rfl)) (by first | rfl | (simp only [List.map_append]; done) | (simp only [List.map_append]; rfl)))
      | (with_reducible exact trivial)
      | ((with_reducible refine xdrop_app (by rw [List.length_map]; omega) ?_); conv => whnf)
      | ((with_reducible refine XArr.ints (by omega) (by omega) (by omega) ?_); conv => whnf)
      | ((with_reducible refine XArr.intsA (by omega) (by omega) (by omega) ?_); conv => whnf)
      | ((with_reducible refine XArr.nats ?_ ?_ ?_); omega; omega; conv => whnf)
      | ((with_reducible refine XArr.natsA ?_ ?_ ?_); omega; omega; conv => whnf)
      | ((with_reducible apply XArr.pim0); conv => whnf)
      | ((with_reducible apply XArr.pim1); conv => whnf)
      | ((with_reducible refine XArr.ptr ?_ ?_ ?_); omega; omega; conv => whnf)
      | ((refine XCall.hp (j := 0) (upto_c u (n - 1) o (by omega) (by omega)) rfl rfl ?_); conv => whnf)
      | ((with_reducible apply XBr.mk') <;> (intro h; conv => whnf))
  exact hp_end rfl
end GA
end

section
namespace GA
open Go Go.RowKit Go.Proofs
set_option pp.deepTerms true
set_option maxRecDepth 8000
set_option linter.unusedVariables false
set_option linter.unusedSimpArgs false

/-- Sacks that are dealt. -/
def mdK (u : Hp) : Nat → List Sk × Hp
  | 0 => ([], u)
  | k + 1 => ((mdK u k).1 ++ [⟨1 + modV (mdK u k).2 59, modV (hpS (mdK u k).2) 5⟩], hpS (hpS (mdK u k).2))
theorem mdK_ok {u : Hp} (o : u.Ok) : ∀ k, (mdK u k).2.Ok ∧ (mdK u k).1.length = k
  | 0 => ⟨o, rfl⟩
  | k + 1 => by
    obtain ⟨h1, h2⟩ := mdK_ok o k
    exact ⟨hpS_ok (hpS_ok h1), by simp [mdK, h2]⟩
theorem mdK_sk {u : Hp} : ∀ k, ∀ s ∈ (mdK u k).1, 1 ≤ s.m ∧ s.m ≤ 60 ∧ 0 ≤ s.o ∧ s.o ≤ 5
  | 0, s, h => by simp [mdK] at h
  | k + 1, s, h => by
    rw [mdK, List.mem_append] at h
    rcases h with h | h
    · exact mdK_sk k s h
    · simp only [List.mem_singleton] at h; subst h
      have h1 := modV_bound (mdK u k).2 59
      have h2 := modV_bound (hpS (mdK u k).2) 5
      dsimp only; omega
/-- Pairs that are dealt, of so many sacks. -/
structure Prs where
  ap : List (Int × Int)
  wt : List (Int × Int)
  u : Hp
def prA1 (n : Int) (u : Hp) : Int := modV u (n - 1)
def prB1 (n : Int) (u : Hp) : Int := (prA1 n u + (1 + modV (hpS u) (n - 1 - 1))).tmod n
def prS (n : Int) (s : Prs) : Prs :=
  if (modV (hpS (hpS s.u)) (2 - 1) == 0) = true then ⟨s.ap ++ [(prA1 n s.u, prB1 n s.u)], s.wt, hpS (hpS (hpS s.u))⟩ else ⟨s.ap, s.wt ++ [(prA1 n s.u, prB1 n s.u)], hpS (hpS (hpS s.u))⟩
def prK (n : Int) (u : Hp) : Nat → Prs
  | 0 => ⟨[], [], u⟩
  | k + 1 => prS n (prK n u k)
theorem prK_ok {n : Int} {u : Hp} (o : u.Ok) : ∀ k, (prK n u k).u.Ok ∧ (prK n u k).ap.length + (prK n u k).wt.length = k
  | 0 => ⟨o, rfl⟩
  | k + 1 => by
    obtain ⟨h1, h2⟩ := prK_ok (n := n) o k
    unfold prK prS
    split
    · exact ⟨hpS_ok (hpS_ok (hpS_ok h1)), by simp; omega⟩
    · exact ⟨hpS_ok (hpS_ok (hpS_ok h1)), by simp; omega⟩
theorem prAB {n : Int} (u : Hp) (hn : 1 < n) : 0 ≤ prA1 n u ∧ prA1 n u < n ∧ 0 ≤ prB1 n u ∧ prB1 n u < n ∧ prA1 n u ≠ prB1 n u := by
  have h1 := modV_bound u (n - 1)
  have h2 := modV_bound (hpS u) (n - 1 - 1)
  unfold prB1 prA1
  generalize modV u (n - 1) = a at h1 ⊢
  generalize modV (hpS u) (n - 1 - 1) = b at h2 ⊢
  rw [Int.tmod_eq_emod_of_nonneg (by omega)]
  have h3 := Int.emod_nonneg (a + (1 + b)) (show n ≠ 0 by omega)
  have h4 := Int.emod_lt_of_pos (a + (1 + b)) (show 0 < n by omega)
  refine ⟨by omega, by omega, h3, h4, fun e => ?_⟩
  have h5 := Int.emod_add_mul_ediv (a + (1 + b)) n
  rcases Int.lt_or_le (a + (1 + b)) n with hlt | hle
  · rw [Int.emod_eq_of_lt (by omega) hlt] at e; omega
  · have : (a + (1 + b)) / n = 1 := by
      rw [Int.ediv_eq_iff_of_pos (by omega)]; omega
    rw [this] at h5; omega
theorem prK_in {n : Int} {u : Hp} (hn : 1 < n) : ∀ k, (∀ p ∈ (prK n u k).ap, 0 ≤ p.1 ∧ p.1 < n ∧ 0 ≤ p.2 ∧ p.2 < n ∧ p.1 ≠ p.2) ∧ ∀ p ∈ (prK n u k).wt, 0 ≤ p.1 ∧ p.1 < n ∧ 0 ≤ p.2 ∧ p.2 < n ∧ p.1 ≠ p.2
  | 0 => by simp [prK]
  | k + 1 => by
    obtain ⟨h1, h2⟩ := prK_in (u := u) hn k
    have h3 := prAB (prK n u k).u hn
    unfold prK prS
    split
    · refine ⟨fun p hp => ?_, h2⟩
      rcases List.mem_append.1 hp with hp | hp
      · exact h1 p hp
      · simp only [List.mem_singleton] at hp; subst hp; exact h3
    · refine ⟨h1, fun p hp => ?_⟩
      rcases List.mem_append.1 hp with hp | hp
      · exact h2 p hp
      · simp only [List.mem_singleton] at hp; subst hp; exact h3
def mdSk (u : Hp) (sacks : Int) : List Sk × Hp := mdK (hpS (hpS (hpS u))) (modV (hpS (hpS u)) sacks).toNat
def mdPr (u : Hp) (sacks pairs : Int) : Prs := if 1 < (mdSk u sacks).1.length then prK (mdSk u sacks).1.length (hpS (mdSk u sacks).2) (modV (mdSk u sacks).2 pairs).toNat else ⟨[], [], (mdSk u sacks).2⟩
def madeL (u : Hp) (sacks pairs : Int) : Ld := ⟨20 + modV u 80, modV (hpS u) 6 * 10, (mdSk u sacks).1.isEmpty, (mdSk u sacks).1, (mdPr u sacks pairs).ap.isEmpty, (mdPr u sacks pairs).ap, (mdPr u sacks pairs).wt.isEmpty, (mdPr u sacks pairs).wt⟩
def madeH (u : Hp) (sacks pairs : Int) : Hp := (mdPr u sacks pairs).u
theorem madeL_ok (u : Hp) (sacks pairs : Int) (h1 : 0 ≤ sacks) (h2 : sacks ≤ 9) (h3 : 0 ≤ pairs) (h4 : pairs ≤ 8) (o : u.Ok) : LdOk (madeL u sacks pairs) := by
  have g1 := modV_bound u 80
  have g2 := modV_bound (hpS u) 6
  have g3 := modV_bound (hpS (hpS u)) sacks
  have g4 := modV_bound (mdSk u sacks).2 pairs
  have k1 := mdK_ok (hpS_ok (hpS_ok (hpS_ok o))) (modV (hpS (hpS u)) sacks).toNat
  have hl : (mdSk u sacks).1.length ≤ 9 := by show (mdK _ _).1.length ≤ 9; omega
  have hp : (mdPr u sacks pairs).ap.length + (mdPr u sacks pairs).wt.length ≤ 8 := by
    unfold mdPr
    split
    · have := (prK_ok (n := (mdSk u sacks).1.length) (u := hpS (mdSk u sacks).2) (hpS_ok k1.1) (modV (mdSk u sacks).2 pairs).toNat).2
      omega
    · simp
  have hin : (∀ p ∈ (mdPr u sacks pairs).ap, 0 ≤ p.1 ∧ p.1 < (mdSk u sacks).1.length ∧ 0 ≤ p.2 ∧ p.2 < (mdSk u sacks).1.length ∧ p.1 ≠ p.2) ∧ ∀ p ∈ (mdPr u sacks pairs).wt, 0 ≤ p.1 ∧ p.1 < (mdSk u sacks).1.length ∧ 0 ≤ p.2 ∧ p.2 < (mdSk u sacks).1.length ∧ p.1 ≠ p.2 := by
    unfold mdPr
    split
    · exact prK_in (by omega) _
    · simp
  exact ⟨hl, by show (mdPr u sacks pairs).ap.length ≤ 8; omega, by show (mdPr u sacks pairs).wt.length ≤ 8; omega, by show 1 ≤ 20 + modV u 80; omega, by show 20 + modV u 80 ≤ 100; omega, by show 0 ≤ modV (hpS u) 6 * 10; omega, by show modV (hpS u) 6 * 10 ≤ 90; omega,
    fun s hs => by have := mdK_sk _ s hs; omega, hin.1, hin.2⟩

theorem isEmpty_app {α : Type} (l : List α) (x : α) : (l ++ [x]).isEmpty = (l.isEmpty && false) := by cases l <;> rfl
theorem made_end {H : List Blk} {r' : AV} (b s : Int) (ss : List Sk) (ap wt : List (Int × Int)) (x : Hp) {C : Blk} {C2 : Blk} (hH : H = [hpC x, C, C2, .grow 113 ss.isEmpty (ss.map skA), .grow 118 ap.isEmpty (ap.map prA), .grow 118 wt.isEmpty (wt.map prA)])
    (hr : r' = .agg [.int .i64 b, .int .i64 s, .gr 3 ss.length, .gr 4 ap.length, .gr 5 wt.length]) {n : Nat} (hn : n = 1) : XEnd Try.prog n H r' (ldA ⟨b, s, ss.isEmpty, ss, ap.isEmpty, ap, wt.isEmpty, wt⟩) [hpC x] := by
  subst hH; subst hr; subst hn
  refine ⟨rfl, rfl, fun y hy => by simp only [List.mem_cons, List.not_mem_nil, or_false] at hy; subst hy; exact hpC_low _, ?_⟩
  refine FrozN.agg ?_ (.cons (.low rfl) (.cons (.low rfl) (.cons (.grow (by decide) rfl (List.length_map _) (lowSk _)) (.cons (.grow (by decide) rfl (List.length_map _) (lowPr _)) (.cons (.grow (by decide) rfl (List.length_map _) (lowPr _)) .nil)))))
  intro y hy
  simp only [ldC, List.mem_cons, List.not_mem_nil, or_false] at hy
  rcases hy with rfl | rfl | rfl | rfl | rfl <;> rfl
theorem made_c (u : Hp) (sacks pairs : Int) (o : u.Ok) (h1 : 0 ≤ sacks) (h2 : sacks ≤ 9) (h3 : 0 ≤ pairs) (h4 : pairs ≤ 8) : HpOk 16 [.int .i64 sacks, .int .i64 pairs] u (ldA (madeL u sacks pairs)) (madeH u sacks pairs) := by
  have g1 := modV_bound u 80
  have g2 := modV_bound (hpS u) 6
  have g3 := modV_bound (hpS (hpS u)) sacks
  have k1 := mdK_ok (hpS_ok (hpS_ok (hpS_ok o)))
  refine ⟨rfl, ?_⟩
  refine ACall.bodyN (T := tab) (res := [.cell 6 26]) tab_ok [] Try.func16 rfl (by kernel_rfl) Try.ntmps16 rfl (by simp only [List.length_cons, List.length_nil]; decide) ⟨rfl, rfl⟩ ?_; conv => whnf
  repeat' first
      | ((with_reducible apply XBr.tt); conv => whnf)
      | ((with_reducible apply XBr.ff); conv => whnf)
      | (with_reducible apply XBr.not)
      | ((with_reducible apply XBr.dec) <;> (intro h; first | (exfalso; omega) | ((try simp only [List.length_map] at h); first | (exfalso; omega) | (conv => whnf))))
      | ((with_reducible apply XBr.beq) <;> (intro h; first | (exfalso; omega) | (conv => whnf)))
      | ((with_reducible apply XBr.bne) <;> (intro h; first | (exfalso; omega) | (conv => whnf)))
      | ((with_reducible refine XInt.i64 (by omega) (by omega) ?_); conv => whnf)
      | ((with_reducible refine XHold.mk ?_ ?_); (first | omega | rfl | decide | exact ⟨rfl, by decide, rfl⟩ | exact wideI _ | exact widePr _ | exact wideSk _ | (unfold Room; constructor <;> ((try simp) <;> omega)) | exact ⟨rfl, by simp only [List.length_map], by unfold Room; constructor <;> ((try simp) <;> omega)⟩ | exact ⟨by omega, by omega, by unfold Room; constructor <;> ((try simp) <;> omega)⟩); conv => whnf)
      | ((with_reducible refine XIx.nat ?_ ?_ ?_); omega; (intro _; rfl); conv => whnf)
      | ((with_reducible refine XIx.map ?_ ?_ ?_ ?_); omega; omega; (intro _; rfl); conv => whnf)
      | (with_reducible apply XAnd.mk)
      | ((with_reducible apply Chk.go); conv => whnf)
      | ((with_reducible apply ChkA.go); conv => whnf)
      | ((with_reducible apply ChkF.go); conv => whnf)
      | ((with_reducible apply ChkB.go); conv => whnf)
      | (exact XSame.mk rfl rfl)
      | (exact XSame.mk (by first | rfl | (simp only [List.map_append, List.length_append, List.length_map]; done) | (simp only [List.map_append, List.length_append, List.length_map]; rfl)) (by first | rfl | (simp only [List.map_append]; done) | (simp only [List.map_append]; rfl)))
      | (with_reducible exact trivial)
      | ((with_reducible refine xdrop_app (by rw [List.length_map]; omega) ?_); conv => whnf)
      | ((with_reducible refine XArr.ints (by omega) (by omega) (by omega) ?_); conv => whnf)
      | ((with_reducible refine XArr.intsA (by omega) (by omega) (by omega) ?_); conv => whnf)
      | ((with_reducible refine XArr.nats ?_ ?_ ?_); omega; omega; conv => whnf)
      | ((with_reducible refine XArr.natsA ?_ ?_ ?_); omega; omega; conv => whnf)
      | ((with_reducible apply XArr.pim0); conv => whnf)
      | ((with_reducible apply XArr.pim1); conv => whnf)
      | ((with_reducible refine XArr.ptr ?_ ?_ ?_); omega; omega; conv => whnf)
      | ((refine XCall.hp (j := 0) (from_c u 20 100 o (by omega) (by omega) (by omega) (by omega)) rfl rfl ?_); conv => whnf)
      | ((refine XCall.hp (j := 0) (upto_c (hpS u) 6 (hpS_ok o) (by omega) (by omega)) rfl rfl ?_); conv => whnf)
      | ((refine XCall.hp (j := 0) (upto_c (hpS (hpS u)) sacks (hpS_ok (hpS_ok o)) (by omega) (by omega)) rfl rfl ?_); conv => whnf)
      | ((with_reducible apply XBr.mk') <;> (intro h; conv => whnf))
  refine Walk.nilcell 2 2 113 rfl rfl ?_
  refine Walk.nilcell 2 3 118 rfl rfl ?_
  refine Walk.nilcell 2 4 118 rfl rfl ?_
  have hm : ((modV (hpS (hpS u)) sacks).toNat : Int) = modV (hpS (hpS u)) sacks := by omega
  refine Walk.loop tab_ok [] (fun k : Nat => k ≤ (modV (hpS (hpS u)) sacks).toNat) (fun k => [(0, .ptr 0 0), (2, .int .i64 pairs), (6, .ptr 1 0), (7, .ptr 2 0), (19, .int .i64 (modV (hpS (hpS u)) sacks)), (20, natA k)])
    (fun k => [hpC (mdK (hpS (hpS (hpS u))) k).2, .cells [.int .i64 0, .int .i64 0, .sl true [], .sl true [], .sl true []],
      .cells [.int .i64 (20 + modV u (100 - 20)), .int .i64 (modV (hpS u) 6 * 10), .gr 3 (mdK (hpS (hpS (hpS u))) k).1.length, .gr 4 0, .gr 5 0], .grow 113 (mdK (hpS (hpS (hpS u))) k).1.isEmpty ((mdK (hpS (hpS (hpS u))) k).1.map skA), .grow 118 true [], .grow 118 true []])
    (fun k => (modV (hpS (hpS u)) sacks).toNat - k) 0 (by omega) rfl ⟨rfl, rfl, rfl, rfl, rfl, rfl, trivial⟩ ?_
  intro k hk
  have k2 := k1 k
  have hnx : mdK (hpS (hpS (hpS u))) (k + 1) = ((mdK (hpS (hpS (hpS u))) k).1 ++ [⟨1 + modV (mdK (hpS (hpS (hpS u))) k).2 59, modV (hpS (mdK (hpS (hpS (hpS u))) k).2) 5⟩], hpS (hpS (mdK (hpS (hpS (hpS u))) k).2)) := rfl
  have hfin : k = (modV (hpS (hpS u)) sacks).toNat → mdSk u sacks = mdK (hpS (hpS (hpS u))) k := fun h => by rw [h]; rfl
  generalize mdK (hpS (hpS (hpS u))) k = q at k2 hnx hfin
  obtain ⟨ss, v⟩ := q
  obtain ⟨vo, vl⟩ := k2
  dsimp only at vo vl hnx hfin
  have b1 := modV_bound v 59
  have b2 := modV_bound (hpS v) 5
  conv => whnf
  repeat' first
      | ((with_reducible apply XBr.tt); conv => whnf)
      | ((with_reducible apply XBr.ff); conv => whnf)
      | (with_reducible apply XBr.not)
      | ((with_reducible apply XBr.dec) <;> (intro h; first | (exfalso; omega) | ((try simp only [List.length_map] at h); first | (exfalso; omega) | (conv => whnf))))
      | ((with_reducible apply XBr.beq) <;> (intro h; first | (exfalso; omega) | (conv => whnf)))
      | ((with_reducible apply XBr.bne) <;> (intro h; first | (exfalso; omega) | (conv => whnf)))
      | ((with_reducible refine XInt.i64 (by omega) (by omega) ?_); conv => whnf)
      | ((with_reducible refine XHold.mk ?_ ?_); (first | omega | rfl | decide | exact ⟨rfl, by decide, rfl⟩ | exact wideI _ | exact widePr _ | exact wideSk _ | (unfold Room; constructor <;> ((try simp) <;> omega)) | exact ⟨rfl, by simp only [List.length_map], by unfold Room; constructor <;> ((try simp) <;> omega)⟩ | exact ⟨by omega, by omega, by unfold Room; constructor <;> ((try simp) <;> omega)⟩); conv => whnf)
      | ((with_reducible refine XIx.nat ?_ ?_ ?_); omega; (intro _; rfl); conv => whnf)
      | ((with_reducible refine XIx.map ?_ ?_ ?_ ?_); omega; omega; (intro _; rfl); conv => whnf)
      | (with_reducible apply XAnd.mk)
      | ((with_reducible apply Chk.go); conv => whnf)
      | ((with_reducible apply ChkA.go); conv => whnf)
      | ((with_reducible apply ChkF.go); conv => whnf)
      | ((with_reducible apply ChkB.go); conv => whnf)
      | (exact XSame.mk rfl rfl)
      | (exact XSame.mk (by first | rfl | (simp only [List.map_append, List.length_append, List.length_map]; done) | (simp only [List.map_append, List.length_append, List.length_map]; rfl)) (by first | rfl | (simp only [List.map_append]; done) | (simp only [List.map_append]; rfl)))
      | (with_reducible exact trivial)
      | ((with_reducible refine xdrop_app (by rw [List.length_map]; omega) ?_); conv => whnf)
      | ((with_reducible refine XArr.ints (by omega) (by omega) (by omega) ?_); conv => whnf)
      | ((with_reducible refine XArr.intsA (by omega) (by omega) (by omega) ?_); conv => whnf)
      | ((with_reducible refine XArr.nats ?_ ?_ ?_); omega; omega; conv => whnf)
      | ((with_reducible refine XArr.natsA ?_ ?_ ?_); omega; omega; conv => whnf)
      | ((with_reducible apply XArr.pim0); conv => whnf)
      | ((with_reducible apply XArr.pim1); conv => whnf)
      | ((with_reducible refine XArr.ptr ?_ ?_ ?_); omega; omega; conv => whnf)
      | ((with_reducible apply XBr.mk') <;> (intro h; conv => whnf))
  · apply Walk.drawX tab_ok mixed_ok [] [3, 5, 8, 10] (hsV _ [id, fun H => H.set 0 (hpC (hpS v)), fun H => H.set 0 (hpC (hpS (hpS v))), fun H => (H.set 0 (hpC (hpS (hpS v)))).set 3 (.grow 113 (ss.isEmpty && false) (ss.map skA ++ [skA (Sk.mk (1 + modV v (60 - 1)) (modV (hpS v) 5))])),
      fun H => ((H.set 0 (hpC (hpS (hpS v)))).set 3 (.grow 113 (ss.isEmpty && false) (ss.map skA ++ [skA (Sk.mk (1 + modV v (60 - 1)) (modV (hpS v) 5))]))).set 2 (.cells [.int .i64 (20 + modV u (100 - 20)), .int .i64 (modV (hpS u) 6 * 10), .gr 3 (ss.length + 1), .gr 4 0, .gr 5 0])]) [_, _, _, _, _, _, _, _, _, _, _] (by kernel_rfl) rfl
    · skip
      repeat' first
          | ((with_reducible apply XBr.tt); conv => whnf)
          | ((with_reducible apply XBr.ff); conv => whnf)
          | (with_reducible apply XBr.not)
          | ((with_reducible apply XBr.dec) <;> (intro h; first | (exfalso; omega) | ((try simp only [List.length_map] at h); first | (exfalso; omega) | (conv => whnf))))
          | ((with_reducible apply XBr.beq) <;> (intro h; first | (exfalso; omega) | (conv => whnf)))
          | ((with_reducible apply XBr.bne) <;> (intro h; first | (exfalso; omega) | (conv => whnf)))
          | ((with_reducible refine XInt.i64 (by omega) (by omega) ?_); conv => whnf)
          | ((with_reducible refine XHold.mk ?_ ?_); (first | omega | rfl | decide | exact ⟨rfl, by decide, rfl⟩ | exact wideI _ | exact widePr _ | exact wideSk _ | (unfold Room; constructor <;> ((try simp) <;> omega)) | exact ⟨rfl, by simp only [List.length_map], by unfold Room; constructor <;> ((try simp) <;> omega)⟩ | exact ⟨by omega, by omega, by unfold Room; constructor <;> ((try simp) <;> omega)⟩); conv => whnf)
          | ((with_reducible refine XIx.nat ?_ ?_ ?_); omega; (intro _; rfl); conv => whnf)
          | ((with_reducible refine XIx.map ?_ ?_ ?_ ?_); omega; omega; (intro _; rfl); conv => whnf)
          | (with_reducible apply XAnd.mk)
          | ((with_reducible apply Chk.go); conv => whnf)
          | ((with_reducible apply ChkA.go); conv => whnf)
          | ((with_reducible apply ChkF.go); conv => whnf)
          | ((with_reducible apply ChkB.go); conv => whnf)
          | (exact XSame.mk rfl rfl)
          | (exact XSame.mk (by first | rfl | (simp only [List.map_append, List.length_append, List.length_map]; done) | (simp only [List.map_append, List.length_append, List.length_map]; rfl)) (by first | rfl | (simp only [List.map_append]; done) | (simp only [List.map_append]; rfl)))
          | (with_reducible exact trivial)
          | ((with_reducible refine xdrop_app (by rw [List.length_map]; omega) ?_); conv => whnf)
          | ((with_reducible refine XArr.ints (by omega) (by omega) (by omega) ?_); conv => whnf)
          | ((with_reducible refine XArr.intsA (by omega) (by omega) (by omega) ?_); conv => whnf)
          | ((with_reducible refine XArr.nats ?_ ?_ ?_); omega; omega; conv => whnf)
          | ((with_reducible refine XArr.natsA ?_ ?_ ?_); omega; omega; conv => whnf)
          | ((with_reducible apply XArr.pim0); conv => whnf)
          | ((with_reducible apply XArr.pim1); conv => whnf)
          | ((with_reducible refine XArr.ptr ?_ ?_ ?_); omega; omega; conv => whnf)
          | ((refine XCall.hp (j := 0) (from_c v 1 60 vo (by omega) (by omega) (by omega) (by omega)) rfl rfl ?_); conv => whnf)
          | ((refine XCall.hp (j := 0) (upto_c (hpS v) 5 (hpS_ok vo) (by omega) (by omega)) rfl rfl ?_); conv => whnf)
          | ((with_reducible apply XBr.mk') <;> (intro h; conv => whnf))
    · skip
      repeat' first
          | ((with_reducible apply XBr.tt); conv => whnf)
          | ((with_reducible apply XBr.ff); conv => whnf)
          | (with_reducible apply XBr.not)
          | ((with_reducible apply XBr.dec) <;> (intro h; first | (exfalso; omega) | ((try simp only [List.length_map] at h); first | (exfalso; omega) | (conv => whnf))))
          | ((with_reducible apply XBr.beq) <;> (intro h; first | (exfalso; omega) | (conv => whnf)))
          | ((with_reducible apply XBr.bne) <;> (intro h; first | (exfalso; omega) | (conv => whnf)))
          | ((with_reducible refine XInt.i64 (by omega) (by omega) ?_); conv => whnf)
          | ((with_reducible refine XHold.mk ?_ ?_); (first | omega | rfl | decide | exact ⟨rfl, by decide, rfl⟩ | exact wideI _ | exact widePr _ | exact wideSk _ | (unfold Room; constructor <;> ((try simp) <;> omega)) | exact ⟨rfl, by simp only [List.length_map], by unfold Room; constructor <;> ((try simp) <;> omega)⟩ | exact ⟨by omega, by omega, by unfold Room; constructor <;> ((try simp) <;> omega)⟩); conv => whnf)
          | ((with_reducible refine XIx.nat ?_ ?_ ?_); omega; (intro _; rfl); conv => whnf)
          | ((with_reducible refine XIx.map ?_ ?_ ?_ ?_); omega; omega; (intro _; rfl); conv => whnf)
          | (with_reducible apply XAnd.mk)
          | ((with_reducible apply Chk.go); conv => whnf)
          | ((with_reducible apply ChkA.go); conv => whnf)
          | ((with_reducible apply ChkF.go); conv => whnf)
          | ((with_reducible apply ChkB.go); conv => whnf)
          | (exact XSame.mk rfl rfl)
          | (exact XSame.mk (by first | rfl | (simp only [List.map_append, List.length_append, List.length_map]; done) | (simp only [List.map_append, List.length_append, List.length_map]; rfl)) (by first | rfl | (simp only [List.map_append]; done) | (simp only [List.map_append]; rfl)))
          | (with_reducible exact trivial)
          | ((with_reducible refine xdrop_app (by rw [List.length_map]; omega) ?_); conv => whnf)
          | ((with_reducible refine XArr.ints (by omega) (by omega) (by omega) ?_); conv => whnf)
          | ((with_reducible refine XArr.intsA (by omega) (by omega) (by omega) ?_); conv => whnf)
          | ((with_reducible refine XArr.nats ?_ ?_ ?_); omega; omega; conv => whnf)
          | ((with_reducible refine XArr.natsA ?_ ?_ ?_); omega; omega; conv => whnf)
          | ((with_reducible apply XArr.pim0); conv => whnf)
          | ((with_reducible apply XArr.pim1); conv => whnf)
          | ((with_reducible refine XArr.ptr ?_ ?_ ?_); omega; omega; conv => whnf)
          | ((refine XCall.hp (j := 0) (from_c v 1 60 vo (by omega) (by omega) (by omega) (by omega)) rfl rfl ?_); conv => whnf)
          | ((refine XCall.hp (j := 0) (upto_c (hpS v) 5 (hpS_ok vo) (by omega) (by omega)) rfl rfl ?_); conv => whnf)
          | ((with_reducible apply XBr.mk') <;> (intro h; conv => whnf))
    · conv => whnf
      repeat' first
          | ((with_reducible apply XBr.tt); conv => whnf)
          | ((with_reducible apply XBr.ff); conv => whnf)
          | (with_reducible apply XBr.not)
          | ((with_reducible apply XBr.dec) <;> (intro h; first | (exfalso; omega) | ((try simp only [List.length_map] at h); first | (exfalso; omega) | (conv => whnf))))
          | ((with_reducible apply XBr.beq) <;> (intro h; first | (exfalso; omega) | (conv => whnf)))
          | ((with_reducible apply XBr.bne) <;> (intro h; first | (exfalso; omega) | (conv => whnf)))
          | ((with_reducible refine XInt.i64 (by omega) (by omega) ?_); conv => whnf)
          | ((with_reducible refine XHold.mk ?_ ?_); (first | omega | rfl | decide | exact ⟨rfl, by decide, rfl⟩ | exact wideI _ | exact widePr _ | exact wideSk _ | (unfold Room; constructor <;> ((try simp) <;> omega)) | exact ⟨rfl, by simp only [List.length_map], by unfold Room; constructor <;> ((try simp) <;> omega)⟩ | exact ⟨by omega, by omega, by unfold Room; constructor <;> ((try simp) <;> omega)⟩); conv => whnf)
          | ((with_reducible refine XIx.nat ?_ ?_ ?_); omega; (intro _; rfl); conv => whnf)
          | ((with_reducible refine XIx.map ?_ ?_ ?_ ?_); omega; omega; (intro _; rfl); conv => whnf)
          | (with_reducible apply XAnd.mk)
          | ((with_reducible apply Chk.go); conv => whnf)
          | ((with_reducible apply ChkA.go); conv => whnf)
          | ((with_reducible apply ChkF.go); conv => whnf)
          | ((with_reducible apply ChkB.go); conv => whnf)
          | (exact XSame.mk rfl rfl)
          | (exact XSame.mk (by first | rfl | (simp only [List.map_append, List.length_append, List.length_map]; done) | (simp only [List.map_append, List.length_append, List.length_map]; rfl)) (by first | rfl | (simp only [List.map_append]; done) | (simp only [List.map_append]; rfl)))
          | (with_reducible exact trivial)
          | ((with_reducible refine xdrop_app (by rw [List.length_map]; omega) ?_); conv => whnf)
          | ((with_reducible refine XArr.ints (by omega) (by omega) (by omega) ?_); conv => whnf)
          | ((with_reducible refine XArr.intsA (by omega) (by omega) (by omega) ?_); conv => whnf)
          | ((with_reducible refine XArr.nats ?_ ?_ ?_); omega; omega; conv => whnf)
          | ((with_reducible refine XArr.natsA ?_ ?_ ?_); omega; omega; conv => whnf)
          | ((with_reducible apply XArr.pim0); conv => whnf)
          | ((with_reducible apply XArr.pim1); conv => whnf)
          | ((with_reducible refine XArr.ptr ?_ ?_ ?_); omega; omega; conv => whnf)
          | ((with_reducible apply XBr.mk') <;> (intro h; conv => whnf))
      refine XAgain.go (k + 1) (by omega) (by omega) ?_ ⟨rfl, rfl, rfl, rfl, rfl, rfl, trivial⟩
      rw [hnx]; simp only [List.length_append, List.map_append, isEmpty_app]; rfl
  · have hq := hfin (by omega)
    have hL : madeL u sacks pairs = ⟨20 + modV u 80, modV (hpS u) 6 * 10, ss.isEmpty, ss, (mdPr u sacks pairs).ap.isEmpty, (mdPr u sacks pairs).ap, (mdPr u sacks pairs).wt.isEmpty, (mdPr u sacks pairs).wt⟩ := by unfold madeL; rw [hq]
    have hP : mdPr u sacks pairs = if 1 < ss.length then prK ss.length (hpS v) (modV v pairs).toNat else ⟨[], [], v⟩ := by unfold mdPr; rw [hq]
    unfold madeH
    rw [hL]
    generalize mdPr u sacks pairs = pq at hP
    have b3 := modV_bound v pairs
    have hmp : ((modV v pairs).toNat : Int) = modV v pairs := by omega
    repeat' first
        | ((with_reducible apply XBr.tt); conv => whnf)
        | ((with_reducible apply XBr.ff); conv => whnf)
        | (with_reducible apply XBr.not)
        | ((with_reducible apply XBr.dec) <;> (intro h; first | (exfalso; omega) | ((try simp only [List.length_map] at h); first | (exfalso; omega) | (conv => whnf))))
        | ((with_reducible apply XBr.beq) <;> (intro h; first | (exfalso; omega) | (conv => whnf)))
        | ((with_reducible apply XBr.bne) <;> (intro h; first | (exfalso; omega) | (conv => whnf)))
        | ((with_reducible refine XInt.i64 (by omega) (by omega) ?_); conv => whnf)
        | ((with_reducible refine XHold.mk ?_ ?_); (first | omega | rfl | decide | exact ⟨rfl, by decide, rfl⟩ | exact wideI _ | exact widePr _ | exact wideSk _ | (unfold Room; constructor <;> ((try simp) <;> omega)) | exact ⟨rfl, by simp only [List.length_map], by unfold Room; constructor <;> ((try simp) <;> omega)⟩ | exact ⟨by omega, by omega, by unfold Room; constructor <;> ((try simp) <;> omega)⟩); conv => whnf)
        | ((with_reducible refine XIx.nat ?_ ?_ ?_); omega; (intro _; rfl); conv => whnf)
        | ((with_reducible refine XIx.map ?_ ?_ ?_ ?_); omega; omega; (intro _; rfl); conv => whnf)
        | (with_reducible apply XAnd.mk)
        | ((with_reducible apply Chk.go); conv => whnf)
        | ((with_reducible apply ChkA.go); conv => whnf)
        | ((with_reducible apply ChkF.go); conv => whnf)
        | ((with_reducible apply ChkB.go); conv => whnf)
        | (exact XSame.mk rfl rfl)
        | (exact XSame.mk (by first | rfl | (simp only [List.map_append, List.length_append, List.length_map]; done) | (simp only [List.map_append, List.length_append, List.length_map]; rfl)) (by first | rfl | (simp only [List.map_append]; done) | (simp only [List.map_append]; rfl)))
        | (with_reducible exact trivial)
        | ((with_reducible refine xdrop_app (by rw [List.length_map]; omega) ?_); conv => whnf)
        | ((with_reducible refine XArr.ints (by omega) (by omega) (by omega) ?_); conv => whnf)
        | ((with_reducible refine XArr.intsA (by omega) (by omega) (by omega) ?_); conv => whnf)
        | ((with_reducible refine XArr.nats ?_ ?_ ?_); omega; omega; conv => whnf)
        | ((with_reducible refine XArr.natsA ?_ ?_ ?_); omega; omega; conv => whnf)
        | ((with_reducible apply XArr.pim0); conv => whnf)
        | ((with_reducible apply XArr.pim1); conv => whnf)
        | ((with_reducible refine XArr.ptr ?_ ?_ ?_); omega; omega; conv => whnf)
        | ((refine XCall.hp (j := 0) (upto_c v pairs vo (by omega) (by omega)) rfl rfl ?_); conv => whnf)
        | ((refine XHold.mk (List.length_map _) ?_); conv => whnf)
        | ((with_reducible apply XBr.mk') <;> (intro h; conv => whnf))
    · rw [if_pos (by omega)] at hP
      have hn1 : 1 < (ss.length : Int) := by omega
      have pk := prK_ok (n := ss.length) (hpS_ok vo)
      refine Walk.loopG tab_ok [] (fun j : Nat => j ≤ (modV v pairs).toNat) (fun j => [(0, .ptr 0 0), (6, .ptr 1 0), (7, .ptr 2 0), (8, .int .i64 ss.length), (40, .int .i64 (modV v pairs)), (41, natA j)])
        (fun j => [hpC (prK ss.length (hpS v) j).u, .cells [.int .i64 0, .int .i64 0, .sl true [], .sl true [], .sl true []],
          .cells [.int .i64 (20 + modV u (100 - 20)), .int .i64 (modV (hpS u) 6 * 10), .gr 3 ss.length, .gr 4 (prK ss.length (hpS v) j).ap.length, .gr 5 (prK ss.length (hpS v) j).wt.length], .grow 113 ss.isEmpty (ss.map skA),
          .grow 118 (prK ss.length (hpS v) j).ap.isEmpty ((prK ss.length (hpS v) j).ap.map prA), .grow 118 (prK ss.length (hpS v) j).wt.isEmpty ((prK ss.length (hpS v) j).wt.map prA)])
        (fun j => (modV v pairs).toNat - j) 0 (by omega) rfl ⟨rfl, rfl, rfl, rfl, rfl, rfl, trivial⟩ ?_ ?_ ?_
      · intro j _
        constructor
        · intro x hx; simp only [List.mem_cons, List.not_mem_nil, or_false] at hx
          rcases hx with rfl | rfl | rfl | rfl | rfl | rfl <;> first | exact hpC_low _ | exact lowSk _ | exact lowPr _ | rfl
        · intro p hp; simp only [List.mem_cons, List.not_mem_nil, or_false] at hp; rcases hp with rfl | rfl | rfl | rfl | rfl | rfl <;> rfl
      · intro j _; exact Nat.le_refl _
      intro j hj
      have pj := pk j
      have hnxt : prK ss.length (hpS v) (j + 1) = prS ss.length (prK ss.length (hpS v) j) := rfl
      have hfin2 : j = (modV v pairs).toNat → pq = prK ss.length (hpS v) j := fun h => by rw [hP, h]
      generalize prK ss.length (hpS v) j = st at pj hnxt hfin2
      obtain ⟨ap, wt, x⟩ := st
      dsimp only at pj hnxt hfin2 ⊢
      have xo := pj.1
      have ab := prAB x hn1
      unfold prB1 prA1 at ab
      have c1 := modV_bound x (ss.length - 1)
      have c2 := modV_bound (hpS x) (ss.length - 1 - 1)
      have hss : ss.length ≤ 9 := by omega
      conv => whnf
      repeat' first
          | ((with_reducible apply XBr.tt); conv => whnf)
          | ((with_reducible apply XBr.ff); conv => whnf)
          | (with_reducible apply XBr.not)
          | ((with_reducible apply XBr.dec) <;> (intro h; first | (exfalso; omega) | ((try simp only [List.length_map] at h); first | (exfalso; omega) | (conv => whnf))))
          | ((with_reducible apply XBr.beq) <;> (intro h; first | (exfalso; omega) | (conv => whnf)))
          | ((with_reducible apply XBr.bne) <;> (intro h; first | (exfalso; omega) | (conv => whnf)))
          | ((with_reducible refine XInt.i64 (by omega) (by omega) ?_); conv => whnf)
          | ((with_reducible refine XHold.mk ?_ ?_); (first | omega | rfl | decide | exact ⟨rfl, by decide, rfl⟩ | exact wideI _ | exact widePr _ | exact wideSk _ | (unfold Room; constructor <;> ((try simp) <;> omega)) | exact ⟨rfl, by simp only [List.length_map], by unfold Room; constructor <;> ((try simp) <;> omega)⟩ | exact ⟨by omega, by omega, by unfold Room; constructor <;> ((try simp) <;> omega)⟩); conv => whnf)
          | ((with_reducible refine XIx.nat ?_ ?_ ?_); omega; (intro _; rfl); conv => whnf)
          | ((with_reducible refine XIx.map ?_ ?_ ?_ ?_); omega; omega; (intro _; rfl); conv => whnf)
          | (with_reducible apply XAnd.mk)
          | ((with_reducible apply Chk.go); conv => whnf)
          | ((with_reducible apply ChkA.go); conv => whnf)
          | ((with_reducible apply ChkF.go); conv => whnf)
          | ((with_reducible apply ChkB.go); conv => whnf)
          | (exact XSame.mk rfl rfl)
          | (exact XSame.mk (by first | rfl | (simp only [List.map_append, List.length_append, List.length_map]; done) | (simp only [List.map_append, List.length_append, List.length_map]; rfl)) (by first | rfl | (simp only [List.map_append]; done) | (simp only [List.map_append]; rfl)))
          | (with_reducible exact trivial)
          | ((with_reducible refine xdrop_app (by rw [List.length_map]; omega) ?_); conv => whnf)
          | ((with_reducible refine XArr.ints (by omega) (by omega) (by omega) ?_); conv => whnf)
          | ((with_reducible refine XArr.intsA (by omega) (by omega) (by omega) ?_); conv => whnf)
          | ((with_reducible refine XArr.nats ?_ ?_ ?_); omega; omega; conv => whnf)
          | ((with_reducible refine XArr.natsA ?_ ?_ ?_); omega; omega; conv => whnf)
          | ((with_reducible apply XArr.pim0); conv => whnf)
          | ((with_reducible apply XArr.pim1); conv => whnf)
          | ((with_reducible refine XArr.ptr ?_ ?_ ?_); omega; omega; conv => whnf)
          | ((refine XCall.hp (j := 0) (upto_c x (ss.length - 1) xo (by omega) (by omega)) rfl rfl ?_); conv => whnf)
          | ((refine XCall.hp (j := 0) (from_c (hpS x) 1 (ss.length - 1) (hpS_ok xo) (by omega) (by omega) (by omega) (by omega)) rfl rfl ?_); conv => whnf)
          | ((refine XCall.hp (j := 0) (once_c (hpS (hpS x)) 2 (hpS_ok (hpS_ok xo)) (by omega) (by omega)) rfl rfl ?_); conv => whnf)
          | ((refine XHold.mk (List.length_map _) ?_); conv => whnf)
          | ((with_reducible apply XBr.mk') <;> (intro h; conv => whnf))
      · refine XAgainG.go (j + 1) [.cells [.int .i64 (prA1 ss.length x), .int .i64 (prB1 ss.length x)]] (by omega) (by omega) ?_ ⟨rfl, rfl, rfl, rfl, rfl, rfl, trivial⟩
        rw [hnxt]; unfold prS; rw [if_pos (by simpa using h)]; simp only [List.length_append, List.map_append, isEmpty_app]; rfl
      · refine XAgainG.go (j + 1) [.cells [.int .i64 (prA1 ss.length x), .int .i64 (prB1 ss.length x)]] (by omega) (by omega) ?_ ⟨rfl, rfl, rfl, rfl, rfl, rfl, trivial⟩
        rw [hnxt]; unfold prS; rw [if_neg (by simpa using h)]; simp only [List.length_append, List.map_append, isEmpty_app]; rfl
      · rw [hfin2 (by omega)]
        exact made_end _ _ _ _ _ _ rfl rfl rfl
    · rw [if_neg (by omega)] at hP
      subst hP
      exact made_end (20 + modV u 80) (modV (hpS u) 6 * 10) ss [] [] v rfl rfl rfl
end GA
end

section
namespace GA
open Go Go.RowKit Go.Proofs
set_option pp.deepTerms true
set_option maxRecDepth 8000
set_option linter.unusedVariables false
set_option linter.unusedSimpArgs false

def hp0 (nl : Bool) (bs : List Int) : Hp := ⟨nl, bs, 0, 0⟩
theorem hp0_ok {nl : Bool} {bs : List Int} (h : bs.length < 9223372036854775808) : (hp0 nl bs).Ok := ⟨h, .inr rfl⟩
theorem ldW {l : Ld} (o : LdOk l) (hn : l.nla = true → l.apart = []) : LdW l := ⟨hn, by have := o.n; omega, by have := o.na; omega, by have := o.nw; omega⟩
end GA
end

section
namespace GA
open Go Go.RowKit Go.ChangeShapes Go.WideShapes Go.ChangeAt Go.Proofs Go.Proofs.Ytlbdomhfcghjdaa
set_option linter.unusedVariables false
set_option linter.unusedSimpArgs false

section
variable {P : Program} {w : World} {r : Reach} {base : Nat} {t : TypeId} {v : Value}
theorem okWide_len {e : TypeId} (ht : P.underlying t = some (.slice e)) (h : Value.okWide P w r base t v) : ∃ a len cap, v = .slice a len cap ∧ len < 9223372036854775808 := by
  simp only [Value.okWide, ht, Cell.okWide] at h
  cases v with
  | slice a len cap =>
    refine ⟨a, len, cap, rfl, ?_⟩
    cases a with
    | none =>
      cases len with
      | zero => omega
      | succ n => simp [Cell.ok, ht] at h
    | some a =>
      simp only [Cell.ok, ht] at h
      have h1 : IntKind.i64.max = 9223372036854775807 := by decide
      omega
  | _ => simp_all [Cell.ok]
theorem okWide_has {k : IntKind} (ht : P.underlying t = some (.int k)) (h : Value.okWide P w r base t v) : ∃ n, v = .int k n ∧ k.min ≤ n ∧ n ≤ k.max := by
  obtain ⟨n, rfl⟩ := okWide_int ht h
  refine ⟨n, rfl, ?_⟩
  simp only [Value.okWide, ht, Cell.okWide] at h
  simp only [Cell.ok, ht, IntKind.has] at h
  exact h.2
end
theorem rep_len {P : Program} {h : Nat → Option Obj} {β : Nat → Value} {H : List Blk} {nl : Bool} {els : List AV} {a : Option Addr} {len cap : Nat} (x : Rep P h β H (.sl nl els) (.slice a len cap)) : els.length = len := by
  cases x with
  | slnil => rfl
  | slemp => rfl
  | sl us h1 => exact h1.symm
theorem ownK : ownKnob Try.prog.godebug = none := by kernel_rfl
theorem oByte : Opens Try.prog 5 1 (fun a : {n : Int // IntKind.u8.min ≤ n ∧ n ≤ IntKind.u8.max} => [AV.int .u8 a.1]) := .int (by kernel_rfl) (by kernel_rfl)
theorem oBytes : Opens Try.prog 22 1 (fun p : Bool × List Int => [AV.sl p.1 (bytes p.2)]) :=
  (Opens.slice (t := 22) (by kernel_rfl) (by kernel_rfl) oByte (by decide) (fun a => .int .u8 a.1) (fun _ => rfl)).as (fun p => ⟨(p.1.1, p.1.2.map (·.1)), by simp [bytes]⟩) (fun _ => rfl)
end GA
end

section
namespace GA
open Go Go.RowKit Go.Proofs
set_option maxRecDepth 8000
set_option linter.unusedVariables false
set_option linter.unusedSimpArgs false

theorem bit_ext {a b : Nat} (h : ∀ i, a.testBit i = b.testBit i) : a = b := Nat.eq_of_testBit_eq h
theorem Sub.refl (a : Nat) : Sub a a := fun _ h => h
theorem Sub.trans {a b c : Nat} (h : Sub a b) (k : Sub b c) : Sub a c := fun i x => k i (h i x)
theorem sub_half {a m : Nat} (h : Sub a m) : Sub (a / 2) (m / 2) := fun i x => by
  have := h (i + 1) (by rw [Nat.testBit_succ]; exact x)
  rwa [Nat.testBit_succ] at this
theorem sub_odd {a m : Nat} (h : Sub a m) : a % 2 ≤ m % 2 := by
  have := h 0
  simp only [Nat.testBit_zero, decide_eq_true_eq] at this
  omega
theorem and_half (a b : Nat) : (a &&& b) = 2 * ((a / 2) &&& (b / 2)) + ((a % 2) * (b % 2)) := by
  have h1 : (a &&& b) / 2 = (a / 2) &&& (b / 2) := Nat.and_div_two
  have h2 : (a &&& b) % 2 = (a % 2) * (b % 2) := by
    have e : (a &&& b).testBit 0 = (a.testBit 0 && b.testBit 0) := Nat.testBit_and ..
    simp only [Nat.testBit_zero] at e
    rcases Nat.mod_two_eq_zero_or_one a with ha | ha <;> rcases Nat.mod_two_eq_zero_or_one b with hb | hb <;> rcases Nat.mod_two_eq_zero_or_one (a &&& b) with hc | hc <;> simp [ha, hb, hc] at e ⊢
  omega
theorem sub_and {a m : Nat} (h : Sub a m) : a &&& m = a := bit_ext fun i => by
  rw [Nat.testBit_and]; cases e : a.testBit i
  · rfl
  · rw [h i e]; rfl
/-- Of the sets within another one the greatest below one of them. -/
theorem sub_pred : ∀ (rest r m : Nat), Sub rest m → Sub r m → r < rest → r ≤ (rest - 1) &&& m := by
  intro rest
  induction rest using Nat.strongRecOn with
  | ind rest ih =>
    intro r m h1 h2 h3
    rw [and_half]
    have o2 := sub_odd h2
    rcases Nat.mod_two_eq_zero_or_one rest with hx | hx
    · have e1 : (rest - 1) / 2 = rest / 2 - 1 := by omega
      have e2 : (rest - 1) % 2 = 1 := by omega
      have := ih (rest / 2) (by omega) (r / 2) (m / 2) (sub_half h1) (sub_half h2) (by omega)
      rw [e1, e2]; omega
    · have e1 : (rest - 1) / 2 = rest / 2 := by omega
      have e2 : (rest - 1) % 2 = 0 := by omega
      rw [e1, e2, sub_and (sub_half h1)]; omega
theorem diff_and (a s l : Nat) : diff (a &&& s) l = a &&& diff s l := bit_ext fun i => by
  rw [diff_bit, Nat.testBit_and, Nat.testBit_and, diff_bit]; cases a.testBit i <;> cases s.testBit i <;> rfl
theorem sub_diff (s c : Nat) : Sub (diff s c) s := fun i h => by rw [diff_bit, Bool.and_eq_true] at h; exact h.1
theorem cartsF_all (d : Dk) (set : Nat) : ∀ (f rest : Nat), rest < f → Sub rest (diff set (lowb set)) → ∀ r, Sub r (diff set (lowb set)) → r ≤ rest → rightB d (r ||| lowb set) = true → r ||| lowb set ∈ cartsF d set f rest
  | 0, _, h, _, _, _, _, _ => absurd h (Nat.not_lt_zero _)
  | f + 1, rest, hf, hr, r, h1, h2, h3 => by
    rw [cartsF_succ, List.mem_append]
    by_cases he : r = rest
    · subst he; left; rw [if_pos h3]; exact List.mem_singleton.2 rfl
    · right
      rw [if_neg (by omega)]
      have e := sub_pred rest r _ hr h1 (by omega)
      rw [diff_and]
      have hle : (rest - 1) &&& diff set (lowb set) ≤ rest - 1 := Nat.and_le_left
      exact cartsF_all d set f _ (by omega) (fun i h => by rw [Nat.testBit_and, Bool.and_eq_true] at h; exact h.2) r h1 e h3
theorem lowb_one_all : ∀ s : Fin 512, s.val ≠ 0 → ∃ i : Fin 9, lowb s.val = 2 ^ i.val := by decide +kernel
theorem lowb_one {s : Nat} (h0 : s ≠ 0) (h : s < 512) : ∃ i, i < 9 ∧ lowb s = 2 ^ i := by
  obtain ⟨i, hi⟩ := lowb_one_all ⟨s, h⟩ h0
  exact ⟨i.val, i.isLt, hi⟩
theorem sub_pow {i c : Nat} : Sub (2 ^ i) c ↔ c.testBit i = true := by
  constructor
  · intro h; exact h i (by rw [Nat.testBit_two_pow_self])
  · intro h j hj; rw [Nat.testBit_two_pow, decide_eq_true_eq] at hj; subst hj; exact h
theorem carts_iff (d : Dk) {set c : Nat} (h9 : set < 512) : c ∈ cartsL d set ↔ Sub c set ∧ Sub (lowb set) c ∧ rightB d c = true := by
  refine ⟨carts_sub d, fun ⟨h1, h2, h3⟩ => ?_⟩
  have e : diff c (lowb set) ||| lowb set = c := bit_ext fun i => by
    rw [Nat.testBit_or, diff_bit]
    cases hc : c.testBit i
    · cases hl : (lowb set).testBit i
      · rfl
      · rw [h2 i hl] at hc; cases hc
    · cases hl : (lowb set).testBit i <;> rfl
  have hs : Sub (diff c (lowb set)) (diff set (lowb set)) := fun i h => by
    rw [diff_bit, Bool.and_eq_true] at h ⊢; exact ⟨h1 i h.1, h.2⟩
  have := cartsF_all d set 512 (diff set (lowb set)) (by have := diff_le set (lowb set); omega) (Sub.refl _) (diff c (lowb set)) hs hs.le (by rw [e]; exact h3)
  rw [e] at this; exact this

/-- A set can be split into so many right carts, none of them empty. -/
inductive Pk (R : Nat → Bool) : Nat → Nat → Prop
  | nil : Pk R 0 0
  | cons {n set : Nat} (c : Nat) (hr : R c = true) (hs : Sub c set) (h0 : c ≠ 0) (t : Pk R n (diff set c)) : Pk R (n + 1) set
theorem diff_diff (s a b : Nat) : diff (diff s a) b = diff (diff s b) a := bit_ext fun i => by
  simp only [diff_bit]; cases s.testBit i <;> cases a.testBit i <;> cases b.testBit i <;> rfl
theorem ne_zero_bit {c i : Nat} (h : c.testBit i = true) : c ≠ 0 := fun e => by rw [e, Nat.zero_testBit] at h; cases h
theorem Pk.first {R : Nat → Bool} {n set i : Nat} (h : Pk R n set) (hi : set.testBit i = true) : ∃ c k, n = k + 1 ∧ R c = true ∧ Sub c set ∧ c.testBit i = true ∧ Pk R k (diff set c) := by
  induction h with
  | nil => rw [Nat.zero_testBit] at hi; cases hi
  | @cons n set c hr hs h0 t ih =>
    cases hc : c.testBit i
    · obtain ⟨c', k, h1, h2, h3, h4, h5⟩ := ih (by rw [diff_bit, hi, hc]; rfl)
      subst h1
      refine ⟨c', k + 1, rfl, h2, h3.trans (sub_diff _ _), h4, .cons c hr (fun j hj => ?_) h0 (by rw [diff_diff]; exact h5)⟩
      rw [diff_bit, hs j hj]
      cases hc' : c'.testBit j
      · rfl
      · have := h3 j hc'; rw [diff_bit, hj, Bool.not_true, Bool.and_false] at this; cases this
    · exact ⟨c, n, rfl, hr, hs, hc, t⟩
theorem Pk.zero {R : Nat → Bool} {n : Nat} (h : Pk R n 0) : n = 0 := by
  cases h with
  | nil => rfl
  | cons c hr hs h0 t => exact absurd (Nat.le_zero.1 hs.le) h0
theorem Pk.none {R : Nat → Bool} {set : Nat} (h : Pk R 0 set) : set = 0 := by cases h; rfl
theorem Pk.mono {R R' : Nat → Bool} {n set : Nat} (h : Pk R n set) (hR : ∀ c, Sub c set → R c = true → R' c = true) : Pk R' n set := by
  induction h with
  | nil => exact .nil
  | cons c hr hs h0 t ih => exact .cons c (hR c hs hr) hs h0 (ih fun c' hc' => hR c' (hc'.trans (sub_diff _ _)))
/-- The least number of carts; ten if there is none. -/
structure IsOpt (R : Nat → Bool) (set v : Nat) : Prop where
  le : v ≤ 10
  lo : ∀ n, Pk R n set → v ≤ n
  is : v < 10 → Pk R v set
theorem IsOpt.eq {R : Nat → Bool} {set v v' : Nat} (h : IsOpt R set v) (h' : IsOpt R set v') : v = v' := by
  rcases Nat.lt_trichotomy v v' with hl | hl | hl
  · have := h'.lo v (h.is (by have := h'.le; omega)); omega
  · exact hl
  · have := h.lo v' (h'.is (by have := h.le; omega)); omega
def MemOk (R : Nat → Bool) (m : List (Int × Nat)) : Prop := ∀ (s : Nat) v, look (s : Int) m = some v → IsOpt R s v
theorem ofM_opt (d : Dk) : ∀ (f set : Nat) (m : List (Int × Nat)), set < f → set < 512 → MOk m → MemOk (rightB d) m → IsOpt (rightB d) set (ofM d f set m).1 ∧ MemOk (rightB d) (ofM d f set m).2
  | 0, _, _, h, _, _, _ => absurd h (Nat.not_lt_zero _)
  | f + 1, set, m, hf, h9, mo, me => by
    rw [ofM_succ]
    cases hl : look (set : Int) m with
    | some v => exact ⟨me set v hl, me⟩
    | none =>
      have h0 : set ≠ 0 := fun e => by subst e; rw [show ((0 : Nat) : Int) = 0 from rfl, mo.z] at hl; cases hl
      obtain ⟨i, _, hi⟩ := lowb_one h0 h9
      have hbit : set.testBit i = true := sub_pow.1 (hi ▸ lowb_sub set)
      have fold : ∀ (cs : List Nat) (p : Nat × List (Int × Nat)), (∀ c ∈ cs, c ∈ cartsL d set) → p.1 ≤ 10 → (p.1 < 10 → Pk (rightB d) p.1 set) → MOk p.2 → MemOk (rightB d) p.2 →
          ((cs.foldl (ofStep d f set) p).1 ≤ 10 ∧ ((cs.foldl (ofStep d f set) p).1 < 10 → Pk (rightB d) (cs.foldl (ofStep d f set) p).1 set) ∧ (cs.foldl (ofStep d f set) p).1 ≤ p.1 ∧ (∀ c ∈ cs, ∀ n, Pk (rightB d) n (diff set c) → (cs.foldl (ofStep d f set) p).1 ≤ n + 1)) ∧
          MemOk (rightB d) (cs.foldl (ofStep d f set) p).2 := by
        intro cs
        induction cs with
        | nil => intro p _ h1 h2 h3 h4; exact ⟨⟨h1, h2, Nat.le_refl _, by simp⟩, h4⟩
        | cons c cs ih =>
          intro p hc h1 h2 h3 h4
          rw [List.foldl_cons]
          have hm := hc c List.mem_cons_self
          obtain ⟨k1, k2, k3⟩ := carts_sub d hm
          obtain ⟨hlt, hc9⟩ := carts_lt d (by omega) h9 hm
          obtain ⟨g1, g2⟩ := ofM_opt d f (diff set c) p.2 (by omega) (by omega) h3 h4
          obtain ⟨g3, g4⟩ := ofM_ok d f (diff set c) p.2 h3
          obtain ⟨⟨a1, a2, a3, a4⟩, a5⟩ := ih (ofStep d f set p c) (fun x hx => hc x (List.mem_cons_of_mem _ hx)) (by simp only [ofStep]; omega) (fun hlt10 => by
            simp only [ofStep] at hlt10 ⊢
            rcases Nat.le_total p.1 ((ofM d f (diff set c) p.2).1 + 1) with hle | hle
            · rw [Nat.min_eq_left hle] at hlt10 ⊢; exact h2 hlt10
            · rw [Nat.min_eq_right hle] at hlt10 ⊢
              exact .cons c k3 k1 (ne_zero_bit (k2 i (by rw [hi, Nat.testBit_two_pow_self]))) (g1.is (by omega))) g4 g2
          refine ⟨⟨a1, a2, ?_, ?_⟩, a5⟩
          · exact Nat.le_trans a3 (Nat.min_le_left _ _)
          · intro x hx n hn
            rcases List.mem_cons.1 hx with rfl | hx
            · have := g1.lo n hn; have h5 := Nat.le_trans a3 (Nat.min_le_right _ _); omega
            · exact a4 x hx n hn
      obtain ⟨⟨a1, a2, _, a4⟩, a5⟩ := fold (cartsL d set) (10, m) (fun _ h => h) (Nat.le_refl 10) (fun h => absurd h (by simp)) mo me
      have hopt : IsOpt (rightB d) set ((cartsL d set).foldl (ofStep d f set) (10, m)).1 := ⟨a1, fun n hn => by
        obtain ⟨c, k, rfl, h1, h2, h3, h4⟩ := hn.first hbit
        exact a4 c ((carts_iff d h9).2 ⟨h2, hi ▸ sub_pow.2 h3, h1⟩) k h4, a2⟩
      refine ⟨hopt, fun s v e => ?_⟩
      rw [look_put] at e
      split at e
      · rename_i he; cases e; have : s = set := by omega
        subst this; exact hopt
      · exact a5 s v e
theorem memOk_zero (R : Nat → Bool) : MemOk R [(0, 0)] := fun s v h => by
  simp only [look] at h
  split at h
  · rename_i e; cases h; have : s = 0 := by omega
    subst this; exact ⟨by omega, fun _ _ => Nat.zero_le _, fun _ => .nil⟩
  · cases h
theorem many_opt (d : Dk) (h : d.l.sacks.length ≤ 9) : IsOpt (rightB d) (allD d) (manyD d) := by
  have hall : allD d < 512 := by have := pow9 h; unfold allD; omega
  exact (ofM_opt d 512 (allD d) _ hall hall MOk.zero (memOk_zero _)).1
end GA
end

section
namespace GA
open Go Go.RowKit Go.Proofs
set_option maxRecDepth 8000
set_option linter.unusedVariables false
set_option linter.unusedSimpArgs false

theorem bitsF_iff : ∀ (f i s : Nat), s < 2 ^ f → ∀ x : Int, x ∈ bitsF f i s ↔ ∃ j : Nat, x = ((i + j : Nat) : Int) ∧ s.testBit j = true
  | 0, i, s, h, x => by
    have : s = 0 := by simpa using h
    subst this
    simp [bitsF]
  | f + 1, i, s, h, x => by
    have ih := bitsF_iff f (i + 1) (s / 2) (by rw [Nat.pow_succ] at h; omega) x
    have hz : (∃ j : Nat, x = ((i + j : Nat) : Int) ∧ s.testBit j = true) ↔ (x = (i : Int) ∧ s % 2 = 1) ∨ ∃ j : Nat, x = ((i + 1 + j : Nat) : Int) ∧ (s / 2).testBit j = true := by
      constructor
      · rintro ⟨j, h1, h2⟩
        rcases j with _ | j
        · left; rw [Nat.testBit_zero, decide_eq_true_eq] at h2; exact ⟨by simpa using h1, h2⟩
        · right; rw [Nat.testBit_succ] at h2; exact ⟨j, by rw [h1]; congr 1; omega, h2⟩
      · rintro (⟨h1, h2⟩ | ⟨j, h1, h2⟩)
        · exact ⟨0, by simpa using h1, by rw [Nat.testBit_zero, decide_eq_true_eq]; exact h2⟩
        · exact ⟨j + 1, by rw [h1]; congr 1; omega, by rw [Nat.testBit_succ]; exact h2⟩
    rw [hz, ← ih]
    have e : bitsF (f + 1) i s = if s = 0 then [] else if s % 2 = 1 then (i : Int) :: bitsF f (i + 1) (s / 2) else bitsF f (i + 1) (s / 2) := rfl
    rw [e]
    split
    · rename_i h0; subst h0; rw [Nat.zero_div, bitsF_zero]; simp
    · split
      · rename_i h1; rw [List.mem_cons]; simp [h1]
      · rename_i h1; simp [h1]
theorem bits_iff {s : Nat} (h : s < 512) (x : Int) : x ∈ bits s ↔ ∃ j : Nat, x = (j : Int) ∧ s.testBit j = true := by
  have := bitsF_iff 62 0 s (by omega) x
  unfold bits
  simpa using this
theorem inSet_bit (set : Nat) (p : Int) : inSet set p = set.testBit p.toNat := by
  unfold inSet; rw [Nat.testBit_eq_decide_div_mod_eq]
  rcases Nat.mod_two_eq_zero_or_one (set / 2 ^ p.toNat) with h | h <;> rw [h] <;> rfl
theorem diff_zero {a b : Nat} : diff a b = 0 ↔ Sub a b := by
  constructor
  · intro h i hi
    cases hb : b.testBit i
    · have := diff_bit a b i; rw [h, hi, hb, Nat.zero_testBit] at this; cases this
    · rfl
  · intro h
    apply bit_ext; intro i
    rw [diff_bit, Nat.zero_testBit]
    cases ha : a.testBit i
    · rfl
    · rw [h i ha]; rfl
def allP (b : List Nat) (p : Int × Int) : Nat := b.getD p.1.toNat 0 ||| b.getD p.2.toNat 0
theorem joinStep_get (b : List Nat) (p : Int × Int) {i : Nat} (hi : i < b.length) : (joinStep b p).getD i 0 = if (allP b p).testBit i = true then b.getD i 0 ||| allP b p else b.getD i 0 := by
  have e : (allP b p).testBit i = decide ((b.getD p.1.toNat 0 ||| b.getD p.2.toNat 0) / 2 ^ i % 2 = 1) := Nat.testBit_eq_decide_div_mod_eq
  rw [e]
  unfold joinStep allP
  simp only [List.getD_eq_getElem?_getD, List.getElem?_mapIdx, List.getElem?_eq_getElem hi, Option.map_some, Option.getD_some, decide_eq_true_eq]
theorem joinStep_none (b : List Nat) (p : Int × Int) {i : Nat} (hi : ¬ i < b.length) : (joinStep b p).getD i 0 = 0 := by
  rw [List.getD_eq_getElem?_getD, List.getElem?_eq_none (by rw [joinStep_len]; omega)]; rfl
theorem joinStep_sub (b : List Nat) (p : Int × Int) (i : Nat) : Sub (b.getD i 0) ((joinStep b p).getD i 0) := by
  by_cases hi : i < b.length
  · rw [joinStep_get b p hi]; split
    · intro j hj; rw [Nat.testBit_or, hj]; rfl
    · exact Sub.refl _
  · rw [List.getD_eq_getElem?_getD, List.getElem?_eq_none (by omega)]; exact Sub.zero _
theorem foldl_sub : ∀ (ps : List (Int × Int)) (b : List Nat) (i : Nat), Sub (b.getD i 0) ((ps.foldl joinStep b).getD i 0)
  | [], _, _ => Sub.refl _
  | p :: ps, b, i => by rw [List.foldl_cons]; exact (joinStep_sub b p i).trans (foldl_sub ps _ i)
theorem closeF_sub (l : Ld) : ∀ (n : Nat) (b : List Nat) (i : Nat), Sub (b.getD i 0) ((closeF l n b).getD i 0)
  | 0, _, _ => Sub.refl _
  | n + 1, b, i => by
    show Sub _ ((if joinR l b = b then b else closeF l n (joinR l b)).getD i 0)
    split
    · exact Sub.refl _
    · exact (foldl_sub _ b i).trans (closeF_sub l n _ i)
theorem closeF_fix (l : Ld) : ∀ (n : Nat) (b : List Nat), msr b < n → (∀ i, b.getD i 0 < 512) → joinR l (closeF l n b) = closeF l n b
  | 0, _, h, _ => absurd h (Nat.not_lt_zero _)
  | n + 1, b, h, hs => by
    show joinR l (if joinR l b = b then b else closeF l n (joinR l b)) = if joinR l b = b then b else closeF l n (joinR l b)
    split
    · assumption
    · rename_i hne
      have := msr_lt b (joinR l b) (joinR_len l b).symm (joinR_ge l b) (joinR_small l b hs) (Ne.symm hne)
      exact closeF_fix l n _ (by omega) (joinR_small l b hs)
theorem foldl_fix : ∀ (ps : List (Int × Int)) (b : List Nat), ps.foldl joinStep b = b → ∀ p ∈ ps, joinStep b p = b
  | [], _, _, _, h => by simp at h
  | q :: ps, b, h, p, hp => by
    rw [List.foldl_cons] at h
    have hq : joinStep b q = b := by
      refine eq_of_getD (d := 0) (joinStep_len b q) fun j _ => ?_
      have h1 := joinStep_ge b q j
      have h2 := foldl_ge ps (joinStep b q) j
      rw [h] at h2; omega
    rcases List.mem_cons.1 hp with rfl | hp
    · exact hq
    · rw [hq] at h; exact foldl_fix ps b h p hp
/-- Both sacks of each pair, or none. -/
def Cl (l : Ld) (c : Nat) : Prop := ∀ p ∈ l.wth, c.testBit p.1.toNat = c.testBit p.2.toNat
/-- Each bundle lies in a set, or beside it. -/
def Inv (c : Nat) (b : List Nat) : Prop := ∀ i, (c.testBit i = true → Sub (b.getD i 0) c) ∧ (c.testBit i = false → ∀ j, (b.getD i 0).testBit j = true → c.testBit j = false)
theorem Inv.step {c : Nat} {b : List Nat} {p : Int × Int} (h : Inv c b) (hp : c.testBit p.1.toNat = c.testBit p.2.toNat) : Inv c (joinStep b p) := by
  intro i
  by_cases hi : i < b.length
  · rw [joinStep_get b p hi]
    split
    · rename_i ha
      unfold allP at ha ⊢
      cases h1 : c.testBit p.1.toNat
      · have k1 := (h p.1.toNat).2 h1
        have k2 := (h p.2.toNat).2 (hp ▸ h1)
        have hci : c.testBit i = false := by
          rw [Nat.testBit_or, Bool.or_eq_true] at ha
          exact ha.elim (k1 i) (k2 i)
        refine ⟨fun e => (by rw [hci] at e; cases e), fun _ j hj => ?_⟩
        rw [Nat.testBit_or, Nat.testBit_or, Bool.or_eq_true, Bool.or_eq_true] at hj
        rcases hj with hj | hj | hj
        · exact (h i).2 hci j hj
        · exact k1 j hj
        · exact k2 j hj
      · have k1 := (h p.1.toNat).1 h1
        have k2 := (h p.2.toNat).1 (hp ▸ h1)
        have hci : c.testBit i = true := by
          rw [Nat.testBit_or, Bool.or_eq_true] at ha
          exact ha.elim (k1 i) (k2 i)
        refine ⟨fun _ j hj => ?_, fun e => (by rw [hci] at e; cases e)⟩
        rw [Nat.testBit_or, Nat.testBit_or, Bool.or_eq_true, Bool.or_eq_true] at hj
        rcases hj with hj | hj | hj
        · exact (h i).1 hci j hj
        · exact k1 j hj
        · exact k2 j hj
    · exact h i
  · rw [joinStep_none b p hi]
    exact ⟨fun _ => Sub.zero _, fun _ j hj => by rw [Nat.zero_testBit] at hj; cases hj⟩
theorem Inv.fold {c : Nat} : ∀ (ps : List (Int × Int)) (b : List Nat), (∀ p ∈ ps, c.testBit p.1.toNat = c.testBit p.2.toNat) → Inv c b → Inv c (ps.foldl joinStep b)
  | [], _, _, h => h
  | p :: ps, b, hp, h => by rw [List.foldl_cons]; exact Inv.fold ps _ (fun q hq => hp q (List.mem_cons_of_mem _ hq)) (h.step (hp p List.mem_cons_self))
theorem Inv.close {l : Ld} {c : Nat} (hc : Cl l c) : ∀ (n : Nat) (b : List Nat), Inv c b → Inv c (closeF l n b)
  | 0, _, h => h
  | n + 1, b, h => by
    show Inv c (if joinR l b = b then b else closeF l n (joinR l b))
    split
    · exact h
    · exact Inv.close hc n _ (Inv.fold _ _ hc h)
theorem ndI_get {n i : Nat} (hi : i < 9) : (ndI n).getD i 0 = if i < n then 2 ^ i else 0 := by
  unfold ndI; rw [List.getD_eq_getElem?_getD, List.getElem?_map, List.getElem?_range hi]; rfl
theorem Inv.zero (c n : Nat) : Inv c (ndI n) := by
  intro i
  by_cases hi : i < 9
  · rw [ndI_get hi]
    split
    · refine ⟨fun h => sub_pow.2 h, fun h j hj => ?_⟩
      rw [Nat.testBit_two_pow, decide_eq_true_eq] at hj; subst hj; exact h
    · exact ⟨fun _ => Sub.zero _, fun _ j hj => by rw [Nat.zero_testBit] at hj; cases hj⟩
  · rw [List.getD_eq_getElem?_getD, List.getElem?_eq_none (by rw [ndI_len]; omega)]
    exact ⟨fun _ => Sub.zero _, fun _ j hj => by rw [Option.getD_none, Nat.zero_testBit] at hj; cases hj⟩
/-- Bundles: each sack's own, closed, and the least that is. -/
theorem nd_self {l : Ld} (o : LdOk l) {i : Nat} (hi : i < l.sacks.length) : ((openD l).nd.getD i 0).testBit i = true := by
  refine closeF_sub l 5000 (ndI l.sacks.length) i i ?_
  rw [ndI_get (by have := o.n; omega), if_pos hi, Nat.testBit_two_pow_self]
theorem nd_least {l : Ld} {c : Nat} (hc : Cl l c) {i : Nat} (hi : c.testBit i = true) : Sub ((openD l).nd.getD i 0) c :=
  (Inv.close hc 5000 _ (Inv.zero c _) i).1 hi
theorem nd_fix {l : Ld} (o : LdOk l) : ∀ p ∈ l.wth, joinStep (openD l).nd p = (openD l).nd :=
  foldl_fix _ _ (closeF_fix l 5000 _ (by have := msr_le (ndI l.sacks.length) (ndI_len _); omega) (ndI_small _))
theorem nd_len {l : Ld} : (openD l).nd.length = 9 := by show (closeF l 5000 _).length = 9; rw [closeF_len, ndI_len]
/-- A cart that is right, without bundles. -/
structure RightP (l : Ld) (c : Nat) : Prop where
  w : (sumW (wts l) c : Int) ≤ l.bears
  wp : Cl l c
  ap : ∀ p ∈ l.apart, ¬ (c.testBit p.1.toNat = true ∧ c.testBit p.2.toNat = true)
theorem hv_get {l : Ld} (o : LdOk l) {c : Nat} (hc : c < 2 ^ l.sacks.length) : (openD l).hv.getD c 0 = sumW (wts l) c := by
  have := pow9 o.n
  show (hvF (wts l) (2 ^ l.sacks.length)).getD c 0 = _
  rw [hvF_get (by omega), if_pos hc]
theorem whole_iff {l : Ld} (o : LdOk l) {c : Nat} (hc : c < 2 ^ l.sacks.length) : wholeB (openD l) c = true ↔ Cl l c ∧ ∀ p ∈ l.apart, ¬ (c.testBit p.1.toNat = true ∧ c.testBit p.2.toNat = true) := by
  have h9 := pow9 o.n
  have hn := o.n
  have hw : ((bits c).all fun i => diff ((openD l).nd.getD i.toNat 0) c == 0) = true ↔ ∀ i : Nat, c.testBit i = true → Sub ((openD l).nd.getD i 0) c := by
    rw [List.all_eq_true]
    constructor
    · intro h i hi
      have := h (i : Int) ((bits_iff (by omega) _).2 ⟨i, rfl, hi⟩)
      rw [beq_iff_eq] at this; exact diff_zero.1 this
    · intro h x hx
      obtain ⟨j, rfl, hj⟩ := (bits_iff (by omega) _).1 hx
      rw [beq_iff_eq]; exact diff_zero.2 (h j hj)
  have ha : (l.apart.all fun p => !inSet c p.1 || !inSet c p.2) = true ↔ ∀ p ∈ l.apart, ¬ (c.testBit p.1.toNat = true ∧ c.testBit p.2.toNat = true) := by
    rw [List.all_eq_true]
    constructor
    · intro h p hp
      have := h p hp
      simp only [inSet_bit] at this
      rintro ⟨h1, h2⟩
      rw [h1, h2] at this; cases this
    · intro h p hp
      have := h p hp
      simp only [inSet_bit]
      cases h1 : c.testBit p.1.toNat
      · rfl
      · cases h2 : c.testBit p.2.toNat
        · rfl
        · exact absurd ⟨h1, h2⟩ this
  unfold wholeB
  rw [Bool.and_eq_true, hw]
  show _ ∧ (l.apart.all fun p => !inSet c p.1 || !inSet c p.2) = true ↔ _
  rw [ha]
  refine and_congr_left fun _ => ?_
  constructor
  · intro h p hp
    have b := o.wp p hp
    have e := nd_fix o p hp
    have k1 := nd_self o (i := p.1.toNat) (by omega)
    have k2 := nd_self o (i := p.2.toNat) (by omega)
    have g1 : (allP (openD l).nd p).testBit p.1.toNat = true := by unfold allP; rw [Nat.testBit_or, k1]; rfl
    have g2 : (allP (openD l).nd p).testBit p.2.toNat = true := by unfold allP; rw [Nat.testBit_or, k2, Bool.or_true]
    have e1 := joinStep_get (openD l).nd p (i := p.1.toNat) (by rw [nd_len]; omega)
    have e2 := joinStep_get (openD l).nd p (i := p.2.toNat) (by rw [nd_len]; omega)
    rw [e, if_pos g1] at e1
    rw [e, if_pos g2] at e2
    have s1 : c.testBit p.1.toNat = true → c.testBit p.2.toNat = true := fun hb => h _ hb _ (by rw [e1, Nat.testBit_or, g2, Bool.or_true])
    have s2 : c.testBit p.2.toNat = true → c.testBit p.1.toNat = true := fun hb => h _ hb _ (by rw [e2, Nat.testBit_or, g1, Bool.or_true])
    cases hb1 : c.testBit p.1.toNat
    · cases hb2 : c.testBit p.2.toNat
      · rfl
      · rw [s2 hb2] at hb1; cases hb1
    · rw [s1 hb1]
  · intro h i hi; exact nd_least h hi
theorem right_iff {l : Ld} (o : LdOk l) {c : Nat} (hc : c < 2 ^ l.sacks.length) : rightB (openD l) c = true ↔ RightP l c := by
  unfold rightB
  rw [Bool.and_eq_true, decide_eq_true_eq, hv_get o hc, whole_iff o hc]
  exact ⟨fun ⟨h1, h2, h3⟩ => ⟨h1, h2, h3⟩, fun h => ⟨h.w, h.wp, h.ap⟩⟩
end GA
end

section
namespace GA
open Go Go.RowKit Go.Proofs
set_option maxRecDepth 8000
set_option linter.unusedVariables false
set_option linter.unusedSimpArgs false

theorem diff_half (a b : Nat) : diff a b / 2 = diff (a / 2) (b / 2) := bit_ext fun i => by
  rw [← Nat.testBit_succ, diff_bit, diff_bit, Nat.testBit_succ, Nat.testBit_succ]
theorem diff_odd {a b : Nat} (h : Sub b a) : diff a b % 2 + b % 2 = a % 2 := by
  have e := diff_bit a b 0
  have hs := sub_odd h
  simp only [Nat.testBit_zero] at e
  rcases Nat.mod_two_eq_zero_or_one a with ha | ha <;> rcases Nat.mod_two_eq_zero_or_one b with hb | hb <;> rcases Nat.mod_two_eq_zero_or_one (diff a b) with hc | hc <;> simp [ha, hb, hc] at e hs ⊢
theorem sumW_split : ∀ (ws : List Nat) (s c : Nat), Sub c s → sumW ws (diff s c) + sumW ws c = sumW ws s
  | [], _, _, _ => rfl
  | w :: ws, s, c, h => by
    have ih := sumW_split ws (s / 2) (c / 2) (sub_half h)
    have ho := diff_odd h
    unfold sumW
    rw [diff_half]
    rcases Nat.mod_two_eq_zero_or_one s with ha | ha <;> rcases Nat.mod_two_eq_zero_or_one c with hb | hb <;> rcases Nat.mod_two_eq_zero_or_one (diff s c) with hc | hc <;> simp only [ha, hb, hc] at ho ⊢ <;> simp <;> omega
theorem sumW_le_of : ∀ (ws vs : List Nat) (s : Nat), ws.length = vs.length → (∀ i, ws.getD i 0 ≤ vs.getD i 0) → sumW ws s ≤ sumW vs s
  | [], [], _, _, _ => Nat.le_refl _
  | w :: ws, v :: vs, s, hl, h => by
    have h0 := h 0
    have := sumW_le_of ws vs (s / 2) (by simpa using hl) (fun i => by simpa using h (i + 1))
    simp only [List.getD_cons_zero] at h0
    unfold sumW; split <;> omega
  | [], _ :: _, _, hl, _ => by simp at hl
  | _ :: _, [], _, hl, _ => by simp at hl
theorem Pk.sum {R : Nat → Bool} {n set : Nat} (h : Pk R n set) (ws : List Nat) (k : Nat) (hR : ∀ c, Sub c set → R c = true → sumW ws c ≤ k) : sumW ws set ≤ n * k := by
  induction h with
  | nil => rw [sumW_zero]; exact Nat.zero_le _
  | @cons n set c hr hs h0 t ih =>
    have h1 := ih fun c' hc' => hR c' (hc'.trans (sub_diff _ _))
    have h2 := hR c hs hr
    have h3 := sumW_split ws set c hs
    rw [Nat.succ_mul]; omega
theorem ones_pos : ∀ (k c : Nat), c ≠ 0 → c < 2 ^ k → 1 ≤ sumW (List.replicate k 1) c
  | 0, c, h0, h => absurd (by simpa using h) h0
  | k + 1, c, h0, h => by
    show 1 ≤ sumW (1 :: List.replicate k 1) c
    unfold sumW
    rcases Nat.mod_two_eq_zero_or_one c with hc | hc
    · have := ones_pos k (c / 2) (by omega) (by rw [Nat.pow_succ] at h; omega)
      omega
    · rw [if_pos hc]; omega
theorem Pk.count {R : Nat → Bool} {n set k : Nat} (h : Pk R n set) (hs : set < 2 ^ k) : n ≤ sumW (List.replicate k 1) set := by
  induction h with
  | nil => exact Nat.zero_le _
  | @cons n set c hr hsb h0 t ih =>
    have h1 := ih (Nat.lt_of_le_of_lt (diff_le _ _) hs)
    have h2 := ones_pos k c h0 (Nat.lt_of_le_of_lt hsb.le hs)
    have h3 := sumW_split (List.replicate k 1) set c hsb
    omega
theorem ones_le (k set : Nat) : sumW (List.replicate k 1) set ≤ k := by
  induction k generalizing set with
  | zero => exact Nat.zero_le _
  | succ k ih =>
    show sumW (1 :: List.replicate k 1) set ≤ _
    have := ih (set / 2)
    unfold sumW; split <;> omega
theorem Pk.len {R : Nat → Bool} {n k : Nat} (h : Pk R n (2 ^ k - 1)) : n ≤ k := by
  have hp := Nat.two_pow_pos k
  have := h.count (k := k) (by omega)
  have := ones_le k (2 ^ k - 1)
  omega
/-- Carts that are right for one load are right for another one: no more of them are needed. -/
theorem many_le {l u : Ld} (ol : LdOk l) (ou : LdOk u) (hn : u.sacks.length = l.sacks.length) (hR : ∀ c, c < 2 ^ l.sacks.length → RightP l c → RightP u c) : manyD (openD u) ≤ manyD (openD l) := by
  have a := many_opt (openD l) ol.n
  have b := many_opt (openD u) ou.n
  rcases Nat.lt_or_ge (manyD (openD l)) 10 with h | h
  · refine b.lo _ ?_
    have e : allD (openD u) = allD (openD l) := by show 2 ^ u.sacks.length - 1 = 2 ^ l.sacks.length - 1; rw [hn]
    rw [e]
    refine (a.is h).mono fun c hc hr => ?_
    have hlt : c < 2 ^ l.sacks.length := by
      have := hc.le; have := Nat.two_pow_pos l.sacks.length
      have : c ≤ 2 ^ l.sacks.length - 1 := hc.le
      omega
    exact (right_iff ou (by rw [hn]; exact hlt)).2 (hR c hlt ((right_iff ol hlt).1 hr))
  · have := b.le; omega
theorem many_len {l : Ld} (ol : LdOk l) (h : manyD (openD l) < 10) : manyD (openD l) ≤ l.sacks.length :=
  ((many_opt (openD l) ol.n).is h).len
/-- A set without its first sack. -/
theorem Pk.tail {R R' : Nat → Bool} (hR : ∀ c, R c = true → R' (c / 2) = true) {n set : Nat} (h : Pk R n set) : ∃ k, k ≤ n ∧ Pk R' k (set / 2) := by
  induction h with
  | nil => exact ⟨0, Nat.le_refl _, .nil⟩
  | @cons n set c hr hs h0 t ih =>
    obtain ⟨k, hk, hp⟩ := ih
    rw [diff_half] at hp
    by_cases hc : c / 2 = 0
    · refine ⟨k, by omega, ?_⟩
      have e : diff (set / 2) (c / 2) = set / 2 := by
        rw [hc]; exact bit_ext fun i => by rw [diff_bit, Nat.zero_testBit]; cases (set / 2).testBit i <;> rfl
      rwa [e] at hp
    · exact ⟨k + 1, by omega, .cons (c / 2) (hR c hr) (sub_half hs) hc hp⟩
theorem diff_dbl (s c : Nat) : diff (2 * s + 1) (2 * c) = 2 * diff s c + 1 := bit_ext fun i => by
  rw [diff_bit]
  rcases i with _ | i
  · simp only [Nat.testBit_zero]; rw [show (2 * s + 1) % 2 = 1 by omega, show 2 * c % 2 = 0 by omega, show (2 * diff s c + 1) % 2 = 1 by omega]; rfl
  · simp only [Nat.testBit_succ]; rw [show (2 * s + 1) / 2 = s by omega, show 2 * c / 2 = c by omega, show (2 * diff s c + 1) / 2 = diff s c by omega, diff_bit]
theorem Pk.lift {R R' : Nat → Bool} (h1 : R 1 = true) (hR : ∀ c, R' c = true → R (2 * c) = true) {n set : Nat} (h : Pk R' n set) : Pk R (n + 1) (2 * set + 1) := by
  induction h with
  | nil =>
    refine .cons 1 h1 (Sub.refl _) (by omega) ?_
    have e : diff (2 * 0 + 1) 1 = 0 := by decide
    rw [e]; exact .nil
  | @cons n set c hr hs h0 t ih =>
    refine .cons (2 * c) (hR c hr) (fun i hi => ?_) (by omega) (by rw [diff_dbl]; exact ih)
    rcases i with _ | i
    · simp only [Nat.testBit_zero]; simp
    · rw [Nat.testBit_succ] at hi ⊢
      rw [show 2 * c / 2 = c by omega] at hi
      rw [show (2 * set + 1) / 2 = set by omega]
      exact hs i hi
theorem sumW_ge : ∀ (ws : List Nat) (c : Nat), c.testBit 0 = true → ws.getD 0 0 ≤ sumW ws c
  | [], _, _ => by simp
  | w :: ws, c, h => by
    rw [Nat.testBit_zero, decide_eq_true_eq] at h
    unfold sumW; rw [if_pos h]; simp
theorem RightP.free {l : Ld} (ha : l.apart = []) (hw : l.wth = []) {c : Nat} : RightP l c ↔ (sumW (wts l) c : Int) ≤ l.bears :=
  ⟨fun h => h.w, fun h => ⟨h, fun p hp => by rw [hw] at hp; simp at hp, fun p hp => by rw [ha] at hp; simp at hp⟩⟩
/-- One sack less, of a load without pairs. -/
theorem many_tail {l u : Ld} (ol : LdOk l) (ou : LdOk u) (ha : l.apart = []) (hw : l.wth = []) (hua : u.apart = []) (huw : u.wth = []) (hb : u.bears = l.bears) {s : Sk} (hs : l.sacks = s :: u.sacks) (hsh : u.shrink = l.shrink) (h10 : manyD (openD l) < 10) :
    manyD (openD u) ≤ manyD (openD l) ∧ manyD (openD l) ≤ manyD (openD u) + 1 := by
  have a := many_opt (openD l) ol.n
  have b := many_opt (openD u) ou.n
  have hn : l.sacks.length = u.sacks.length + 1 := by rw [hs]; rfl
  have hp := Nat.two_pow_pos u.sacks.length
  have hall : allD (openD l) = 2 * allD (openD u) + 1 := by
    show 2 ^ l.sacks.length - 1 = 2 * (2 ^ u.sacks.length - 1) + 1
    rw [hn, Nat.pow_succ]; omega
  have hall2 : allD (openD l) / 2 = allD (openD u) := by omega
  have hwt : wts l = wt l s :: wts u := by
    unfold wts; rw [hs, List.map_cons]; congr 1
    apply List.map_congr_left; intro x _; unfold wt weightR; rw [hsh]
  have hPl := a.is h10
  have rl : ∀ c, c < 2 ^ l.sacks.length → (rightB (openD l) c = true ↔ (sumW (wts l) c : Int) ≤ l.bears) := fun c hc => (right_iff ol hc).trans (RightP.free ha hw)
  have ru : ∀ c, c < 2 ^ u.sacks.length → (rightB (openD u) c = true ↔ (sumW (wts u) c : Int) ≤ u.bears) := fun c hc => (right_iff ou hc).trans (RightP.free hua huw)
  have hw1 : (wt l s : Int) ≤ l.bears := by
    obtain ⟨c, k, _, h2, h3, h4, _⟩ := hPl.first (i := 0) (by rw [hall, Nat.testBit_zero, decide_eq_true_eq]; omega)
    have hlt : c < 2 ^ l.sacks.length := by have := h3.le; rw [hn, Nat.pow_succ]; show c < _; have : c ≤ 2 * (2 ^ u.sacks.length - 1) + 1 := hall ▸ h3.le; omega
    have h5 := (rl c hlt).1 h2
    have h6 := sumW_ge (wts l) c h4
    rw [hwt, List.getD_cons_zero] at h6
    rw [hwt] at h5; omega
  constructor
  · have hR : ∀ c, (fun c => rightB (openD l) c && decide (c < 2 ^ l.sacks.length)) c = true → rightB (openD u) (c / 2) = true := by
      intro c hc
      simp only [Bool.and_eq_true, decide_eq_true_eq] at hc
      refine (ru _ (by rw [hn, Nat.pow_succ] at hc; omega)).2 ?_
      have := (rl c hc.2).1 hc.1
      rw [hwt] at this; unfold sumW at this; rw [hb]
      split at this <;> omega
    obtain ⟨k, hk, hp2⟩ := Pk.tail hR (hPl.mono fun c hc hr => by
      simp only [Bool.and_eq_true, decide_eq_true_eq]
      refine ⟨hr, ?_⟩
      have : c ≤ 2 * (2 ^ u.sacks.length - 1) + 1 := hall ▸ hc.le
      rw [hn, Nat.pow_succ]; omega)
    rw [hall2] at hp2
    have := b.lo k hp2; omega
  · rcases Nat.lt_or_ge (manyD (openD u)) 10 with h | h
    · have hPu := b.is h
      have h1 : (fun c => rightB (openD l) c) 1 = true := (rl 1 (by rw [hn, Nat.pow_succ]; omega)).2 (by
        rw [hwt]
        have : sumW (wt l s :: wts u) 1 = wt l s + sumW (wts u) 0 := rfl
        rw [this, sumW_zero]; exact hw1)
      have hR : ∀ c, (fun c => rightB (openD u) c && decide (c < 2 ^ u.sacks.length)) c = true → rightB (openD l) (2 * c) = true := by
        intro c hc
        simp only [Bool.and_eq_true, decide_eq_true_eq] at hc
        refine (rl _ (by rw [hn, Nat.pow_succ]; omega)).2 ?_
        have := (ru c hc.2).1 hc.1
        rw [hwt]; unfold sumW
        rw [if_neg (by omega), show 2 * c / 2 = c by omega, ← hb]; omega
      have := Pk.lift h1 hR (hPu.mono fun c hc hr => by
        simp only [Bool.and_eq_true, decide_eq_true_eq]
        refine ⟨hr, ?_⟩
        have : c ≤ 2 ^ u.sacks.length - 1 := hc.le
        omega)
      rw [← hall] at this
      exact a.lo _ this
    · have := a.le; omega
end GA
end

section
namespace GA
open Go Go.RowKit Go.Proofs
set_option maxRecDepth 8000
set_option linter.unusedVariables false
set_option linter.unusedSimpArgs false

theorem XPut.ints {els : List AV} {n e : Nat} {k : List AV → Prop} (xs : List Int) (x : Int) (hE : els = GA.ints xs) (h1 : n = xs.length) (h2 : e < n) (h : k (GA.ints (xs.set e x))) : XPut els n e (.int .i64 x) k := by
  subst hE; exact XPut.map (f := .int .i64) x rfl h1 h2 h
end GA
end

section
namespace GA
open Go Go.RowKit
set_option linter.unusedVariables false

section
variable {P : Program} {T : Tab} {N : Nat} {ρ : Option Nat} {H : List Blk} {σ : St} {D : List Nat}
/-- A place for a block to come. -/
theorem Walk.place {c : Code} {Q : Post} (x : Walk P N ρ c Q D σ (H ++ [.free])) : Walk P N ρ c Q D σ H := by
  constructor
  intro E h β a w s
  obtain ⟨s', X⟩ := s.sr.push (w' := w) s.sr.env (fun _ _ => rfl) (.pointer none) .free (by intro b hb; simp [anchor] at hb) (fun _ => trivial)
  exact wpIn_mono (x.o E h _ a w ⟨s', fun u r e => let ⟨v, h1, h2⟩ := s.fits u r e; ⟨v, h1, X.rep h2⟩, s.size, s.df.ext X⟩) fun _ _ _ => Conc.ext X
theorem XFree.at {H : List Blk} {b : Blk} {k : Nat → List Blk → Prop} (i : Nat) (h1 : lget H i = some .free) (h2 : hset H i b fun H' => k i H') : XFree H b k := ⟨i, h1, h2⟩
end
end GA
end

section
namespace GA
open Go Go.RowKit Go.Proofs
set_option pp.deepTerms true
set_option maxRecDepth 8000
set_option linter.unusedVariables false
set_option linter.unusedSimpArgs false

theorem dup_sk (nl : Bool) (xs : List Sk) (hx : xs.length ≤ 100000) : Comp Try.prog 83 [.sl nl (xs.map skA)] (.sl false (xs.map skA)) := by
  refine Comp.body (T := tab) (res := [.tmp 2]) tab_ok [] Try.func83 rfl (by kernel_rfl) Try.ntmps83 rfl (by simp only [List.length_cons, List.length_nil]; decide) (by simp only [lowL, AV.low, lowSk]; rfl) ?_; conv => whnf
  refine XHold.mk ⟨by omega, by simp, by unfold Room; simp; omega⟩ ?_
  conv => whnf
  refine XHold.mk (wideSk xs) ?_
  conv => whnf
  refine XHold.mk ⟨rfl, rfl, by unfold Room; simp; omega⟩ ?_
  conv => whnf
  exact ⟨Froz.grow rfl (by simp) (lowSk xs)⟩
theorem dup_pr (nl : Bool) (xs : List (Int × Int)) (hx : xs.length ≤ 100000) : Comp Try.prog 84 [.sl nl (xs.map prA)] (.sl false (xs.map prA)) := by
  refine Comp.body (T := tab) (res := [.tmp 2]) tab_ok [] Try.func84 rfl (by kernel_rfl) Try.ntmps84 rfl (by simp only [List.length_cons, List.length_nil]; decide) (by simp only [lowL, AV.low, lowPr]; rfl) ?_; conv => whnf
  refine XHold.mk ⟨by omega, by simp, by unfold Room; simp; omega⟩ ?_
  conv => whnf
  refine XHold.mk (widePr xs) ?_
  conv => whnf
  refine XHold.mk ⟨rfl, rfl, by unfold Room; simp; omega⟩ ?_
  conv => whnf
  exact ⟨Froz.grow rfl (by simp) (lowPr xs)⟩
def ownL (l : Ld) : Ld := ⟨l.bears, l.shrink, false, l.sacks, false, l.apart, false, l.wth⟩
theorem own_c (l : Ld) (o : LdW l) : Comp Try.prog 20 [ldA l] (ldA (ownL l)) := by
  have h1 := o.h1
  have h2 := o.h2
  have h3 := o.h3
  refine Comp.body (T := tab) (res := [.cell 2 26]) tab_ok [1] Try.func20 rfl (by kernel_rfl) Try.ntmps20 rfl (by simp only [List.length_cons, List.length_nil]; decide) (by simp only [lowL, AV.low, ldL]; rfl) ?_; conv => whnf
  repeat' first
      | ((with_reducible apply XBr.tt); conv => whnf)
      | ((with_reducible apply XBr.ff); conv => whnf)
      | (with_reducible apply XBr.not)
      | ((with_reducible apply XBr.dec) <;> (intro h; first | (exfalso; omega) | ((try simp only [List.length_map] at h); first | (exfalso; omega) | (conv => whnf))))
      | ((with_reducible apply XBr.beq) <;> (intro h; first | (exfalso; omega) | (conv => whnf)))
      | ((with_reducible apply XBr.bne) <;> (intro h; first | (exfalso; omega) | (conv => whnf)))
      | ((with_reducible refine XInt.i64 (by omega) (by omega) ?_); conv => whnf)
      | ((with_reducible refine XHold.mk ?_ ?_); (first | omega | rfl | decide | exact ⟨rfl, by decide, rfl⟩ | exact wideI _ | exact widePr _ | exact wideSk _ | (unfold Room; constructor <;> ((try simp) <;> omega)) | exact ⟨rfl, by simp only [List.length_map], by unfold Room; constructor <;> ((try simp) <;> omega)⟩ | exact ⟨by omega, by omega, by unfold Room; constructor <;> ((try simp) <;> omega)⟩); conv => whnf)
      | ((with_reducible refine XIx.nat ?_ ?_ ?_); omega; (intro _; rfl); conv => whnf)
      | ((with_reducible refine XIx.map ?_ ?_ ?_ ?_); omega; omega; (intro _; rfl); conv => whnf)
      | (with_reducible apply XAnd.mk)
      | ((with_reducible apply Chk.go); conv => whnf)
      | ((with_reducible apply ChkA.go); conv => whnf)
      | ((with_reducible apply ChkF.go); conv => whnf)
      | ((with_reducible apply ChkB.go); conv => whnf)
      | (exact XSame.mk rfl rfl)
      | (exact XSame.mk (by first | rfl | (simp only [List.map_append, List.length_append, List.length_map]; done) | (simp only [List.map_append, List.length_append, List.length_map]; rfl)) (by first | rfl | (simp only [List.map_append]; done) | (simp only [List.map_append]; rfl)))
      | (with_reducible exact trivial)
      | ((with_reducible refine xdrop_app (by rw [List.length_map]; omega) ?_); conv => whnf)
      | ((with_reducible refine XArr.ints (by omega) (by omega) (by omega) ?_); conv => whnf)
      | ((with_reducible refine XArr.intsA (by omega) (by omega) (by omega) ?_); conv => whnf)
      | ((with_reducible refine XArr.nats ?_ ?_ ?_); omega; omega; conv => whnf)
      | ((with_reducible refine XArr.natsA ?_ ?_ ?_); omega; omega; conv => whnf)
      | ((with_reducible apply XArr.pim0); conv => whnf)
      | ((with_reducible apply XArr.pim1); conv => whnf)
      | ((with_reducible refine XArr.ptr ?_ ?_ ?_); omega; omega; conv => whnf)
      | ((with_reducible apply XBr.mk') <;> (intro h; conv => whnf))
  apply Walk.drawX tab_ok mixed_ok [] [10, 12, 14] (hsC [[.cells (ldC l), .cells [.int .i64 0, .int .i64 0, .sl true [], .sl true [], .sl true []]],
    [.cells (ldC { l with nls := false }), .cells [.int .i64 0, .int .i64 0, .sl true [], .sl true [], .sl true []]],
    [.cells (ldC { l with nls := false, nla := false }), .cells [.int .i64 0, .int .i64 0, .sl true [], .sl true [], .sl true []]],
    [.cells (ldC { l with nls := false, nla := false, nlw := false }), .cells [.int .i64 0, .int .i64 0, .sl true [], .sl true [], .sl true []]]]) [_, _, _, _, _, _, _, _, _, _, _, _, _, _, _] (by kernel_rfl) rfl
  · skip
    repeat' first
        | ((with_reducible apply XBr.tt); conv => whnf)
        | ((with_reducible apply XBr.ff); conv => whnf)
        | (with_reducible apply XBr.not)
        | ((with_reducible apply XBr.dec) <;> (intro h; first | (exfalso; omega) | ((try simp only [List.length_map] at h); first | (exfalso; omega) | (conv => whnf))))
        | ((with_reducible apply XBr.beq) <;> (intro h; first | (exfalso; omega) | (conv => whnf)))
        | ((with_reducible apply XBr.bne) <;> (intro h; first | (exfalso; omega) | (conv => whnf)))
        | ((with_reducible refine XInt.i64 (by omega) (by omega) ?_); conv => whnf)
        | ((with_reducible refine XHold.mk ?_ ?_); (first | omega | rfl | decide | exact ⟨rfl, by decide, rfl⟩ | exact wideI _ | exact widePr _ | exact wideSk _ | (unfold Room; constructor <;> ((try simp) <;> omega)) | exact ⟨rfl, by simp only [List.length_map], by unfold Room; constructor <;> ((try simp) <;> omega)⟩ | exact ⟨by omega, by omega, by unfold Room; constructor <;> ((try simp) <;> omega)⟩); conv => whnf)
        | ((with_reducible refine XIx.nat ?_ ?_ ?_); omega; (intro _; rfl); conv => whnf)
        | ((with_reducible refine XIx.map ?_ ?_ ?_ ?_); omega; omega; (intro _; rfl); conv => whnf)
        | (with_reducible apply XAnd.mk)
        | ((with_reducible apply Chk.go); conv => whnf)
        | ((with_reducible apply ChkA.go); conv => whnf)
        | ((with_reducible apply ChkF.go); conv => whnf)
        | ((with_reducible apply ChkB.go); conv => whnf)
        | (exact XSame.mk rfl rfl)
        | (exact XSame.mk (by first | rfl | (simp only [List.map_append, List.length_append, List.length_map]; done) | (simp only [List.map_append, List.length_append, List.length_map]; rfl)) (by first | rfl | (simp only [List.map_append]; done) | (simp only [List.map_append]; rfl)))
        | (with_reducible exact trivial)
        | ((with_reducible refine xdrop_app (by rw [List.length_map]; omega) ?_); conv => whnf)
        | ((with_reducible refine XArr.ints (by omega) (by omega) (by omega) ?_); conv => whnf)
        | ((with_reducible refine XArr.intsA (by omega) (by omega) (by omega) ?_); conv => whnf)
        | ((with_reducible refine XArr.nats ?_ ?_ ?_); omega; omega; conv => whnf)
        | ((with_reducible refine XArr.natsA ?_ ?_ ?_); omega; omega; conv => whnf)
        | ((with_reducible apply XArr.pim0); conv => whnf)
        | ((with_reducible apply XArr.pim1); conv => whnf)
        | ((with_reducible refine XArr.ptr ?_ ?_ ?_); omega; omega; conv => whnf)
        | ((refine XCall.ret (dup_sk _ l.sacks h1) ?_); conv => whnf)
        | ((refine XCall.ret (dup_pr _ l.apart (by omega)) ?_); conv => whnf)
        | ((refine XCall.ret (dup_pr _ l.wth (by omega)) ?_); conv => whnf)
        | ((with_reducible apply XBr.mk') <;> (intro h; conv => whnf))
  · skip
    repeat' first
        | ((with_reducible apply XBr.tt); conv => whnf)
        | ((with_reducible apply XBr.ff); conv => whnf)
        | (with_reducible apply XBr.not)
        | ((with_reducible apply XBr.dec) <;> (intro h; first | (exfalso; omega) | ((try simp only [List.length_map] at h); first | (exfalso; omega) | (conv => whnf))))
        | ((with_reducible apply XBr.beq) <;> (intro h; first | (exfalso; omega) | (conv => whnf)))
        | ((with_reducible apply XBr.bne) <;> (intro h; first | (exfalso; omega) | (conv => whnf)))
        | ((with_reducible refine XInt.i64 (by omega) (by omega) ?_); conv => whnf)
        | ((with_reducible refine XHold.mk ?_ ?_); (first | omega | rfl | decide | exact ⟨rfl, by decide, rfl⟩ | exact wideI _ | exact widePr _ | exact wideSk _ | (unfold Room; constructor <;> ((try simp) <;> omega)) | exact ⟨rfl, by simp only [List.length_map], by unfold Room; constructor <;> ((try simp) <;> omega)⟩ | exact ⟨by omega, by omega, by unfold Room; constructor <;> ((try simp) <;> omega)⟩); conv => whnf)
        | ((with_reducible refine XIx.nat ?_ ?_ ?_); omega; (intro _; rfl); conv => whnf)
        | ((with_reducible refine XIx.map ?_ ?_ ?_ ?_); omega; omega; (intro _; rfl); conv => whnf)
        | (with_reducible apply XAnd.mk)
        | ((with_reducible apply Chk.go); conv => whnf)
        | ((with_reducible apply ChkA.go); conv => whnf)
        | ((with_reducible apply ChkF.go); conv => whnf)
        | ((with_reducible apply ChkB.go); conv => whnf)
        | (exact XSame.mk rfl rfl)
        | (exact XSame.mk (by first | rfl | (simp only [List.map_append, List.length_append, List.length_map]; done) | (simp only [List.map_append, List.length_append, List.length_map]; rfl)) (by first | rfl | (simp only [List.map_append]; done) | (simp only [List.map_append]; rfl)))
        | (with_reducible exact trivial)
        | ((with_reducible refine xdrop_app (by rw [List.length_map]; omega) ?_); conv => whnf)
        | ((with_reducible refine XArr.ints (by omega) (by omega) (by omega) ?_); conv => whnf)
        | ((with_reducible refine XArr.intsA (by omega) (by omega) (by omega) ?_); conv => whnf)
        | ((with_reducible refine XArr.nats ?_ ?_ ?_); omega; omega; conv => whnf)
        | ((with_reducible refine XArr.natsA ?_ ?_ ?_); omega; omega; conv => whnf)
        | ((with_reducible apply XArr.pim0); conv => whnf)
        | ((with_reducible apply XArr.pim1); conv => whnf)
        | ((with_reducible refine XArr.ptr ?_ ?_ ?_); omega; omega; conv => whnf)
        | ((refine XCall.ret (dup_sk _ l.sacks h1) ?_); conv => whnf)
        | ((refine XCall.ret (dup_pr _ l.apart (by omega)) ?_); conv => whnf)
        | ((refine XCall.ret (dup_pr _ l.wth (by omega)) ?_); conv => whnf)
        | ((with_reducible apply XBr.mk') <;> (intro h; conv => whnf))
  · conv => whnf
    repeat' first
        | ((with_reducible apply XBr.tt); conv => whnf)
        | ((with_reducible apply XBr.ff); conv => whnf)
        | (with_reducible apply XBr.not)
        | ((with_reducible apply XBr.dec) <;> (intro h; first | (exfalso; omega) | ((try simp only [List.length_map] at h); first | (exfalso; omega) | (conv => whnf))))
        | ((with_reducible apply XBr.beq) <;> (intro h; first | (exfalso; omega) | (conv => whnf)))
        | ((with_reducible apply XBr.bne) <;> (intro h; first | (exfalso; omega) | (conv => whnf)))
        | ((with_reducible refine XInt.i64 (by omega) (by omega) ?_); conv => whnf)
        | ((with_reducible refine XHold.mk ?_ ?_); (first | omega | rfl | decide | exact ⟨rfl, by decide, rfl⟩ | exact wideI _ | exact widePr _ | exact wideSk _ | (unfold Room; constructor <;> ((try simp) <;> omega)) | exact ⟨rfl, by simp only [List.length_map], by unfold Room; constructor <;> ((try simp) <;> omega)⟩ | exact ⟨by omega, by omega, by unfold Room; constructor <;> ((try simp) <;> omega)⟩); conv => whnf)
        | ((with_reducible refine XIx.nat ?_ ?_ ?_); omega; (intro _; rfl); conv => whnf)
        | ((with_reducible refine XIx.map ?_ ?_ ?_ ?_); omega; omega; (intro _; rfl); conv => whnf)
        | (with_reducible apply XAnd.mk)
        | ((with_reducible apply Chk.go); conv => whnf)
        | ((with_reducible apply ChkA.go); conv => whnf)
        | ((with_reducible apply ChkF.go); conv => whnf)
        | ((with_reducible apply ChkB.go); conv => whnf)
        | (exact XSame.mk rfl rfl)
        | (exact XSame.mk (by first | rfl | (simp only [List.map_append, List.length_append, List.length_map]; done) | (simp only [List.map_append, List.length_append, List.length_map]; rfl)) (by first | rfl | (simp only [List.map_append]; done) | (simp only [List.map_append]; rfl)))
        | (with_reducible exact trivial)
        | ((with_reducible refine xdrop_app (by rw [List.length_map]; omega) ?_); conv => whnf)
        | ((with_reducible refine XArr.ints (by omega) (by omega) (by omega) ?_); conv => whnf)
        | ((with_reducible refine XArr.intsA (by omega) (by omega) (by omega) ?_); conv => whnf)
        | ((with_reducible refine XArr.nats ?_ ?_ ?_); omega; omega; conv => whnf)
        | ((with_reducible refine XArr.natsA ?_ ?_ ?_); omega; omega; conv => whnf)
        | ((with_reducible apply XArr.pim0); conv => whnf)
        | ((with_reducible apply XArr.pim1); conv => whnf)
        | ((with_reducible refine XArr.ptr ?_ ?_ ?_); omega; omega; conv => whnf)
        | ((with_reducible apply XBr.mk') <;> (intro h; conv => whnf))
    exact ⟨Froz.low (ldL (ownL l))⟩
end GA
end
