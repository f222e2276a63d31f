/- Part 7 of a proof: S20, S21, S23, S24, S25, S26. -/
import Derived.Test.YtlbdomhfcghjdaaP6
import Derived.Test.YtlbdomhfcghjdaaRows
section
/- The examples. -/
namespace GA
open Go Go.RowKit Go.Proofs
set_option pp.deepTerms true
set_option maxRecDepth 8000
set_option linter.unusedVariables false
set_option linter.unusedSimpArgs false

def five : Ld := ⟨50, 10, false, [⟨30, 0⟩, ⟨20, 1⟩, ⟨25, 0⟩, ⟨20, 2⟩, ⟨10, 1⟩], true, [], true, []⟩
def fiveP : Ld := { five with nla := false, apart := [(0, 2)], nlw := false, wth := [(1, 3)] }
def fivePr : Pr := ⟨50, false, [27, 18, 23, 18, 9]⟩
theorem five_ok : checkR five = 0 ∧ checkR fiveP = 0 := by decide +kernel
theorem five_many : manyD (openD five) = 2 := by decide +kernel
theorem five_out : (loadI (openD five) 2 2).out = [0, 0, 1, 1, 1] := by decide +kernel
theorem fiveP_many : manyD (openD fiveP) = 3 := by decide +kernel
theorem fiveP_out : (loadI (openD fiveP) 3 3).out = [0, 1, 2, 1, 0] := by decide +kernel
theorem five_pr : priceE five fivePr = 0 ∧ fairB (openD five) fivePr = true ∧ (fivePr.ps.sum + fivePr.unit - 1) / fivePr.unit = 2 := by decide +kernel
theorem five_share : shareE five 10 = 0 ∧ shareI (partsR five) 10 = [5, 3, 2, 0, 0, 0] := by decide +kernel
theorem five_riddle : riddledR [12, 20, 19, 25] 20 = 0 ∧ keptL [12, 20, 19, 25] 20 = [20, 25] := by decide +kernel
theorem five_w : LdW five := ⟨fun _ => rfl, by decide, by decide, by decide⟩
theorem fiveP_w : LdW fiveP := ⟨(fun h => by cases h), by decide, by decide, by decide⟩
theorem five_c : Comp Try.prog 82 [] (ldA five) := by
  refine Comp.body' (T := tab) (res := [.cell 0 26]) tab_ok [] Try.func82 rfl (by kernel_rfl) Try.ntmps82 rfl (by simp only [List.length_cons, List.length_nil]; decide) (by rfl) ?_; conv => whnf
  repeat' first
      | ((with_reducible apply XBr.tt); conv => whnf)
      | ((with_reducible apply XBr.ff); conv => whnf)
      | (with_reducible apply XBr.not)
      | ((with_reducible apply XBr.dec) <;> (intro h; first | (exfalso; omega) | ((try simp only [List.length_map] at h); first | (exfalso; omega) | (conv => whnf))))
      | ((with_reducible apply XBr.beq) <;> (intro h; first | (exfalso; omega) | (conv => whnf)))
      | ((with_reducible apply XBr.bne) <;> (intro h; first | (exfalso; omega) | (conv => whnf)))
      | ((with_reducible refine XInt.i64 (by omega) (by omega) ?_); conv => whnf)
      | ((with_reducible refine XHold.mk ?_ ?_); (first | omega | rfl | decide | exact ⟨rfl, by decide, rfl⟩ | exact wideI _ | exact widePr _ | exact wideSk _ | (unfold Room; constructor <;> ((try simp) <;> omega)) | exact ⟨rfl, by simp only [List.length_map], by unfold Room; constructor <;> ((try simp) <;> omega)⟩ | exact ⟨by omega, by omega, by unfold Room; constructor <;> ((try simp) <;> omega)⟩); conv => whnf)
      | ((with_reducible refine XIx.nat ?_ ?_ ?_); omega; (intro _; rfl); conv => whnf)
      | ((with_reducible refine XIx.map ?_ ?_ ?_ ?_); omega; omega; (intro _; rfl); conv => whnf)
      | (with_reducible apply XAnd.mk)
      | ((with_reducible apply Chk.go); conv => whnf)
      | ((with_reducible apply ChkA.go); conv => whnf)
      | ((with_reducible apply ChkF.go); conv => whnf)
      | ((with_reducible apply ChkB.go); conv => whnf)
      | (exact XSame.mk rfl rfl)
      | (exact XSame.mk (by first | rfl | (simp only [List.map_append, List.length_append, List.length_map]; done) | (simp only [List.map_append, List.length_append, List.length_map]; rfl)) (by first | rfl | (simp only [List.map_append]; done) | (simp only [List.map_append]; rfl)))
      | (with_reducible exact trivial)
      | ((with_reducible refine xdrop_app (by rw [List.length_map]; omega) ?_); conv => whnf)
      | ((with_reducible refine XArr.ints (by omega) (by omega) (by omega) ?_); conv => whnf)
      | ((with_reducible refine XArr.intsA (by omega) (by omega) (by omega) ?_); conv => whnf)
      | ((with_reducible refine XArr.nats ?_ ?_ ?_); omega; omega; conv => whnf)
      | ((with_reducible refine XArr.natsA ?_ ?_ ?_); omega; omega; conv => whnf)
      | ((with_reducible apply XArr.pim0); conv => whnf)
      | ((with_reducible apply XArr.pim1); conv => whnf)
      | ((with_reducible refine XArr.ptr ?_ ?_ ?_); omega; omega; conv => whnf)
      | ((with_reducible apply XBr.mk') <;> (intro h; conv => whnf))
  exact ⟨Froz.low rfl⟩
theorem five_fewest : fewestR five = .tup [.sl false (ints [0, 0, 1, 1, 1]), .int .i64 2, .int .i64 0] := by
  unfold fewestR; rw [if_pos five_ok.1]; unfold fewestD; rw [five_many, if_neg (by decide), five_out]; rfl
theorem fiveP_fewest : fewestR fiveP = .tup [.sl false (ints [0, 1, 2, 1, 0]), .int .i64 3, .int .i64 0] := by
  unfold fewestR; rw [if_pos five_ok.2]; unfold fewestD; rw [fiveP_many, if_neg (by decide), fiveP_out]; rfl
theorem five_proves : provesR five fivePr = .tup [.int .i64 2, .int .i64 0] := by
  unfold provesR; rw [if_pos five_ok.1, if_pos five_pr.1, if_pos five_pr.2.1, five_pr.2.2]
theorem five_shareR : shareR five 10 = .tup [.sl false (ints [5, 3, 2, 0, 0, 0]), .int .i64 0] := by
  unfold shareR; rw [if_pos five_share.1, show (10 : Int).toNat = 10 from rfl, five_share.2]
theorem five_riddleR : riddleR [12, 20, 19, 25] 20 = .tup [.sl false (ints [20, 25]), slA (thruL [12, 20, 19, 25] 20), .int .i64 0] := by
  unfold riddleR; rw [if_pos five_riddle.1]; unfold riddleA; rw [five_riddle.2]; rfl
theorem cFive : Comp Try.prog 18 [ldA five] (.tup [.sl false (ints [0, 0, 1, 1, 1]), .int .i64 2, .int .i64 0]) := five_fewest ▸ fewest_c five five_w.w five_w.h1 five_w.h2 five_w.h3
theorem cFiveP : Comp Try.prog 18 [ldA fiveP] (.tup [.sl false (ints [0, 1, 2, 1, 0]), .int .i64 3, .int .i64 0]) := fiveP_fewest ▸ fewest_c fiveP fiveP_w.w fiveP_w.h1 fiveP_w.h2 fiveP_w.h3
theorem cRid : Comp Try.prog 27 [.sl false (ints [12, 20, 19, 25]), .int .i64 20] (.tup [.sl false (ints [20, 25]), slA (thruL [12, 20, 19, 25] 20), .int .i64 0]) := five_riddleR ▸ riddle_c false [12, 20, 19, 25] 20 (by decide)
theorem cShare : Comp Try.prog 33 [ldA five, .int .i64 10] (.tup [.sl false (ints [5, 3, 2, 0, 0, 0]), .int .i64 0]) := five_shareR ▸ share_c five 10 five_w
theorem cProves : Comp Try.prog 25 [ldA five, pcA fivePr] (.tup [.int .i64 2, .int .i64 0]) := five_proves ▸ proves_c five fivePr five_w (by decide)
theorem cEq (xs : List Int) (h : xs.length ≤ 100000) : Comp Try.prog 30 [.sl false (ints xs), .sl false (ints xs)] (.bool true) := by
  have := eq_int false false xs xs h
  rwa [show (xs == xs) = true from beq_self_eq_true xs] at this
theorem cEq1 : Comp Try.prog 30 [.sl false (ints [0, 0, 1, 1, 1]), .sl false [.int .i64 0, .int .i64 0, .int .i64 1, .int .i64 1, .int .i64 1]] (.bool true) := cEq [0, 0, 1, 1, 1] (by decide)
theorem cEq2 : Comp Try.prog 30 [.sl false (ints [20, 25]), .sl false [.int .i64 20, .int .i64 25]] (.bool true) := cEq [20, 25] (by decide)
theorem cEq3 : Comp Try.prog 30 [.sl false (ints [5, 3, 2, 0, 0, 0]), .sl false [.int .i64 5, .int .i64 3, .int .i64 2, .int .i64 0, .int .i64 0, .int .i64 0]] (.bool true) := cEq [5, 3, 2, 0, 0, 0] (by decide)
theorem cEq4 : Comp Try.prog 30 [.sl false (ints [0, 1, 2, 1, 0]), .sl false [.int .i64 0, .int .i64 1, .int .i64 2, .int .i64 1, .int .i64 0]] (.bool true) := cEq [0, 1, 2, 1, 0] (by decide)
theorem awake_c : Comp Try.prog 19 [] (.bool true) := by
  refine Comp.body' (T := tab) (res := [.tmp 0]) tab_ok [] Try.func19 rfl (by kernel_rfl) Try.ntmps19 rfl (by simp only [List.length_cons, List.length_nil]; decide) (by rfl) ?_; conv => whnf
  refine XCall.ret five_c ?_
  conv => whnf
  refine XCall.ret cFive ?_
  conv => whnf
  repeat' first
      | ((with_reducible apply XBr.tt); conv => whnf)
      | ((with_reducible apply XBr.ff); conv => whnf)
      | (with_reducible apply XBr.not)
      | ((with_reducible apply XBr.dec) <;> (intro h; first | (exfalso; omega) | ((try simp only [List.length_map] at h); first | (exfalso; omega) | (conv => whnf))))
      | ((with_reducible apply XBr.beq) <;> (intro h; first | (exfalso; omega) | (conv => whnf)))
      | ((with_reducible apply XBr.bne) <;> (intro h; first | (exfalso; omega) | (conv => whnf)))
      | ((with_reducible refine XInt.i64 (by omega) (by omega) ?_); conv => whnf)
      | ((with_reducible refine XHold.mk ?_ ?_); (first | omega | rfl | decide | exact ⟨rfl, by decide, rfl⟩ | exact wideI _ | exact widePr _ | exact wideSk _ | (unfold Room; constructor <;> ((try simp) <;> omega)) | exact ⟨rfl, by simp only [List.length_map], by unfold Room; constructor <;> ((try simp) <;> omega)⟩ | exact ⟨by omega, by omega, by unfold Room; constructor <;> ((try simp) <;> omega)⟩); conv => whnf)
      | ((with_reducible refine XIx.nat ?_ ?_ ?_); omega; (intro _; rfl); conv => whnf)
      | ((with_reducible refine XIx.map ?_ ?_ ?_ ?_); omega; omega; (intro _; rfl); conv => whnf)
      | (with_reducible apply XAnd.mk)
      | ((with_reducible apply Chk.go); conv => whnf)
      | ((with_reducible apply ChkA.go); conv => whnf)
      | ((with_reducible apply ChkF.go); conv => whnf)
      | ((with_reducible apply ChkB.go); conv => whnf)
      | (exact XSame.mk rfl rfl)
      | (exact XSame.mk (by first | rfl | (simp only [List.map_append, List.length_append, List.length_map]; done) | (simp only [List.map_append, List.length_append, List.length_map]; rfl)) (by first | rfl | (simp only [List.map_append]; done) | (simp only [List.map_append]; rfl)))
      | (with_reducible exact trivial)
      | ((with_reducible refine xdrop_app (by rw [List.length_map]; omega) ?_); conv => whnf)
      | ((with_reducible refine XArr.ints (by omega) (by omega) (by omega) ?_); conv => whnf)
      | ((with_reducible refine XArr.intsA (by omega) (by omega) (by omega) ?_); conv => whnf)
      | ((with_reducible refine XArr.nats ?_ ?_ ?_); omega; omega; conv => whnf)
      | ((with_reducible refine XArr.natsA ?_ ?_ ?_); omega; omega; conv => whnf)
      | ((with_reducible apply XArr.pim0); conv => whnf)
      | ((with_reducible apply XArr.pim1); conv => whnf)
      | ((with_reducible refine XArr.ptr ?_ ?_ ?_); omega; omega; conv => whnf)
      | ((with_reducible apply XBr.mk') <;> (intro h; conv => whnf))
  refine XCall.ret cRid ?_
  conv => whnf
  refine XCall.ret five_c ?_
  conv => whnf
  refine XCall.ret cShare ?_
  conv => whnf
  refine XCall.ret five_c ?_
  conv => whnf
  repeat' first
      | ((with_reducible apply XBr.tt); conv => whnf)
      | ((with_reducible apply XBr.ff); conv => whnf)
      | (with_reducible apply XBr.not)
      | ((with_reducible apply XBr.dec) <;> (intro h; first | (exfalso; omega) | ((try simp only [List.length_map] at h); first | (exfalso; omega) | (conv => whnf))))
      | ((with_reducible apply XBr.beq) <;> (intro h; first | (exfalso; omega) | (conv => whnf)))
      | ((with_reducible apply XBr.bne) <;> (intro h; first | (exfalso; omega) | (conv => whnf)))
      | ((with_reducible refine XInt.i64 (by omega) (by omega) ?_); conv => whnf)
      | ((with_reducible refine XHold.mk ?_ ?_); (first | omega | rfl | decide | exact ⟨rfl, by decide, rfl⟩ | exact wideI _ | exact widePr _ | exact wideSk _ | (unfold Room; constructor <;> ((try simp) <;> omega)) | exact ⟨rfl, by simp only [List.length_map], by unfold Room; constructor <;> ((try simp) <;> omega)⟩ | exact ⟨by omega, by omega, by unfold Room; constructor <;> ((try simp) <;> omega)⟩); conv => whnf)
      | ((with_reducible refine XIx.nat ?_ ?_ ?_); omega; (intro _; rfl); conv => whnf)
      | ((with_reducible refine XIx.map ?_ ?_ ?_ ?_); omega; omega; (intro _; rfl); conv => whnf)
      | (with_reducible apply XAnd.mk)
      | ((with_reducible apply Chk.go); conv => whnf)
      | ((with_reducible apply ChkA.go); conv => whnf)
      | ((with_reducible apply ChkF.go); conv => whnf)
      | ((with_reducible apply ChkB.go); conv => whnf)
      | (exact XSame.mk rfl rfl)
      | (exact XSame.mk (by first | rfl | (simp only [List.map_append, List.length_append, List.length_map]; done) | (simp only [List.map_append, List.length_append, List.length_map]; rfl)) (by first | rfl | (simp only [List.map_append]; done) | (simp only [List.map_append]; rfl)))
      | (with_reducible exact trivial)
      | ((with_reducible refine xdrop_app (by rw [List.length_map]; omega) ?_); conv => whnf)
      | ((with_reducible refine XArr.ints (by omega) (by omega) (by omega) ?_); conv => whnf)
      | ((with_reducible refine XArr.intsA (by omega) (by omega) (by omega) ?_); conv => whnf)
      | ((with_reducible refine XArr.nats ?_ ?_ ?_); omega; omega; conv => whnf)
      | ((with_reducible refine XArr.natsA ?_ ?_ ?_); omega; omega; conv => whnf)
      | ((with_reducible apply XArr.pim0); conv => whnf)
      | ((with_reducible apply XArr.pim1); conv => whnf)
      | ((with_reducible refine XArr.ptr ?_ ?_ ?_); omega; omega; conv => whnf)
      | ((with_reducible apply XBr.mk') <;> (intro h; conv => whnf))
  refine XCall.ret cFiveP ?_
  conv => whnf
  refine XCall.ret five_c ?_
  conv => whnf
  repeat' first
      | ((with_reducible apply XBr.tt); conv => whnf)
      | ((with_reducible apply XBr.ff); conv => whnf)
      | (with_reducible apply XBr.not)
      | ((with_reducible apply XBr.dec) <;> (intro h; first | (exfalso; omega) | ((try simp only [List.length_map] at h); first | (exfalso; omega) | (conv => whnf))))
      | ((with_reducible apply XBr.beq) <;> (intro h; first | (exfalso; omega) | (conv => whnf)))
      | ((with_reducible apply XBr.bne) <;> (intro h; first | (exfalso; omega) | (conv => whnf)))
      | ((with_reducible refine XInt.i64 (by omega) (by omega) ?_); conv => whnf)
      | ((with_reducible refine XHold.mk ?_ ?_); (first | omega | rfl | decide | exact ⟨rfl, by decide, rfl⟩ | exact wideI _ | exact widePr _ | exact wideSk _ | (unfold Room; constructor <;> ((try simp) <;> omega)) | exact ⟨rfl, by simp only [List.length_map], by unfold Room; constructor <;> ((try simp) <;> omega)⟩ | exact ⟨by omega, by omega, by unfold Room; constructor <;> ((try simp) <;> omega)⟩); conv => whnf)
      | ((with_reducible refine XIx.nat ?_ ?_ ?_); omega; (intro _; rfl); conv => whnf)
      | ((with_reducible refine XIx.map ?_ ?_ ?_ ?_); omega; omega; (intro _; rfl); conv => whnf)
      | (with_reducible apply XAnd.mk)
      | ((with_reducible apply Chk.go); conv => whnf)
      | ((with_reducible apply ChkA.go); conv => whnf)
      | ((with_reducible apply ChkF.go); conv => whnf)
      | ((with_reducible apply ChkB.go); conv => whnf)
      | (exact XSame.mk rfl rfl)
      | (exact XSame.mk (by first | rfl | (simp only [List.map_append, List.length_append, List.length_map]; done) | (simp only [List.map_append, List.length_append, List.length_map]; rfl)) (by first | rfl | (simp only [List.map_append]; done) | (simp only [List.map_append]; rfl)))
      | (with_reducible exact trivial)
      | ((with_reducible refine xdrop_app (by rw [List.length_map]; omega) ?_); conv => whnf)
      | ((with_reducible refine XArr.ints (by omega) (by omega) (by omega) ?_); conv => whnf)
      | ((with_reducible refine XArr.intsA (by omega) (by omega) (by omega) ?_); conv => whnf)
      | ((with_reducible refine XArr.nats ?_ ?_ ?_); omega; omega; conv => whnf)
      | ((with_reducible refine XArr.natsA ?_ ?_ ?_); omega; omega; conv => whnf)
      | ((with_reducible apply XArr.pim0); conv => whnf)
      | ((with_reducible apply XArr.pim1); conv => whnf)
      | ((with_reducible refine XArr.ptr ?_ ?_ ?_); omega; omega; conv => whnf)
      | ((with_reducible apply XBr.mk') <;> (intro h; conv => whnf))
  refine XCall.ret cProves ?_
  conv => whnf
  refine Walk.norm tab_ok [] [(3, .int .i64 0), (6, .int .i64 0), (8, .int .i64 0), (12, .int .i64 0), (14, .int .i64 0), (1, .sl false (ints [0, 0, 1, 1, 1])), (2, .int .i64 2), (4, .sl false (ints [20, 25])), (7, .sl false (ints [5, 3, 2, 0, 0, 0])), (10, .sl false (ints [0, 1, 2, 1, 0])), (11, .int .i64 3), (13, .int .i64 2)] ⟨rfl, rfl, rfl, rfl, rfl, rfl, rfl, rfl, rfl, rfl, rfl, rfl, trivial⟩ ?_
  conv => whnf
  repeat' first
      | ((with_reducible apply XBr.tt); conv => whnf)
      | ((with_reducible apply XBr.ff); conv => whnf)
      | (with_reducible apply XBr.not)
      | ((with_reducible apply XBr.dec) <;> (intro h; first | (exfalso; omega) | ((try simp only [List.length_map] at h); first | (exfalso; omega) | (conv => whnf))))
      | ((with_reducible apply XBr.beq) <;> (intro h; first | (exfalso; omega) | (conv => whnf)))
      | ((with_reducible apply XBr.bne) <;> (intro h; first | (exfalso; omega) | (conv => whnf)))
      | ((with_reducible refine XInt.i64 (by omega) (by omega) ?_); conv => whnf)
      | ((with_reducible refine XHold.mk ?_ ?_); (first | omega | rfl | decide | exact ⟨rfl, by decide, rfl⟩ | exact wideI _ | exact widePr _ | exact wideSk _ | (unfold Room; constructor <;> ((try simp) <;> omega)) | exact ⟨rfl, by simp only [List.length_map], by unfold Room; constructor <;> ((try simp) <;> omega)⟩ | exact ⟨by omega, by omega, by unfold Room; constructor <;> ((try simp) <;> omega)⟩); conv => whnf)
      | ((with_reducible refine XIx.nat ?_ ?_ ?_); omega; (intro _; rfl); conv => whnf)
      | ((with_reducible refine XIx.map ?_ ?_ ?_ ?_); omega; omega; (intro _; rfl); conv => whnf)
      | (with_reducible apply XAnd.mk)
      | ((with_reducible apply Chk.go); conv => whnf)
      | ((with_reducible apply ChkA.go); conv => whnf)
      | ((with_reducible apply ChkF.go); conv => whnf)
      | ((with_reducible apply ChkB.go); conv => whnf)
      | (exact XSame.mk rfl rfl)
      | (exact XSame.mk (by first | rfl | (simp only [List.map_append, List.length_append, List.length_map]; done) | (simp only [List.map_append, List.length_append, List.length_map]; rfl)) (by first | rfl | (simp only [List.map_append]; done) | (simp only [List.map_append]; rfl)))
      | (with_reducible exact trivial)
      | ((with_reducible refine xdrop_app (by rw [List.length_map]; omega) ?_); conv => whnf)
      | ((with_reducible refine XArr.ints (by omega) (by omega) (by omega) ?_); conv => whnf)
      | ((with_reducible refine XArr.intsA (by omega) (by omega) (by omega) ?_); conv => whnf)
      | ((with_reducible refine XArr.nats ?_ ?_ ?_); omega; omega; conv => whnf)
      | ((with_reducible refine XArr.natsA ?_ ?_ ?_); omega; omega; conv => whnf)
      | ((with_reducible apply XArr.pim0); conv => whnf)
      | ((with_reducible apply XArr.pim1); conv => whnf)
      | ((with_reducible refine XArr.ptr ?_ ?_ ?_); omega; omega; conv => whnf)
      | ((with_reducible apply XBr.mk') <;> (intro h; conv => whnf))
  refine XCall.ret cEq1 ?_
  conv => whnf
  repeat' first
      | ((with_reducible apply XBr.tt); conv => whnf)
      | ((with_reducible apply XBr.ff); conv => whnf)
      | (with_reducible apply XBr.not)
      | ((with_reducible apply XBr.dec) <;> (intro h; first | (exfalso; omega) | ((try simp only [List.length_map] at h); first | (exfalso; omega) | (conv => whnf))))
      | ((with_reducible apply XBr.beq) <;> (intro h; first | (exfalso; omega) | (conv => whnf)))
      | ((with_reducible apply XBr.bne) <;> (intro h; first | (exfalso; omega) | (conv => whnf)))
      | ((with_reducible refine XInt.i64 (by omega) (by omega) ?_); conv => whnf)
      | ((with_reducible refine XHold.mk ?_ ?_); (first | omega | rfl | decide | exact ⟨rfl, by decide, rfl⟩ | exact wideI _ | exact widePr _ | exact wideSk _ | (unfold Room; constructor <;> ((try simp) <;> omega)) | exact ⟨rfl, by simp only [List.length_map], by unfold Room; constructor <;> ((try simp) <;> omega)⟩ | exact ⟨by omega, by omega, by unfold Room; constructor <;> ((try simp) <;> omega)⟩); conv => whnf)
      | ((with_reducible refine XIx.nat ?_ ?_ ?_); omega; (intro _; rfl); conv => whnf)
      | ((with_reducible refine XIx.map ?_ ?_ ?_ ?_); omega; omega; (intro _; rfl); conv => whnf)
      | (with_reducible apply XAnd.mk)
      | ((with_reducible apply Chk.go); conv => whnf)
      | ((with_reducible apply ChkA.go); conv => whnf)
      | ((with_reducible apply ChkF.go); conv => whnf)
      | ((with_reducible apply ChkB.go); conv => whnf)
      | (exact XSame.mk rfl rfl)
      | (exact XSame.mk (by first | rfl | (simp only [List.map_append, List.length_append, List.length_map]; done) | (simp only [List.map_append, List.length_append, List.length_map]; rfl)) (by first | rfl | (simp only [List.map_append]; done) | (simp only [List.map_append]; rfl)))
      | (with_reducible exact trivial)
      | ((with_reducible refine xdrop_app (by rw [List.length_map]; omega) ?_); conv => whnf)
      | ((with_reducible refine XArr.ints (by omega) (by omega) (by omega) ?_); conv => whnf)
      | ((with_reducible refine XArr.intsA (by omega) (by omega) (by omega) ?_); conv => whnf)
      | ((with_reducible refine XArr.nats ?_ ?_ ?_); omega; omega; conv => whnf)
      | ((with_reducible refine XArr.natsA ?_ ?_ ?_); omega; omega; conv => whnf)
      | ((with_reducible apply XArr.pim0); conv => whnf)
      | ((with_reducible apply XArr.pim1); conv => whnf)
      | ((with_reducible refine XArr.ptr ?_ ?_ ?_); omega; omega; conv => whnf)
      | ((with_reducible apply XBr.mk') <;> (intro h; conv => whnf))
  refine XCall.ret cEq2 ?_
  conv => whnf
  repeat' first
      | ((with_reducible apply XBr.tt); conv => whnf)
      | ((with_reducible apply XBr.ff); conv => whnf)
      | (with_reducible apply XBr.not)
      | ((with_reducible apply XBr.dec) <;> (intro h; first | (exfalso; omega) | ((try simp only [List.length_map] at h); first | (exfalso; omega) | (conv => whnf))))
      | ((with_reducible apply XBr.beq) <;> (intro h; first | (exfalso; omega) | (conv => whnf)))
      | ((with_reducible apply XBr.bne) <;> (intro h; first | (exfalso; omega) | (conv => whnf)))
      | ((with_reducible refine XInt.i64 (by omega) (by omega) ?_); conv => whnf)
      | ((with_reducible refine XHold.mk ?_ ?_); (first | omega | rfl | decide | exact ⟨rfl, by decide, rfl⟩ | exact wideI _ | exact widePr _ | exact wideSk _ | (unfold Room; constructor <;> ((try simp) <;> omega)) | exact ⟨rfl, by simp only [List.length_map], by unfold Room; constructor <;> ((try simp) <;> omega)⟩ | exact ⟨by omega, by omega, by unfold Room; constructor <;> ((try simp) <;> omega)⟩); conv => whnf)
      | ((with_reducible refine XIx.nat ?_ ?_ ?_); omega; (intro _; rfl); conv => whnf)
      | ((with_reducible refine XIx.map ?_ ?_ ?_ ?_); omega; omega; (intro _; rfl); conv => whnf)
      | (with_reducible apply XAnd.mk)
      | ((with_reducible apply Chk.go); conv => whnf)
      | ((with_reducible apply ChkA.go); conv => whnf)
      | ((with_reducible apply ChkF.go); conv => whnf)
      | ((with_reducible apply ChkB.go); conv => whnf)
      | (exact XSame.mk rfl rfl)
      | (exact XSame.mk (by first | rfl | (simp only [List.map_append, List.length_append, List.length_map]; done) | (simp only [List.map_append, List.length_append, List.length_map]; rfl)) (by first | rfl | (simp only [List.map_append]; done) | (simp only [List.map_append]; rfl)))
      | (with_reducible exact trivial)
      | ((with_reducible refine xdrop_app (by rw [List.length_map]; omega) ?_); conv => whnf)
      | ((with_reducible refine XArr.ints (by omega) (by omega) (by omega) ?_); conv => whnf)
      | ((with_reducible refine XArr.intsA (by omega) (by omega) (by omega) ?_); conv => whnf)
      | ((with_reducible refine XArr.nats ?_ ?_ ?_); omega; omega; conv => whnf)
      | ((with_reducible refine XArr.natsA ?_ ?_ ?_); omega; omega; conv => whnf)
      | ((with_reducible apply XArr.pim0); conv => whnf)
      | ((with_reducible apply XArr.pim1); conv => whnf)
      | ((with_reducible refine XArr.ptr ?_ ?_ ?_); omega; omega; conv => whnf)
      | ((with_reducible apply XBr.mk') <;> (intro h; conv => whnf))
  refine XCall.ret cEq3 ?_
  conv => whnf
  repeat' first
      | ((with_reducible apply XBr.tt); conv => whnf)
      | ((with_reducible apply XBr.ff); conv => whnf)
      | (with_reducible apply XBr.not)
      | ((with_reducible apply XBr.dec) <;> (intro h; first | (exfalso; omega) | ((try simp only [List.length_map] at h); first | (exfalso; omega) | (conv => whnf))))
      | ((with_reducible apply XBr.beq) <;> (intro h; first | (exfalso; omega) | (conv => whnf)))
      | ((with_reducible apply XBr.bne) <;> (intro h; first | (exfalso; omega) | (conv => whnf)))
      | ((with_reducible refine XInt.i64 (by omega) (by omega) ?_); conv => whnf)
      | ((with_reducible refine XHold.mk ?_ ?_); (first | omega | rfl | decide | exact ⟨rfl, by decide, rfl⟩ | exact wideI _ | exact widePr _ | exact wideSk _ | (unfold Room; constructor <;> ((try simp) <;> omega)) | exact ⟨rfl, by simp only [List.length_map], by unfold Room; constructor <;> ((try simp) <;> omega)⟩ | exact ⟨by omega, by omega, by unfold Room; constructor <;> ((try simp) <;> omega)⟩); conv => whnf)
      | ((with_reducible refine XIx.nat ?_ ?_ ?_); omega; (intro _; rfl); conv => whnf)
      | ((with_reducible refine XIx.map ?_ ?_ ?_ ?_); omega; omega; (intro _; rfl); conv => whnf)
      | (with_reducible apply XAnd.mk)
      | ((with_reducible apply Chk.go); conv => whnf)
      | ((with_reducible apply ChkA.go); conv => whnf)
      | ((with_reducible apply ChkF.go); conv => whnf)
      | ((with_reducible apply ChkB.go); conv => whnf)
      | (exact XSame.mk rfl rfl)
      | (exact XSame.mk (by first | rfl | (simp only [List.map_append, List.length_append, List.length_map]; done) | (simp only [List.map_append, List.length_append, List.length_map]; rfl)) (by first | rfl | (simp only [List.map_append]; done) | (simp only [List.map_append]; rfl)))
      | (with_reducible exact trivial)
      | ((with_reducible refine xdrop_app (by rw [List.length_map]; omega) ?_); conv => whnf)
      | ((with_reducible refine XArr.ints (by omega) (by omega) (by omega) ?_); conv => whnf)
      | ((with_reducible refine XArr.intsA (by omega) (by omega) (by omega) ?_); conv => whnf)
      | ((with_reducible refine XArr.nats ?_ ?_ ?_); omega; omega; conv => whnf)
      | ((with_reducible refine XArr.natsA ?_ ?_ ?_); omega; omega; conv => whnf)
      | ((with_reducible apply XArr.pim0); conv => whnf)
      | ((with_reducible apply XArr.pim1); conv => whnf)
      | ((with_reducible refine XArr.ptr ?_ ?_ ?_); omega; omega; conv => whnf)
      | ((with_reducible apply XBr.mk') <;> (intro h; conv => whnf))
  refine XCall.ret cEq4 ?_
  conv => whnf
  repeat' first
      | ((with_reducible apply XBr.tt); conv => whnf)
      | ((with_reducible apply XBr.ff); conv => whnf)
      | (with_reducible apply XBr.not)
      | ((with_reducible apply XBr.dec) <;> (intro h; first | (exfalso; omega) | ((try simp only [List.length_map] at h); first | (exfalso; omega) | (conv => whnf))))
      | ((with_reducible apply XBr.beq) <;> (intro h; first | (exfalso; omega) | (conv => whnf)))
      | ((with_reducible apply XBr.bne) <;> (intro h; first | (exfalso; omega) | (conv => whnf)))
      | ((with_reducible refine XInt.i64 (by omega) (by omega) ?_); conv => whnf)
      | ((with_reducible refine XHold.mk ?_ ?_); (first | omega | rfl | decide | exact ⟨rfl, by decide, rfl⟩ | exact wideI _ | exact widePr _ | exact wideSk _ | (unfold Room; constructor <;> ((try simp) <;> omega)) | exact ⟨rfl, by simp only [List.length_map], by unfold Room; constructor <;> ((try simp) <;> omega)⟩ | exact ⟨by omega, by omega, by unfold Room; constructor <;> ((try simp) <;> omega)⟩); conv => whnf)
      | ((with_reducible refine XIx.nat ?_ ?_ ?_); omega; (intro _; rfl); conv => whnf)
      | ((with_reducible refine XIx.map ?_ ?_ ?_ ?_); omega; omega; (intro _; rfl); conv => whnf)
      | (with_reducible apply XAnd.mk)
      | ((with_reducible apply Chk.go); conv => whnf)
      | ((with_reducible apply ChkA.go); conv => whnf)
      | ((with_reducible apply ChkF.go); conv => whnf)
      | ((with_reducible apply ChkB.go); conv => whnf)
      | (exact XSame.mk rfl rfl)
      | (exact XSame.mk (by first | rfl | (simp only [List.map_append, List.length_append, List.length_map]; done) | (simp only [List.map_append, List.length_append, List.length_map]; rfl)) (by first | rfl | (simp only [List.map_append]; done) | (simp only [List.map_append]; rfl)))
      | (with_reducible exact trivial)
      | ((with_reducible refine xdrop_app (by rw [List.length_map]; omega) ?_); conv => whnf)
      | ((with_reducible refine XArr.ints (by omega) (by omega) (by omega) ?_); conv => whnf)
      | ((with_reducible refine XArr.intsA (by omega) (by omega) (by omega) ?_); conv => whnf)
      | ((with_reducible refine XArr.nats ?_ ?_ ?_); omega; omega; conv => whnf)
      | ((with_reducible refine XArr.natsA ?_ ?_ ?_); omega; omega; conv => whnf)
      | ((with_reducible apply XArr.pim0); conv => whnf)
      | ((with_reducible apply XArr.pim1); conv => whnf)
      | ((with_reducible refine XArr.ptr ?_ ?_ ?_); omega; omega; conv => whnf)
      | ((with_reducible apply XBr.mk') <;> (intro h; conv => whnf))
  exact ⟨Froz.low rfl⟩
end GA
end

section
/- The statement SackGauge. -/
namespace GA
open Go Go.RowKit Go.Proofs
set_option pp.deepTerms true
set_option maxRecDepth 8000
set_option linter.unusedVariables false
set_option linter.unusedSimpArgs false

theorem off_in (n lo hi : Int) : offB n lo hi = !inB n lo hi := by
  unfold offB inB; rw [Bool.eq_iff_iff]; simp <;> omega
theorem sizes_eq (xs : List Int) (c : Int) : sizesR xs c = riddledR xs c := by
  unfold sizesR riddledR
  by_cases h : 100 < xs.length
  · rw [if_pos h, if_pos h]
  · rw [if_neg h, if_neg h]
    have e : xs.any (offB · 1 40) = !xs.all (inB · 1 40) := by
      simp only [off_in, List.not_all_eq_any_not]
    rw [e, off_in]
    cases xs.all (inB · 1 40) <;> cases inB c 1 40 <;> rfl
theorem gaugeR_form (xs : List Int) (most e : Int) : ∃ i j : Int, gaugeR xs most e = .tup [.int .i64 i, .int .i64 j] := by
  unfold gaugeR
  split
  · exact ⟨_, _, rfl⟩
  · split
    · exact ⟨_, _, rfl⟩
    · split <;> exact ⟨_, _, rfl⟩
theorem sackGauge_c (nl : Bool) (xs : List Int) (g most : Int) : Comp Try.prog 5 [.sl nl (ints xs), .int .i64 g, .int .i64 most] (.bool true) := by
  by_cases hx : 130 < xs.length
  · refine Comp.body (T := tab) (res := [.tmp 6]) tab_ok [] Try.func5 rfl (by kernel_rfl) Try.ntmps5 rfl (by simp only [List.length_cons, List.length_nil]; decide) (by simp only [lowL, AV.low, lowI]; rfl) ?_; conv => whnf
    repeat' first
        | ((with_reducible apply XBr.tt); conv => whnf)
        | ((with_reducible apply XBr.ff); conv => whnf)
        | (with_reducible apply XBr.not)
        | ((with_reducible apply XBr.dec) <;> (intro h; first | (exfalso; omega) | ((try simp only [List.length_map] at h); first | (exfalso; omega) | (conv => whnf))))
        | ((with_reducible apply XBr.beq) <;> (intro h; first | (exfalso; omega) | (conv => whnf)))
        | ((with_reducible apply XBr.bne) <;> (intro h; first | (exfalso; omega) | (conv => whnf)))
        | ((with_reducible refine XInt.i64 (by omega) (by omega) ?_); conv => whnf)
        | ((with_reducible refine XHold.mk ?_ ?_); (first | omega | rfl | decide | exact ⟨rfl, by decide, rfl⟩ | exact wideI _ | exact widePr _ | exact wideSk _ | (unfold Room; constructor <;> ((try simp) <;> omega)) | exact ⟨rfl, by simp only [List.length_map], by unfold Room; constructor <;> ((try simp) <;> omega)⟩ | exact ⟨by omega, by omega, by unfold Room; constructor <;> ((try simp) <;> omega)⟩); conv => whnf)
        | ((with_reducible refine XIx.nat ?_ ?_ ?_); omega; (intro _; rfl); conv => whnf)
        | ((with_reducible refine XIx.map ?_ ?_ ?_ ?_); omega; omega; (intro _; rfl); conv => whnf)
        | (with_reducible apply XAnd.mk)
        | ((with_reducible apply Chk.go); conv => whnf)
        | ((with_reducible apply ChkA.go); conv => whnf)
        | ((with_reducible apply ChkF.go); conv => whnf)
        | ((with_reducible apply ChkB.go); conv => whnf)
        | (exact XSame.mk rfl rfl)
        | (exact XSame.mk (by first | rfl | (simp only [List.map_append, List.length_append, List.length_map]; done) | (simp only [List.map_append, List.length_append, List.length_map]; rfl)) (by first | rfl | (simp only [List.map_append]; done) | (simp only [List.map_append]; rfl)))
        | (with_reducible exact trivial)
        | ((with_reducible refine xdrop_app (by rw [List.length_map]; omega) ?_); conv => whnf)
        | ((with_reducible refine XArr.ints (by omega) (by omega) (by omega) ?_); conv => whnf)
        | ((with_reducible refine XArr.intsA (by omega) (by omega) (by omega) ?_); conv => whnf)
        | ((with_reducible refine XArr.nats ?_ ?_ ?_); omega; omega; conv => whnf)
        | ((with_reducible refine XArr.natsA ?_ ?_ ?_); omega; omega; conv => whnf)
        | ((with_reducible apply XArr.pim0); conv => whnf)
        | ((with_reducible apply XArr.pim1); conv => whnf)
        | ((with_reducible refine XArr.ptr ?_ ?_ ?_); omega; omega; conv => whnf)
        | ((with_reducible apply XBr.mk') <;> (intro h; conv => whnf))
    refine XCall.ret awake_c ?_
    conv => whnf
    exact XOut.bool rfl
  · have hl : xs.length ≤ 100000 := by omega
    have hs := sizes_eq xs g
    have hs1 := sizes_eq xs 1
    obtain ⟨i, j, hg⟩ := gaugeR_form xs most (riddledR xs 1)
    have c1 := gauge_c false xs most hl
    have c2 := refGauge_c nl xs most hl
    rw [hs1] at c2
    rw [hg] at c1 c2
    have c3 := sizes_c nl xs g
    rw [hs] at c3
    have c4 := riddle_c false xs g hl
    unfold riddleR riddleA at c4
    by_cases he : riddledR xs g = 0
    · rw [if_pos he] at c4
      rw [he] at c3
      have c5 := refRiddle_c nl xs g hl
      have hk := eq_int (keptL xs g).isEmpty (keptL xs g).isEmpty (keptL xs g) (keptL xs g) (by have := kept_le xs g xs.length; rw [List.take_length] at this; omega)
      have ht := eq_int (thruL xs g).isEmpty (thruL xs g).isEmpty (thruL xs g) (thruL xs g) (by have := thru_le xs g xs.length; rw [List.take_length] at this; omega)
      have hd := eq_int false nl xs xs hl
      rw [beq_self_eq_true] at hk ht hd
      refine Comp.body (T := tab) (res := [.tmp 6]) tab_ok [] Try.func5 rfl (by kernel_rfl) Try.ntmps5 rfl (by simp only [List.length_cons, List.length_nil]; decide) (by simp only [lowL, AV.low, lowI]; rfl) ?_; conv => whnf
      repeat' first
          | ((with_reducible apply XBr.tt); conv => whnf)
          | ((with_reducible apply XBr.ff); conv => whnf)
          | (with_reducible apply XBr.not)
          | ((with_reducible apply XBr.dec) <;> (intro h; first | (exfalso; omega) | ((try simp only [List.length_map] at h); first | (exfalso; omega) | (conv => whnf))))
          | ((with_reducible apply XBr.beq) <;> (intro h; first | (exfalso; omega) | (conv => whnf)))
          | ((with_reducible apply XBr.bne) <;> (intro h; first | (exfalso; omega) | (conv => whnf)))
          | ((with_reducible refine XInt.i64 (by omega) (by omega) ?_); conv => whnf)
          | ((with_reducible refine XHold.mk ?_ ?_); (first | omega | rfl | decide | exact ⟨rfl, by decide, rfl⟩ | exact wideI _ | exact widePr _ | exact wideSk _ | (unfold Room; constructor <;> ((try simp) <;> omega)) | exact ⟨rfl, by simp only [List.length_map], by unfold Room; constructor <;> ((try simp) <;> omega)⟩ | exact ⟨by omega, by omega, by unfold Room; constructor <;> ((try simp) <;> omega)⟩); conv => whnf)
          | ((with_reducible refine XIx.nat ?_ ?_ ?_); omega; (intro _; rfl); conv => whnf)
          | ((with_reducible refine XIx.map ?_ ?_ ?_ ?_); omega; omega; (intro _; rfl); conv => whnf)
          | (with_reducible apply XAnd.mk)
          | ((with_reducible apply Chk.go); conv => whnf)
          | ((with_reducible apply ChkA.go); conv => whnf)
          | ((with_reducible apply ChkF.go); conv => whnf)
          | ((with_reducible apply ChkB.go); conv => whnf)
          | (exact XSame.mk rfl rfl)
          | (exact XSame.mk (by first | rfl | (simp only [List.map_append, List.length_append, List.length_map]; done) | (simp only [List.map_append, List.length_append, List.length_map]; rfl)) (by first | rfl | (simp only [List.map_append]; done) | (simp only [List.map_append]; rfl)))
          | (with_reducible exact trivial)
          | ((with_reducible refine xdrop_app (by rw [List.length_map]; omega) ?_); conv => whnf)
          | ((with_reducible refine XArr.ints (by omega) (by omega) (by omega) ?_); conv => whnf)
          | ((with_reducible refine XArr.intsA (by omega) (by omega) (by omega) ?_); conv => whnf)
          | ((with_reducible refine XArr.nats ?_ ?_ ?_); omega; omega; conv => whnf)
          | ((with_reducible refine XArr.natsA ?_ ?_ ?_); omega; omega; conv => whnf)
          | ((with_reducible apply XArr.pim0); conv => whnf)
          | ((with_reducible apply XArr.pim1); conv => whnf)
          | ((with_reducible refine XArr.ptr ?_ ?_ ?_); omega; omega; conv => whnf)
          | (refine XCall.ret (dup_int nl xs hl) ?_; conv => whnf)
          | (refine XCall.ret c4 ?_; conv => whnf)
          | (refine XCall.ret c3 ?_; conv => whnf)
          | (refine XCall.ret c5 ?_; conv => whnf)
          | (refine XCall.ret hk ?_; conv => whnf)
          | (refine XCall.ret ht ?_; conv => whnf)
          | (refine XCall.ret c1 ?_; conv => whnf)
          | (refine XCall.ret c2 ?_; conv => whnf)
          | (refine XCall.ret hd ?_; conv => whnf)
          | (refine XCall.ret awake_c ?_; conv => whnf)
          | ((with_reducible apply XBr.mk') <;> (intro h; conv => whnf))
      exact XOut.bool rfl
    · rw [if_neg he] at c4
      have hn := eq_int true true [] [] (by decide)
      have hd := eq_int false nl xs xs hl
      rw [beq_self_eq_true] at hn hd
      refine Comp.body (T := tab) (res := [.tmp 6]) tab_ok [] Try.func5 rfl (by kernel_rfl) Try.ntmps5 rfl (by simp only [List.length_cons, List.length_nil]; decide) (by simp only [lowL, AV.low, lowI]; rfl) ?_; conv => whnf
      repeat' first
          | ((with_reducible apply XBr.tt); conv => whnf)
          | ((with_reducible apply XBr.ff); conv => whnf)
          | (with_reducible apply XBr.not)
          | ((with_reducible apply XBr.dec) <;> (intro h; first | (exfalso; omega) | ((try simp only [List.length_map] at h); first | (exfalso; omega) | (conv => whnf))))
          | ((with_reducible apply XBr.beq) <;> (intro h; first | (exfalso; omega) | (conv => whnf)))
          | ((with_reducible apply XBr.bne) <;> (intro h; first | (exfalso; omega) | (conv => whnf)))
          | ((with_reducible refine XInt.i64 (by omega) (by omega) ?_); conv => whnf)
          | ((with_reducible refine XHold.mk ?_ ?_); (first | omega | rfl | decide | exact ⟨rfl, by decide, rfl⟩ | exact wideI _ | exact widePr _ | exact wideSk _ | (unfold Room; constructor <;> ((try simp) <;> omega)) | exact ⟨rfl, by simp only [List.length_map], by unfold Room; constructor <;> ((try simp) <;> omega)⟩ | exact ⟨by omega, by omega, by unfold Room; constructor <;> ((try simp) <;> omega)⟩); conv => whnf)
          | ((with_reducible refine XIx.nat ?_ ?_ ?_); omega; (intro _; rfl); conv => whnf)
          | ((with_reducible refine XIx.map ?_ ?_ ?_ ?_); omega; omega; (intro _; rfl); conv => whnf)
          | (with_reducible apply XAnd.mk)
          | ((with_reducible apply Chk.go); conv => whnf)
          | ((with_reducible apply ChkA.go); conv => whnf)
          | ((with_reducible apply ChkF.go); conv => whnf)
          | ((with_reducible apply ChkB.go); conv => whnf)
          | (exact XSame.mk rfl rfl)
          | (exact XSame.mk (by first | rfl | (simp only [List.map_append, List.length_append, List.length_map]; done) | (simp only [List.map_append, List.length_append, List.length_map]; rfl)) (by first | rfl | (simp only [List.map_append]; done) | (simp only [List.map_append]; rfl)))
          | (with_reducible exact trivial)
          | ((with_reducible refine xdrop_app (by rw [List.length_map]; omega) ?_); conv => whnf)
          | ((with_reducible refine XArr.ints (by omega) (by omega) (by omega) ?_); conv => whnf)
          | ((with_reducible refine XArr.intsA (by omega) (by omega) (by omega) ?_); conv => whnf)
          | ((with_reducible refine XArr.nats ?_ ?_ ?_); omega; omega; conv => whnf)
          | ((with_reducible refine XArr.natsA ?_ ?_ ?_); omega; omega; conv => whnf)
          | ((with_reducible apply XArr.pim0); conv => whnf)
          | ((with_reducible apply XArr.pim1); conv => whnf)
          | ((with_reducible refine XArr.ptr ?_ ?_ ?_); omega; omega; conv => whnf)
          | (refine XCall.ret (dup_int nl xs hl) ?_; conv => whnf)
          | (refine XCall.ret c4 ?_; conv => whnf)
          | (refine XCall.ret c3 ?_; conv => whnf)
          | (refine XCall.ret hn ?_; conv => whnf)
          | (refine XCall.ret c1 ?_; conv => whnf)
          | (refine XCall.ret c2 ?_; conv => whnf)
          | (refine XCall.ret hd ?_; conv => whnf)
          | (refine XCall.ret awake_c ?_; conv => whnf)
          | ((with_reducible apply XBr.mk') <;> (intro h; conv => whnf))
      exact XOut.bool rfl
end GA
end

section
/- Contracts: heaps of numbers. -/
namespace GA
open Go Go.RowKit Go.Proofs
set_option pp.deepTerms true
set_option maxRecDepth 8000
set_option linter.unusedVariables false

abbrev bytes (xs : List Int) : List AV := xs.map (.int .u8)
theorem lowBy {n : Nat} (xs : List Int) : lowL n (bytes xs) = true := lowL_map (fun _ => rfl) xs
/-- A heap of numbers. -/
structure Hp where
  nl : Bool
  bs : List Int
  nx : Nat
  rd : Int
  deriving Inhabited
def hpC (h : Hp) : Blk := .cells [.sl h.nl (bytes h.bs), .int .i64 h.nx, .int .u32 h.rd]
structure Hp.Ok (h : Hp) : Prop where
  l : h.bs.length < 9223372036854775808
  n : h.nx < h.bs.length ∨ h.nx = 0
def hpN (h : Hp) : Int := IntKind.u32.wrap (40503 * IntKind.u32.wrap (h.rd + 1))
def hpM (h : Hp) : Int := if h.nx < h.bs.length then IntKind.u32.wrap (hpN h + IntKind.u32.wrap (331 * IntKind.u32.wrap (h.bs.getD h.nx default))) else hpN h
def hpV' (n : Int) : Int := iand .u32 (ixor .u32 n (n.fdiv (2 ^ (min (9 : Int).toNat IntKind.u32.bits)))) 32767
def hpV (h : Hp) : Int := hpV' (hpM h)
def hpS (h : Hp) : Hp := if h.bs.length ≤ h.nx + 1 then ⟨h.nl, h.bs, 0, IntKind.u32.wrap (h.rd + 1)⟩ else ⟨h.nl, h.bs, h.nx + 1, h.rd⟩
theorem hpV_bound (n : Int) : 0 ≤ hpV' n ∧ hpV' n ≤ 32767 := by
  unfold hpV' iand
  have h1 : (BitVec.ofInt IntKind.u32.bits (ixor .u32 n (n.fdiv (2 ^ (min (9 : Int).toNat IntKind.u32.bits)))) &&& BitVec.ofInt IntKind.u32.bits 32767).toNat ≤ 32767 := by
    rw [BitVec.toNat_and]
    exact Nat.le_trans Nat.and_le_right (by decide)
  generalize (BitVec.ofInt IntKind.u32.bits (ixor .u32 n (n.fdiv (2 ^ (min (9 : Int).toNat IntKind.u32.bits)))) &&& BitVec.ofInt IntKind.u32.bits 32767).toNat = m at h1 ⊢
  simp only [IntKind.wrap, IntKind.bits, IntKind.signed]
  constructor <;> simp <;> omega
theorem hpS_ok {h : Hp} (o : h.Ok) : (hpS h).Ok := by
  unfold hpS; split
  · exact ⟨o.l, .inr rfl⟩
  · exact ⟨o.l, .inl (by dsimp only; omega)⟩
theorem hpC_low {n : Nat} (h : Hp) : (hpC h).low n = true := by simp only [hpC, Blk.low, lowL, AV.low, lowBy]; rfl
theorem hpC_ren (f : Nat → Nat) (h : Hp) : (hpC h).ren f = hpC h := Blk.ren_low (n := 0) (fun i hi => by omega) (hpC_low h)

theorem XInt.w {q : IntKind} {x : Int} {k : AV → Prop} (h : k (.int q (q.wrap x))) : XInt q x k := ⟨h⟩

/-- A call that is lent a heap. -/
def HpOk (f : FuncId) (qs : List AV) (h : Hp) (r : AV) (h' : Hp) : Prop :=
  lowL 0 qs = true ∧ ACall Try.prog f (.ptr 0 0 :: qs) [hpC h] fun r' H' => r' = r ∧ H' = [hpC h']
theorem XCall.hp {f : FuncId} {qs : List AV} {h h' : Hp} {r : AV} (x : HpOk f qs h r h') (hr : r.low 0 = true) {H : List Blk} {k : AV → List Blk → Prop} {j : Nat} (h0 : lget H j = some (hpC h))
    (hk : k r (H.set j (hpC h'))) : XCall Try.prog f (.ptr j 0 :: qs) H k := by
  constructor
  have e := ACall.frame (ρ := fun i => j + i) (H := H) (k := k) x.2 (fun a b _ _ h => by have : j + a = j + b := h; omega) ?_ (fun y hy => by simp at hy; subst hy; exact hpC_low h) ?_ ?_
  · have hd : renL (fun i => j + i) qs = qs := renL_low0 x.1
    rw [List.map_cons, ← renL_eq, hd] at e
    exact e
  · intro i x1 hi
    rw [lget_eq] at h0
    rcases i with _ | i
    · simp only [List.getElem?_cons_zero, Option.some.injEq] at hi; subst hi
      rw [hpC_ren]; exact h0
    · simp at hi
  · simp only [lowL, AV.low, lowL_mono (Nat.zero_le _) x.1]; rfl
  · rintro r1 H1' ⟨rfl, rfl⟩
    rw [lget_eq] at h0
    have hj := (List.getElem?_eq_some_iff.1 h0).1
    refine ⟨rfl, H.set j (hpC h'), by simp, fun i x1 hi => ?_, fun q hq => ?_, ?_⟩
    · rcases i with _ | i
      · simp only [List.getElem?_cons_zero, Option.some.injEq] at hi; subst hi
        rw [hpC_ren]; simp [hj]
      · simp at hi
    · exact List.getElem?_set_ne (by have := hq 0 (by simp); simpa using this)
    · rw [AV.ren_low (n := 0) (fun i hi => by omega) hr]; exact hk

theorem hpM_lt {u : Hp} (h : (u.nx : Int) < u.bs.length) : hpM u = IntKind.u32.wrap (hpN u + IntKind.u32.wrap (331 * IntKind.u32.wrap (u.bs.getD u.nx default))) := if_pos (by omega)
theorem hpM_ge {u : Hp} (h : ¬ (u.nx : Int) < u.bs.length) : hpM u = hpN u := if_neg (by omega)
theorem hpS_end {u : Hp} (h : (u.bs.length : Int) ≤ u.nx + 1) : [hpC (hpS u)] = [Blk.cells [AV.sl u.nl (bytes u.bs), AV.int IntKind.i64 0, AV.int IntKind.u32 (IntKind.u32.wrap (u.rd + 1))]] := by
  unfold hpS; rw [if_pos (by omega)]; rfl
theorem hpS_on {u : Hp} (h : ¬ (u.bs.length : Int) ≤ u.nx + 1) : [hpC (hpS u)] = [Blk.cells [AV.sl u.nl (bytes u.bs), AV.int IntKind.i64 (u.nx + 1), AV.int IntKind.u32 u.rd]] := by
  unfold hpS; rw [if_neg (by omega)]; rfl
theorem i64_small {n : Int} (h1 : 0 ≤ n) (h2 : n ≤ 32767) : IntKind.i64.wrap n = n := by
  simp only [IntKind.wrap, IntKind.bits, IntKind.signed]; simp; omega
theorem pick_end {u : Hp} {n : Int} {H1 : List Blk} (hn : hpM u = n) (hS : [hpC (hpS u)] = H1) : XCut [hpC u].length [] H1 (.int .i64 (IntKind.i64.wrap (hpV' n))) fun r' H' => r' = .int .i64 (hpV u) ∧ H' = [hpC (hpS u)] := by
  subst hn; subst hS
  obtain ⟨h1, h2⟩ := hpV_bound (hpM u)
  rw [i64_small h1 h2]
  exact XCut.mk' [hpC (hpS u)] [] rfl rfl (fun x hx => by simp only [List.mem_cons, List.not_mem_nil, or_false] at hx; subst hx; exact hpC_low _) rfl ⟨rfl, rfl⟩
theorem pick_c (u : Hp) (o : u.Ok) : HpOk 86 [] u (.int .i64 (hpV u)) (hpS u) := by
  have hl := o.l
  have hn := o.n
  refine ⟨rfl, ?_⟩
  refine ACall.bodyK (T := tab) (res := [.tmp 2]) tab_ok [] Try.func86 rfl (by kernel_rfl) Try.ntmps86 rfl (by simp only [List.length_cons, List.length_nil]; decide) ?_; conv => whnf
  repeat' first
      | ((with_reducible apply XBr.tt); conv => whnf)
      | ((with_reducible apply XBr.ff); conv => whnf)
      | (with_reducible apply XBr.not)
      | ((with_reducible apply XBr.dec) <;> (intro h; first | (exfalso; omega) | ((try simp only [List.length_map] at h); first | (exfalso; omega) | (conv => whnf))))
      | ((with_reducible apply XBr.beq) <;> (intro h; first | (exfalso; omega) | (conv => whnf)))
      | ((with_reducible apply XBr.bne) <;> (intro h; first | (exfalso; omega) | (conv => whnf)))
      | ((with_reducible refine XInt.i64 (by omega) (by omega) ?_); conv => whnf)
      | ((with_reducible refine XHold.mk ?_ ?_); (first | omega | rfl | decide | exact ⟨rfl, by decide, rfl⟩ | exact wideI _ | exact widePr _ | exact wideSk _ | (unfold Room; constructor <;> ((try simp) <;> omega)) | exact ⟨rfl, by simp only [List.length_map], by unfold Room; constructor <;> ((try simp) <;> omega)⟩ | exact ⟨by omega, by omega, by unfold Room; constructor <;> ((try simp) <;> omega)⟩); conv => whnf)
      | ((with_reducible refine XIx.nat ?_ ?_ ?_); omega; (intro _; rfl); conv => whnf)
      | ((with_reducible refine XIx.map ?_ ?_ ?_ ?_); omega; omega; (intro _; rfl); conv => whnf)
      | (with_reducible apply XAnd.mk)
      | ((with_reducible apply Chk.go); conv => whnf)
      | ((with_reducible apply ChkA.go); conv => whnf)
      | ((with_reducible apply ChkF.go); conv => whnf)
      | ((with_reducible apply ChkB.go); conv => whnf)
      | (exact XSame.mk rfl rfl)
      | (exact XSame.mk (by first | rfl | (simp only [List.map_append, List.length_append, List.length_map]; done) | (simp only [List.map_append, List.length_append, List.length_map]; rfl)) (by first | rfl | (simp only [List.map_append]; done) | (simp only [List.map_append]; rfl)))
      | (with_reducible exact trivial)
      | ((with_reducible refine xdrop_app (by rw [List.length_map]; omega) ?_); conv => whnf)
      | ((with_reducible refine XArr.ints (by omega) (by omega) (by omega) ?_); conv => whnf)
      | ((with_reducible refine XArr.intsA (by omega) (by omega) (by omega) ?_); conv => whnf)
      | ((with_reducible refine XArr.nats ?_ ?_ ?_); omega; omega; conv => whnf)
      | ((with_reducible refine XArr.natsA ?_ ?_ ?_); omega; omega; conv => whnf)
      | ((with_reducible apply XArr.pim0); conv => whnf)
      | ((with_reducible apply XArr.pim1); conv => whnf)
      | ((with_reducible refine XArr.ptr ?_ ?_ ?_); omega; omega; conv => whnf)
      | ((refine XInt.w ?_); conv => whnf)
      | ((with_reducible apply XBr.mk') <;> (intro h; conv => whnf))
  apply Walk.drawX tab_ok mixed_ok [] [] (hsK _) [_, _, _, _, _, _, _, _, _, _] (by kernel_rfl) rfl
  · skip
    repeat' first
        | ((with_reducible apply XBr.tt); conv => whnf)
        | ((with_reducible apply XBr.ff); conv => whnf)
        | (with_reducible apply XBr.not)
        | ((with_reducible apply XBr.dec) <;> (intro h; first | (exfalso; omega) | ((try simp only [List.length_map] at h); first | (exfalso; omega) | (conv => whnf))))
        | ((with_reducible apply XBr.beq) <;> (intro h; first | (exfalso; omega) | (conv => whnf)))
        | ((with_reducible apply XBr.bne) <;> (intro h; first | (exfalso; omega) | (conv => whnf)))
        | ((with_reducible refine XInt.i64 (by omega) (by omega) ?_); conv => whnf)
        | ((with_reducible refine XHold.mk ?_ ?_); (first | omega | rfl | decide | exact ⟨rfl, by decide, rfl⟩ | exact wideI _ | exact widePr _ | exact wideSk _ | (unfold Room; constructor <;> ((try simp) <;> omega)) | exact ⟨rfl, by simp only [List.length_map], by unfold Room; constructor <;> ((try simp) <;> omega)⟩ | exact ⟨by omega, by omega, by unfold Room; constructor <;> ((try simp) <;> omega)⟩); conv => whnf)
        | ((with_reducible refine XIx.nat ?_ ?_ ?_); omega; (intro _; rfl); conv => whnf)
        | ((with_reducible refine XIx.map ?_ ?_ ?_ ?_); omega; omega; (intro _; rfl); conv => whnf)
        | (with_reducible apply XAnd.mk)
        | ((with_reducible apply Chk.go); conv => whnf)
        | ((with_reducible apply ChkA.go); conv => whnf)
        | ((with_reducible apply ChkF.go); conv => whnf)
        | ((with_reducible apply ChkB.go); conv => whnf)
        | (exact XSame.mk rfl rfl)
        | (exact XSame.mk (by first | rfl | (simp only [List.map_append, List.length_append, List.length_map]; done) | (simp only [List.map_append, List.length_append, List.length_map]; rfl)) (by first | rfl | (simp only [List.map_append]; done) | (simp only [List.map_append]; rfl)))
        | (with_reducible exact trivial)
        | ((with_reducible refine xdrop_app (by rw [List.length_map]; omega) ?_); conv => whnf)
        | ((with_reducible refine XArr.ints (by omega) (by omega) (by omega) ?_); conv => whnf)
        | ((with_reducible refine XArr.intsA (by omega) (by omega) (by omega) ?_); conv => whnf)
        | ((with_reducible refine XArr.nats ?_ ?_ ?_); omega; omega; conv => whnf)
        | ((with_reducible refine XArr.natsA ?_ ?_ ?_); omega; omega; conv => whnf)
        | ((with_reducible apply XArr.pim0); conv => whnf)
        | ((with_reducible apply XArr.pim1); conv => whnf)
        | ((with_reducible refine XArr.ptr ?_ ?_ ?_); omega; omega; conv => whnf)
        | ((with_reducible apply XBr.mk') <;> (intro h; conv => whnf))
  · skip
    repeat' first
        | ((with_reducible apply XBr.tt); conv => whnf)
        | ((with_reducible apply XBr.ff); conv => whnf)
        | (with_reducible apply XBr.not)
        | ((with_reducible apply XBr.dec) <;> (intro h; first | (exfalso; omega) | ((try simp only [List.length_map] at h); first | (exfalso; omega) | (conv => whnf))))
        | ((with_reducible apply XBr.beq) <;> (intro h; first | (exfalso; omega) | (conv => whnf)))
        | ((with_reducible apply XBr.bne) <;> (intro h; first | (exfalso; omega) | (conv => whnf)))
        | ((with_reducible refine XInt.i64 (by omega) (by omega) ?_); conv => whnf)
        | ((with_reducible refine XHold.mk ?_ ?_); (first | omega | rfl | decide | exact ⟨rfl, by decide, rfl⟩ | exact wideI _ | exact widePr _ | exact wideSk _ | (unfold Room; constructor <;> ((try simp) <;> omega)) | exact ⟨rfl, by simp only [List.length_map], by unfold Room; constructor <;> ((try simp) <;> omega)⟩ | exact ⟨by omega, by omega, by unfold Room; constructor <;> ((try simp) <;> omega)⟩); conv => whnf)
        | ((with_reducible refine XIx.nat ?_ ?_ ?_); omega; (intro _; rfl); conv => whnf)
        | ((with_reducible refine XIx.map ?_ ?_ ?_ ?_); omega; omega; (intro _; rfl); conv => whnf)
        | (with_reducible apply XAnd.mk)
        | ((with_reducible apply Chk.go); conv => whnf)
        | ((with_reducible apply ChkA.go); conv => whnf)
        | ((with_reducible apply ChkF.go); conv => whnf)
        | ((with_reducible apply ChkB.go); conv => whnf)
        | (exact XSame.mk rfl rfl)
        | (exact XSame.mk (by first | rfl | (simp only [List.map_append, List.length_append, List.length_map]; done) | (simp only [List.map_append, List.length_append, List.length_map]; rfl)) (by first | rfl | (simp only [List.map_append]; done) | (simp only [List.map_append]; rfl)))
        | (with_reducible exact trivial)
        | ((with_reducible refine xdrop_app (by rw [List.length_map]; omega) ?_); conv => whnf)
        | ((with_reducible refine XArr.ints (by omega) (by omega) (by omega) ?_); conv => whnf)
        | ((with_reducible refine XArr.intsA (by omega) (by omega) (by omega) ?_); conv => whnf)
        | ((with_reducible refine XArr.nats ?_ ?_ ?_); omega; omega; conv => whnf)
        | ((with_reducible refine XArr.natsA ?_ ?_ ?_); omega; omega; conv => whnf)
        | ((with_reducible apply XArr.pim0); conv => whnf)
        | ((with_reducible apply XArr.pim1); conv => whnf)
        | ((with_reducible refine XArr.ptr ?_ ?_ ?_); omega; omega; conv => whnf)
        | ((with_reducible apply XBr.mk') <;> (intro h; conv => whnf))
  · conv => whnf
    repeat' first
        | ((with_reducible apply XBr.tt); conv => whnf)
        | ((with_reducible apply XBr.ff); conv => whnf)
        | (with_reducible apply XBr.not)
        | ((with_reducible apply XBr.dec) <;> (intro h; first | (exfalso; omega) | ((try simp only [List.length_map] at h); first | (exfalso; omega) | (conv => whnf))))
        | ((with_reducible apply XBr.beq) <;> (intro h; first | (exfalso; omega) | (conv => whnf)))
        | ((with_reducible apply XBr.bne) <;> (intro h; first | (exfalso; omega) | (conv => whnf)))
        | ((with_reducible refine XInt.i64 (by omega) (by omega) ?_); conv => whnf)
        | ((with_reducible refine XHold.mk ?_ ?_); (first | omega | rfl | decide | exact ⟨rfl, by decide, rfl⟩ | exact wideI _ | exact widePr _ | exact wideSk _ | (unfold Room; constructor <;> ((try simp) <;> omega)) | exact ⟨rfl, by simp only [List.length_map], by unfold Room; constructor <;> ((try simp) <;> omega)⟩ | exact ⟨by omega, by omega, by unfold Room; constructor <;> ((try simp) <;> omega)⟩); conv => whnf)
        | ((with_reducible refine XIx.nat ?_ ?_ ?_); omega; (intro _; rfl); conv => whnf)
        | ((with_reducible refine XIx.map ?_ ?_ ?_ ?_); omega; omega; (intro _; rfl); conv => whnf)
        | (with_reducible apply XAnd.mk)
        | ((with_reducible apply Chk.go); conv => whnf)
        | ((with_reducible apply ChkA.go); conv => whnf)
        | ((with_reducible apply ChkF.go); conv => whnf)
        | ((with_reducible apply ChkB.go); conv => whnf)
        | (exact XSame.mk rfl rfl)
        | (exact XSame.mk (by first | rfl | (simp only [List.map_append, List.length_append, List.length_map]; done) | (simp only [List.map_append, List.length_append, List.length_map]; rfl)) (by first | rfl | (simp only [List.map_append]; done) | (simp only [List.map_append]; rfl)))
        | (with_reducible exact trivial)
        | ((with_reducible refine xdrop_app (by rw [List.length_map]; omega) ?_); conv => whnf)
        | ((with_reducible refine XArr.ints (by omega) (by omega) (by omega) ?_); conv => whnf)
        | ((with_reducible refine XArr.intsA (by omega) (by omega) (by omega) ?_); conv => whnf)
        | ((with_reducible refine XArr.nats ?_ ?_ ?_); omega; omega; conv => whnf)
        | ((with_reducible refine XArr.natsA ?_ ?_ ?_); omega; omega; conv => whnf)
        | ((with_reducible apply XArr.pim0); conv => whnf)
        | ((with_reducible apply XArr.pim1); conv => whnf)
        | ((with_reducible refine XArr.ptr ?_ ?_ ?_); omega; omega; conv => whnf)
        | ((with_reducible apply XBr.mk') <;> (intro h; conv => whnf))
    · apply Walk.drawX tab_ok mixed_ok [] [] (hsK _) [_, _, _, _, _, _, _, _, _, _, _, _, _, _, _] (by kernel_rfl) rfl
      · skip
        repeat' first
            | ((with_reducible apply XBr.tt); conv => whnf)
            | ((with_reducible apply XBr.ff); conv => whnf)
            | (with_reducible apply XBr.not)
            | ((with_reducible apply XBr.dec) <;> (intro h; first | (exfalso; omega) | ((try simp only [List.length_map] at h); first | (exfalso; omega) | (conv => whnf))))
            | ((with_reducible apply XBr.beq) <;> (intro h; first | (exfalso; omega) | (conv => whnf)))
            | ((with_reducible apply XBr.bne) <;> (intro h; first | (exfalso; omega) | (conv => whnf)))
            | ((with_reducible refine XInt.i64 (by omega) (by omega) ?_); conv => whnf)
            | ((with_reducible refine XHold.mk ?_ ?_); (first | omega | rfl | decide | exact ⟨rfl, by decide, rfl⟩ | exact wideI _ | exact widePr _ | exact wideSk _ | (unfold Room; constructor <;> ((try simp) <;> omega)) | exact ⟨rfl, by simp only [List.length_map], by unfold Room; constructor <;> ((try simp) <;> omega)⟩ | exact ⟨by omega, by omega, by unfold Room; constructor <;> ((try simp) <;> omega)⟩); conv => whnf)
            | ((with_reducible refine XIx.nat ?_ ?_ ?_); omega; (intro _; rfl); conv => whnf)
            | ((with_reducible refine XIx.map ?_ ?_ ?_ ?_); omega; omega; (intro _; rfl); conv => whnf)
            | (with_reducible apply XAnd.mk)
            | ((with_reducible apply Chk.go); conv => whnf)
            | ((with_reducible apply ChkA.go); conv => whnf)
            | ((with_reducible apply ChkF.go); conv => whnf)
            | ((with_reducible apply ChkB.go); conv => whnf)
            | (exact XSame.mk rfl rfl)
            | (exact XSame.mk (by first | rfl | (simp only [List.map_append, List.length_append, List.length_map]; done) | (simp only [List.map_append, List.length_append, List.length_map]; rfl)) (by first | rfl | (simp only [List.map_append]; done) | (simp only [List.map_append]; rfl)))
            | (with_reducible exact trivial)
            | ((with_reducible refine xdrop_app (by rw [List.length_map]; omega) ?_); conv => whnf)
            | ((with_reducible refine XArr.ints (by omega) (by omega) (by omega) ?_); conv => whnf)
            | ((with_reducible refine XArr.intsA (by omega) (by omega) (by omega) ?_); conv => whnf)
            | ((with_reducible refine XArr.nats ?_ ?_ ?_); omega; omega; conv => whnf)
            | ((with_reducible refine XArr.natsA ?_ ?_ ?_); omega; omega; conv => whnf)
            | ((with_reducible apply XArr.pim0); conv => whnf)
            | ((with_reducible apply XArr.pim1); conv => whnf)
            | ((with_reducible refine XArr.ptr ?_ ?_ ?_); omega; omega; conv => whnf)
            | ((refine XInt.w ?_); conv => whnf)
            | ((with_reducible apply XBr.mk') <;> (intro h; conv => whnf))
      · skip
        repeat' first
            | ((with_reducible apply XBr.tt); conv => whnf)
            | ((with_reducible apply XBr.ff); conv => whnf)
            | (with_reducible apply XBr.not)
            | ((with_reducible apply XBr.dec) <;> (intro h; first | (exfalso; omega) | ((try simp only [List.length_map] at h); first | (exfalso; omega) | (conv => whnf))))
            | ((with_reducible apply XBr.beq) <;> (intro h; first | (exfalso; omega) | (conv => whnf)))
            | ((with_reducible apply XBr.bne) <;> (intro h; first | (exfalso; omega) | (conv => whnf)))
            | ((with_reducible refine XInt.i64 (by omega) (by omega) ?_); conv => whnf)
            | ((with_reducible refine XHold.mk ?_ ?_); (first | omega | rfl | decide | exact ⟨rfl, by decide, rfl⟩ | exact wideI _ | exact widePr _ | exact wideSk _ | (unfold Room; constructor <;> ((try simp) <;> omega)) | exact ⟨rfl, by simp only [List.length_map], by unfold Room; constructor <;> ((try simp) <;> omega)⟩ | exact ⟨by omega, by omega, by unfold Room; constructor <;> ((try simp) <;> omega)⟩); conv => whnf)
            | ((with_reducible refine XIx.nat ?_ ?_ ?_); omega; (intro _; rfl); conv => whnf)
            | ((with_reducible refine XIx.map ?_ ?_ ?_ ?_); omega; omega; (intro _; rfl); conv => whnf)
            | (with_reducible apply XAnd.mk)
            | ((with_reducible apply Chk.go); conv => whnf)
            | ((with_reducible apply ChkA.go); conv => whnf)
            | ((with_reducible apply ChkF.go); conv => whnf)
            | ((with_reducible apply ChkB.go); conv => whnf)
            | (exact XSame.mk rfl rfl)
            | (exact XSame.mk (by first | rfl | (simp only [List.map_append, List.length_append, List.length_map]; done) | (simp only [List.map_append, List.length_append, List.length_map]; rfl)) (by first | rfl | (simp only [List.map_append]; done) | (simp only [List.map_append]; rfl)))
            | (with_reducible exact trivial)
            | ((with_reducible refine xdrop_app (by rw [List.length_map]; omega) ?_); conv => whnf)
            | ((with_reducible refine XArr.ints (by omega) (by omega) (by omega) ?_); conv => whnf)
            | ((with_reducible refine XArr.intsA (by omega) (by omega) (by omega) ?_); conv => whnf)
            | ((with_reducible refine XArr.nats ?_ ?_ ?_); omega; omega; conv => whnf)
            | ((with_reducible refine XArr.natsA ?_ ?_ ?_); omega; omega; conv => whnf)
            | ((with_reducible apply XArr.pim0); conv => whnf)
            | ((with_reducible apply XArr.pim1); conv => whnf)
            | ((with_reducible refine XArr.ptr ?_ ?_ ?_); omega; omega; conv => whnf)
            | ((refine XInt.w ?_); conv => whnf)
            | ((with_reducible apply XBr.mk') <;> (intro h; conv => whnf))
      · conv => whnf
        repeat' first
            | ((with_reducible apply XBr.tt); conv => whnf)
            | ((with_reducible apply XBr.ff); conv => whnf)
            | (with_reducible apply XBr.not)
            | ((with_reducible apply XBr.dec) <;> (intro h; first | (exfalso; omega) | ((try simp only [List.length_map] at h); first | (exfalso; omega) | (conv => whnf))))
            | ((with_reducible apply XBr.beq) <;> (intro h; first | (exfalso; omega) | (conv => whnf)))
            | ((with_reducible apply XBr.bne) <;> (intro h; first | (exfalso; omega) | (conv => whnf)))
            | ((with_reducible refine XInt.i64 (by omega) (by omega) ?_); conv => whnf)
            | ((with_reducible refine XHold.mk ?_ ?_); (first | omega | rfl | decide | exact ⟨rfl, by decide, rfl⟩ | exact wideI _ | exact widePr _ | exact wideSk _ | (unfold Room; constructor <;> ((try simp) <;> omega)) | exact ⟨rfl, by simp only [List.length_map], by unfold Room; constructor <;> ((try simp) <;> omega)⟩ | exact ⟨by omega, by omega, by unfold Room; constructor <;> ((try simp) <;> omega)⟩); conv => whnf)
            | ((with_reducible refine XIx.nat ?_ ?_ ?_); omega; (intro _; rfl); conv => whnf)
            | ((with_reducible refine XIx.map ?_ ?_ ?_ ?_); omega; omega; (intro _; rfl); conv => whnf)
            | (with_reducible apply XAnd.mk)
            | ((with_reducible apply Chk.go); conv => whnf)
            | ((with_reducible apply ChkA.go); conv => whnf)
            | ((with_reducible apply ChkF.go); conv => whnf)
            | ((with_reducible apply ChkB.go); conv => whnf)
            | (exact XSame.mk rfl rfl)
            | (exact XSame.mk (by first | rfl | (simp only [List.map_append, List.length_append, List.length_map]; done) | (simp only [List.map_append, List.length_append, List.length_map]; rfl)) (by first | rfl | (simp only [List.map_append]; done) | (simp only [List.map_append]; rfl)))
            | (with_reducible exact trivial)
            | ((with_reducible refine xdrop_app (by rw [List.length_map]; omega) ?_); conv => whnf)
            | ((with_reducible refine XArr.ints (by omega) (by omega) (by omega) ?_); conv => whnf)
            | ((with_reducible refine XArr.intsA (by omega) (by omega) (by omega) ?_); conv => whnf)
            | ((with_reducible refine XArr.nats ?_ ?_ ?_); omega; omega; conv => whnf)
            | ((with_reducible refine XArr.natsA ?_ ?_ ?_); omega; omega; conv => whnf)
            | ((with_reducible apply XArr.pim0); conv => whnf)
            | ((with_reducible apply XArr.pim1); conv => whnf)
            | ((with_reducible refine XArr.ptr ?_ ?_ ?_); omega; omega; conv => whnf)
            | ((with_reducible apply XBr.mk') <;> (intro h; conv => whnf))
        apply Walk.drawX tab_ok mixed_ok [] [] (hsK _) [_, _, _, _, _, _, _, _, _, _] (by kernel_rfl) rfl
        · skip
          repeat' first
              | ((with_reducible apply XBr.tt); conv => whnf)
              | ((with_reducible apply XBr.ff); conv => whnf)
              | (with_reducible apply XBr.not)
              | ((with_reducible apply XBr.dec) <;> (intro h; first | (exfalso; omega) | ((try simp only [List.length_map] at h); first | (exfalso; omega) | (conv => whnf))))
              | ((with_reducible apply XBr.beq) <;> (intro h; first | (exfalso; omega) | (conv => whnf)))
              | ((with_reducible apply XBr.bne) <;> (intro h; first | (exfalso; omega) | (conv => whnf)))
              | ((with_reducible refine XInt.i64 (by omega) (by omega) ?_); conv => whnf)
              | ((with_reducible refine XHold.mk ?_ ?_); (first | omega | rfl | decide | exact ⟨rfl, by decide, rfl⟩ | exact wideI _ | exact widePr _ | exact wideSk _ | (unfold Room; constructor <;> ((try simp) <;> omega)) | exact ⟨rfl, by simp only [List.length_map], by unfold Room; constructor <;> ((try simp) <;> omega)⟩ | exact ⟨by omega, by omega, by unfold Room; constructor <;> ((try simp) <;> omega)⟩); conv => whnf)
              | ((with_reducible refine XIx.nat ?_ ?_ ?_); omega; (intro _; rfl); conv => whnf)
              | ((with_reducible refine XIx.map ?_ ?_ ?_ ?_); omega; omega; (intro _; rfl); conv => whnf)
              | (with_reducible apply XAnd.mk)
              | ((with_reducible apply Chk.go); conv => whnf)
              | ((with_reducible apply ChkA.go); conv => whnf)
              | ((with_reducible apply ChkF.go); conv => whnf)
              | ((with_reducible apply ChkB.go); conv => whnf)
              | (exact XSame.mk rfl rfl)
              | (exact XSame.mk (by first | rfl | (simp only [List.map_append, List.length_append, List.length_map]; done) | (simp only [List.map_append, List.length_append, List.length_map]; rfl)) (by first | rfl | (simp only [List.map_append]; done) | (simp only [List.map_append]; rfl)))
              | (with_reducible exact trivial)
              | ((with_reducible refine xdrop_app (by rw [List.length_map]; omega) ?_); conv => whnf)
              | ((with_reducible refine XArr.ints (by omega) (by omega) (by omega) ?_); conv => whnf)
              | ((with_reducible refine XArr.intsA (by omega) (by omega) (by omega) ?_); conv => whnf)
              | ((with_reducible refine XArr.nats ?_ ?_ ?_); omega; omega; conv => whnf)
              | ((with_reducible refine XArr.natsA ?_ ?_ ?_); omega; omega; conv => whnf)
              | ((with_reducible apply XArr.pim0); conv => whnf)
              | ((with_reducible apply XArr.pim1); conv => whnf)
              | ((with_reducible refine XArr.ptr ?_ ?_ ?_); omega; omega; conv => whnf)
              | ((with_reducible apply XBr.mk') <;> (intro h; conv => whnf))
        · skip
          repeat' first
              | ((with_reducible apply XBr.tt); conv => whnf)
              | ((with_reducible apply XBr.ff); conv => whnf)
              | (with_reducible apply XBr.not)
              | ((with_reducible apply XBr.dec) <;> (intro h; first | (exfalso; omega) | ((try simp only [List.length_map] at h); first | (exfalso; omega) | (conv => whnf))))
              | ((with_reducible apply XBr.beq) <;> (intro h; first | (exfalso; omega) | (conv => whnf)))
              | ((with_reducible apply XBr.bne) <;> (intro h; first | (exfalso; omega) | (conv => whnf)))
              | ((with_reducible refine XInt.i64 (by omega) (by omega) ?_); conv => whnf)
              | ((with_reducible refine XHold.mk ?_ ?_); (first | omega | rfl | decide | exact ⟨rfl, by decide, rfl⟩ | exact wideI _ | exact widePr _ | exact wideSk _ | (unfold Room; constructor <;> ((try simp) <;> omega)) | exact ⟨rfl, by simp only [List.length_map], by unfold Room; constructor <;> ((try simp) <;> omega)⟩ | exact ⟨by omega, by omega, by unfold Room; constructor <;> ((try simp) <;> omega)⟩); conv => whnf)
              | ((with_reducible refine XIx.nat ?_ ?_ ?_); omega; (intro _; rfl); conv => whnf)
              | ((with_reducible refine XIx.map ?_ ?_ ?_ ?_); omega; omega; (intro _; rfl); conv => whnf)
              | (with_reducible apply XAnd.mk)
              | ((with_reducible apply Chk.go); conv => whnf)
              | ((with_reducible apply ChkA.go); conv => whnf)
              | ((with_reducible apply ChkF.go); conv => whnf)
              | ((with_reducible apply ChkB.go); conv => whnf)
              | (exact XSame.mk rfl rfl)
              | (exact XSame.mk (by first | rfl | (simp only [List.map_append, List.length_append, List.length_map]; done) | (simp only [List.map_append, List.length_append, List.length_map]; rfl)) (by first | rfl | (simp only [List.map_append]; done) | (simp only [List.map_append]; rfl)))
              | (with_reducible exact trivial)
              | ((with_reducible refine xdrop_app (by rw [List.length_map]; omega) ?_); conv => whnf)
              | ((with_reducible refine XArr.ints (by omega) (by omega) (by omega) ?_); conv => whnf)
              | ((with_reducible refine XArr.intsA (by omega) (by omega) (by omega) ?_); conv => whnf)
              | ((with_reducible refine XArr.nats ?_ ?_ ?_); omega; omega; conv => whnf)
              | ((with_reducible refine XArr.natsA ?_ ?_ ?_); omega; omega; conv => whnf)
              | ((with_reducible apply XArr.pim0); conv => whnf)
              | ((with_reducible apply XArr.pim1); conv => whnf)
              | ((with_reducible refine XArr.ptr ?_ ?_ ?_); omega; omega; conv => whnf)
              | ((with_reducible apply XBr.mk') <;> (intro h; conv => whnf))
        · conv => whnf
          repeat' first
              | ((with_reducible apply XBr.tt); conv => whnf)
              | ((with_reducible apply XBr.ff); conv => whnf)
              | (with_reducible apply XBr.not)
              | ((with_reducible apply XBr.dec) <;> (intro h; first | (exfalso; omega) | ((try simp only [List.length_map] at h); first | (exfalso; omega) | (conv => whnf))))
              | ((with_reducible apply XBr.beq) <;> (intro h; first | (exfalso; omega) | (conv => whnf)))
              | ((with_reducible apply XBr.bne) <;> (intro h; first | (exfalso; omega) | (conv => whnf)))
              | ((with_reducible refine XInt.i64 (by omega) (by omega) ?_); conv => whnf)
              | ((with_reducible refine XHold.mk ?_ ?_); (first | omega | rfl | decide | exact ⟨rfl, by decide, rfl⟩ | exact wideI _ | exact widePr _ | exact wideSk _ | (unfold Room; constructor <;> ((try simp) <;> omega)) | exact ⟨rfl, by simp only [List.length_map], by unfold Room; constructor <;> ((try simp) <;> omega)⟩ | exact ⟨by omega, by omega, by unfold Room; constructor <;> ((try simp) <;> omega)⟩); conv => whnf)
              | ((with_reducible refine XIx.nat ?_ ?_ ?_); omega; (intro _; rfl); conv => whnf)
              | ((with_reducible refine XIx.map ?_ ?_ ?_ ?_); omega; omega; (intro _; rfl); conv => whnf)
              | (with_reducible apply XAnd.mk)
              | ((with_reducible apply Chk.go); conv => whnf)
              | ((with_reducible apply ChkA.go); conv => whnf)
              | ((with_reducible apply ChkF.go); conv => whnf)
              | ((with_reducible apply ChkB.go); conv => whnf)
              | (exact XSame.mk rfl rfl)
              | (exact XSame.mk (by first | rfl | (simp only [List.map_append, List.length_append, List.length_map]; done) | (simp only [List.map_append, List.length_append, List.length_map]; rfl)) (by first | rfl | (simp only [List.map_append]; done) | (simp only [List.map_append]; rfl)))
              | (with_reducible exact trivial)
              | ((with_reducible refine xdrop_app (by rw [List.length_map]; omega) ?_); conv => whnf)
              | ((with_reducible refine XArr.ints (by omega) (by omega) (by omega) ?_); conv => whnf)
              | ((with_reducible refine XArr.intsA (by omega) (by omega) (by omega) ?_); conv => whnf)
              | ((with_reducible refine XArr.nats ?_ ?_ ?_); omega; omega; conv => whnf)
              | ((with_reducible refine XArr.natsA ?_ ?_ ?_); omega; omega; conv => whnf)
              | ((with_reducible apply XArr.pim0); conv => whnf)
              | ((with_reducible apply XArr.pim1); conv => whnf)
              | ((with_reducible refine XArr.ptr ?_ ?_ ?_); omega; omega; conv => whnf)
              | ((refine XInt.w ?_); conv => whnf)
              | ((with_reducible apply XBr.mk') <;> (intro h; conv => whnf))
          · exact pick_end (hpM_lt (by assumption)) (hpS_end h)
          · exact pick_end (hpM_lt (by assumption)) (hpS_on h)
    · skip
      apply Walk.drawX tab_ok mixed_ok [] [] (hsK _) [_, _, _, _, _, _, _, _, _, _] (by kernel_rfl) rfl
      · skip
        repeat' first
            | ((with_reducible apply XBr.tt); conv => whnf)
            | ((with_reducible apply XBr.ff); conv => whnf)
            | (with_reducible apply XBr.not)
            | ((with_reducible apply XBr.dec) <;> (intro h; first | (exfalso; omega) | ((try simp only [List.length_map] at h); first | (exfalso; omega) | (conv => whnf))))
            | ((with_reducible apply XBr.beq) <;> (intro h; first | (exfalso; omega) | (conv => whnf)))
            | ((with_reducible apply XBr.bne) <;> (intro h; first | (exfalso; omega) | (conv => whnf)))
            | ((with_reducible refine XInt.i64 (by omega) (by omega) ?_); conv => whnf)
            | ((with_reducible refine XHold.mk ?_ ?_); (first | omega | rfl | decide | exact ⟨rfl, by decide, rfl⟩ | exact wideI _ | exact widePr _ | exact wideSk _ | (unfold Room; constructor <;> ((try simp) <;> omega)) | exact ⟨rfl, by simp only [List.length_map], by unfold Room; constructor <;> ((try simp) <;> omega)⟩ | exact ⟨by omega, by omega, by unfold Room; constructor <;> ((try simp) <;> omega)⟩); conv => whnf)
            | ((with_reducible refine XIx.nat ?_ ?_ ?_); omega; (intro _; rfl); conv => whnf)
            | ((with_reducible refine XIx.map ?_ ?_ ?_ ?_); omega; omega; (intro _; rfl); conv => whnf)
            | (with_reducible apply XAnd.mk)
            | ((with_reducible apply Chk.go); conv => whnf)
            | ((with_reducible apply ChkA.go); conv => whnf)
            | ((with_reducible apply ChkF.go); conv => whnf)
            | ((with_reducible apply ChkB.go); conv => whnf)
            | (exact XSame.mk rfl rfl)
            | (exact XSame.mk (by first | rfl | (simp only [List.map_append, List.length_append, List.length_map]; done) | (simp only [List.map_append, List.length_append, List.length_map]; rfl)) (by first | rfl | (simp only [List.map_append]; done) | (simp only [List.map_append]; rfl)))
            | (with_reducible exact trivial)
            | ((with_reducible refine xdrop_app (by rw [List.length_map]; omega) ?_); conv => whnf)
            | ((with_reducible refine XArr.ints (by omega) (by omega) (by omega) ?_); conv => whnf)
            | ((with_reducible refine XArr.intsA (by omega) (by omega) (by omega) ?_); conv => whnf)
            | ((with_reducible refine XArr.nats ?_ ?_ ?_); omega; omega; conv => whnf)
            | ((with_reducible refine XArr.natsA ?_ ?_ ?_); omega; omega; conv => whnf)
            | ((with_reducible apply XArr.pim0); conv => whnf)
            | ((with_reducible apply XArr.pim1); conv => whnf)
            | ((with_reducible refine XArr.ptr ?_ ?_ ?_); omega; omega; conv => whnf)
            | ((with_reducible apply XBr.mk') <;> (intro h; conv => whnf))
      · skip
        repeat' first
            | ((with_reducible apply XBr.tt); conv => whnf)
            | ((with_reducible apply XBr.ff); conv => whnf)
            | (with_reducible apply XBr.not)
            | ((with_reducible apply XBr.dec) <;> (intro h; first | (exfalso; omega) | ((try simp only [List.length_map] at h); first | (exfalso; omega) | (conv => whnf))))
            | ((with_reducible apply XBr.beq) <;> (intro h; first | (exfalso; omega) | (conv => whnf)))
            | ((with_reducible apply XBr.bne) <;> (intro h; first | (exfalso; omega) | (conv => whnf)))
            | ((with_reducible refine XInt.i64 (by omega) (by omega) ?_); conv => whnf)
            | ((with_reducible refine XHold.mk ?_ ?_); (first | omega | rfl | decide | exact ⟨rfl, by decide, rfl⟩ | exact wideI _ | exact widePr _ | exact wideSk _ | (unfold Room; constructor <;> ((try simp) <;> omega)) | exact ⟨rfl, by simp only [List.length_map], by unfold Room; constructor <;> ((try simp) <;> omega)⟩ | exact ⟨by omega, by omega, by unfold Room; constructor <;> ((try simp) <;> omega)⟩); conv => whnf)
            | ((with_reducible refine XIx.nat ?_ ?_ ?_); omega; (intro _; rfl); conv => whnf)
            | ((with_reducible refine XIx.map ?_ ?_ ?_ ?_); omega; omega; (intro _; rfl); conv => whnf)
            | (with_reducible apply XAnd.mk)
            | ((with_reducible apply Chk.go); conv => whnf)
            | ((with_reducible apply ChkA.go); conv => whnf)
            | ((with_reducible apply ChkF.go); conv => whnf)
            | ((with_reducible apply ChkB.go); conv => whnf)
            | (exact XSame.mk rfl rfl)
            | (exact XSame.mk (by first | rfl | (simp only [List.map_append, List.length_append, List.length_map]; done) | (simp only [List.map_append, List.length_append, List.length_map]; rfl)) (by first | rfl | (simp only [List.map_append]; done) | (simp only [List.map_append]; rfl)))
            | (with_reducible exact trivial)
            | ((with_reducible refine xdrop_app (by rw [List.length_map]; omega) ?_); conv => whnf)
            | ((with_reducible refine XArr.ints (by omega) (by omega) (by omega) ?_); conv => whnf)
            | ((with_reducible refine XArr.intsA (by omega) (by omega) (by omega) ?_); conv => whnf)
            | ((with_reducible refine XArr.nats ?_ ?_ ?_); omega; omega; conv => whnf)
            | ((with_reducible refine XArr.natsA ?_ ?_ ?_); omega; omega; conv => whnf)
            | ((with_reducible apply XArr.pim0); conv => whnf)
            | ((with_reducible apply XArr.pim1); conv => whnf)
            | ((with_reducible refine XArr.ptr ?_ ?_ ?_); omega; omega; conv => whnf)
            | ((with_reducible apply XBr.mk') <;> (intro h; conv => whnf))
      · conv => whnf
        repeat' first
            | ((with_reducible apply XBr.tt); conv => whnf)
            | ((with_reducible apply XBr.ff); conv => whnf)
            | (with_reducible apply XBr.not)
            | ((with_reducible apply XBr.dec) <;> (intro h; first | (exfalso; omega) | ((try simp only [List.length_map] at h); first | (exfalso; omega) | (conv => whnf))))
            | ((with_reducible apply XBr.beq) <;> (intro h; first | (exfalso; omega) | (conv => whnf)))
            | ((with_reducible apply XBr.bne) <;> (intro h; first | (exfalso; omega) | (conv => whnf)))
            | ((with_reducible refine XInt.i64 (by omega) (by omega) ?_); conv => whnf)
            | ((with_reducible refine XHold.mk ?_ ?_); (first | omega | rfl | decide | exact ⟨rfl, by decide, rfl⟩ | exact wideI _ | exact widePr _ | exact wideSk _ | (unfold Room; constructor <;> ((try simp) <;> omega)) | exact ⟨rfl, by simp only [List.length_map], by unfold Room; constructor <;> ((try simp) <;> omega)⟩ | exact ⟨by omega, by omega, by unfold Room; constructor <;> ((try simp) <;> omega)⟩); conv => whnf)
            | ((with_reducible refine XIx.nat ?_ ?_ ?_); omega; (intro _; rfl); conv => whnf)
            | ((with_reducible refine XIx.map ?_ ?_ ?_ ?_); omega; omega; (intro _; rfl); conv => whnf)
            | (with_reducible apply XAnd.mk)
            | ((with_reducible apply Chk.go); conv => whnf)
            | ((with_reducible apply ChkA.go); conv => whnf)
            | ((with_reducible apply ChkF.go); conv => whnf)
            | ((with_reducible apply ChkB.go); conv => whnf)
            | (exact XSame.mk rfl rfl)
            | (exact XSame.mk (by first | rfl | (simp only [List.map_append, List.length_append, List.length_map]; done) | (simp only [List.map_append, List.length_append, List.length_map]; rfl)) (by first | rfl | (simp only [List.map_append]; done) | (simp only [List.map_append]; rfl)))
            | (with_reducible exact trivial)
            | ((with_reducible refine xdrop_app (by rw [List.length_map]; omega) ?_); conv => whnf)
            | ((with_reducible refine XArr.ints (by omega) (by omega) (by omega) ?_); conv => whnf)
            | ((with_reducible refine XArr.intsA (by omega) (by omega) (by omega) ?_); conv => whnf)
            | ((with_reducible refine XArr.nats ?_ ?_ ?_); omega; omega; conv => whnf)
            | ((with_reducible refine XArr.natsA ?_ ?_ ?_); omega; omega; conv => whnf)
            | ((with_reducible apply XArr.pim0); conv => whnf)
            | ((with_reducible apply XArr.pim1); conv => whnf)
            | ((with_reducible refine XArr.ptr ?_ ?_ ?_); omega; omega; conv => whnf)
            | ((refine XInt.w ?_); conv => whnf)
            | ((with_reducible apply XBr.mk') <;> (intro h; conv => whnf))
        · exact pick_end (hpM_ge (by assumption)) (hpS_end h)

def modV (h : Hp) (n : Int) : Int := (hpV h).tmod (max 1 (n + 1))
theorem modV_bound (h : Hp) (n : Int) : 0 ≤ modV h n ∧ modV h n ≤ max 0 n := by
  have hb := hpV_bound (hpM h)
  have h1 : 0 ≤ hpV h := hb.1
  unfold modV
  rw [Int.tmod_eq_emod_of_nonneg h1]
  have h2 := Int.emod_nonneg (hpV h) (show max 1 (n + 1) ≠ 0 by omega)
  have h3 := Int.emod_lt_of_pos (hpV h) (show 0 < max 1 (n + 1) by omega)
  omega
theorem hp_end {u u' : Hp} {r : AV} (hr : r.low 1 = true) : XCut [hpC u].length [] [hpC u'] r fun r' H' => r' = r ∧ H' = [hpC u'] :=
  XCut.mk' [hpC u'] [] rfl rfl (fun x hx => by simp only [List.mem_cons, List.not_mem_nil, or_false] at hx; subst hx; exact hpC_low _) hr ⟨rfl, rfl⟩
theorem upto_c (u : Hp) (n : Int) (o : u.Ok) (h1 : -100000 ≤ n) (h2 : n ≤ 100000) : HpOk 23 [.int .i64 n] u (.int .i64 (modV u n)) (hpS u) := by
  refine ⟨rfl, ?_⟩
  refine ACall.bodyK (T := tab) (res := [.tmp 4]) tab_ok [] Try.func23 rfl (by kernel_rfl) Try.ntmps23 rfl (by simp only [List.length_cons, List.length_nil]; decide) ?_; conv => whnf
  refine XCall.hp (j := 0) (pick_c u o) rfl rfl ?_
  conv => whnf
  repeat' first
      | ((with_reducible apply XBr.tt); conv => whnf)
      | ((with_reducible apply XBr.ff); conv => whnf)
      | (with_reducible apply XBr.not)
      | ((with_reducible apply XBr.dec) <;> (intro h; first | (exfalso; omega) | ((try simp only [List.length_map] at h); first | (exfalso; omega) | (conv => whnf))))
      | ((with_reducible apply XBr.beq) <;> (intro h; first | (exfalso; omega) | (conv => whnf)))
      | ((with_reducible apply XBr.bne) <;> (intro h; first | (exfalso; omega) | (conv => whnf)))
      | ((with_reducible refine XInt.i64 (by omega) (by omega) ?_); conv => whnf)
      | ((with_reducible refine XHold.mk ?_ ?_); (first | omega | rfl | decide | exact ⟨rfl, by decide, rfl⟩ | exact wideI _ | exact widePr _ | exact wideSk _ | (unfold Room; constructor <;> ((try simp) <;> omega)) | exact ⟨rfl, by simp only [List.length_map], by unfold Room; constructor <;> ((try simp) <;> omega)⟩ | exact ⟨by omega, by omega, by unfold Room; constructor <;> ((try simp) <;> omega)⟩); conv => whnf)
      | ((with_reducible refine XIx.nat ?_ ?_ ?_); omega; (intro _; rfl); conv => whnf)
      | ((with_reducible refine XIx.map ?_ ?_ ?_ ?_); omega; omega; (intro _; rfl); conv => whnf)
      | (with_reducible apply XAnd.mk)
      | ((with_reducible apply Chk.go); conv => whnf)
      | ((with_reducible apply ChkA.go); conv => whnf)
      | ((with_reducible apply ChkF.go); conv => whnf)
      | ((with_reducible apply ChkB.go); conv => whnf)
      | (exact XSame.mk rfl rfl)
      | (exact XSame.mk (by first | rfl | (simp only [List.map_append, List.length_append, List.length_map]; done) | (simp only [List.map_append, List.length_append, List.length_map]; rfl)) (by first | rfl | (simp only [List.map_append]; done) | (simp only [List.map_append]; rfl)))
      | (with_reducible exact trivial)
      | ((with_reducible refine xdrop_app (by rw [List.length_map]; omega) ?_); conv => whnf)
      | ((with_reducible refine XArr.ints (by omega) (by omega) (by omega) ?_); conv => whnf)
      | ((with_reducible refine XArr.intsA (by omega) (by omega) (by omega) ?_); conv => whnf)
      | ((with_reducible refine XArr.nats ?_ ?_ ?_); omega; omega; conv => whnf)
      | ((with_reducible refine XArr.natsA ?_ ?_ ?_); omega; omega; conv => whnf)
      | ((with_reducible apply XArr.pim0); conv => whnf)
      | ((with_reducible apply XArr.pim1); conv => whnf)
      | ((with_reducible refine XArr.ptr ?_ ?_ ?_); omega; omega; conv => whnf)
      | ((with_reducible apply XBr.mk') <;> (intro h; conv => whnf))
  exact hp_end rfl
theorem from_c (u : Hp) (lo hi : Int) (o : u.Ok) (h1 : -10000 ≤ lo) (h2 : lo ≤ 10000) (h3 : -10000 ≤ hi) (h4 : hi ≤ 10000) : HpOk 22 [.int .i64 lo, .int .i64 hi] u (.int .i64 (lo + modV u (hi - lo))) (hpS u) := by
  have hb := modV_bound u (hi - lo)
  refine ⟨rfl, ?_⟩
  refine ACall.bodyK (T := tab) (res := [.tmp 6]) tab_ok [] Try.func22 rfl (by kernel_rfl) Try.ntmps22 rfl (by simp only [List.length_cons, List.length_nil]; decide) ?_; conv => whnf
  repeat' first
      | ((with_reducible apply XBr.tt); conv => whnf)
      | ((with_reducible apply XBr.ff); conv => whnf)
      | (with_reducible apply XBr.not)
      | ((with_reducible apply XBr.dec) <;> (intro h; first | (exfalso; omega) | ((try simp only [List.length_map] at h); first | (exfalso; omega) | (conv => whnf))))
      | ((with_reducible apply XBr.beq) <;> (intro h; first | (exfalso; omega) | (conv => whnf)))
      | ((with_reducible apply XBr.bne) <;> (intro h; first | (exfalso; omega) | (conv => whnf)))
      | ((with_reducible refine XInt.i64 (by omega) (by omega) ?_); conv => whnf)
      | ((with_reducible refine XHold.mk ?_ ?_); (first | omega | rfl | decide | exact ⟨rfl, by decide, rfl⟩ | exact wideI _ | exact widePr _ | exact wideSk _ | (unfold Room; constructor <;> ((try simp) <;> omega)) | exact ⟨rfl, by simp only [List.length_map], by unfold Room; constructor <;> ((try simp) <;> omega)⟩ | exact ⟨by omega, by omega, by unfold Room; constructor <;> ((try simp) <;> omega)⟩); conv => whnf)
      | ((with_reducible refine XIx.nat ?_ ?_ ?_); omega; (intro _; rfl); conv => whnf)
      | ((with_reducible refine XIx.map ?_ ?_ ?_ ?_); omega; omega; (intro _; rfl); conv => whnf)
      | (with_reducible apply XAnd.mk)
      | ((with_reducible apply Chk.go); conv => whnf)
      | ((with_reducible apply ChkA.go); conv => whnf)
      | ((with_reducible apply ChkF.go); conv => whnf)
      | ((with_reducible apply ChkB.go); conv => whnf)
      | (exact XSame.mk rfl rfl)
      | (exact XSame.mk (by first | rfl | (simp only [List.map_append, List.length_append, List.length_map]; done) | (simp only [List.map_append, List.length_append, List.length_map]; rfl)) (by first | rfl | (simp only [List.map_append]; done) | (simp only [List.map_append]; rfl)))
      | (with_reducible exact trivial)
      | ((with_reducible refine xdrop_app (by rw [List.length_map]; omega) ?_); conv => whnf)
      | ((with_reducible refine XArr.ints (by omega) (by omega) (by omega) ?_); conv => whnf)
      | ((with_reducible refine XArr.intsA (by omega) (by omega) (by omega) ?_); conv => whnf)
      | ((with_reducible refine XArr.nats ?_ ?_ ?_); omega; omega; conv => whnf)
      | ((with_reducible refine XArr.natsA ?_ ?_ ?_); omega; omega; conv => whnf)
      | ((with_reducible apply XArr.pim0); conv => whnf)
      | ((with_reducible apply XArr.pim1); conv => whnf)
      | ((with_reducible refine XArr.ptr ?_ ?_ ?_); omega; omega; conv => whnf)
      | ((refine XCall.hp (j := 0) (upto_c u (hi - lo) o (by omega) (by omega)) rfl rfl ?_); conv => whnf)
      | ((with_reducible apply XBr.mk') <;> (intro h; conv => whnf))
  exact hp_end rfl
theorem once_c (u : Hp) (n : Int) (o : u.Ok) (h1 : -10000 ≤ n) (h2 : n ≤ 10000) : HpOk 74 [.int .i64 n] u (.bool (modV u (n - 1) == 0)) (hpS u) := by
  have hb := modV_bound u (n - 1)
  refine ⟨rfl, ?_⟩
  refine ACall.bodyK (T := tab) (res := [.tmp 4]) tab_ok [] Try.func74 rfl (by kernel_rfl) Try.ntmps74 rfl (by simp only [List.length_cons, List.length_nil]; decide) ?_; conv => whnf
  repeat' first
      | ((with_reducible apply XBr.tt); conv => whnf)
      | ((with_reducible apply XBr.ff); conv => whnf)
      | (with_reducible apply XBr.not)
      | ((with_reducible apply XBr.dec) <;> (intro h; first | (exfalso; omega) | ((try simp only [List.length_map] at h); first | (exfalso; omega) | (conv => whnf))))
      | ((with_reducible apply XBr.beq) <;> (intro h; first | (exfalso; omega) | (conv => whnf)))
      | ((with_reducible apply XBr.bne) <;> (intro h; first | (exfalso; omega) | (conv => whnf)))
      | ((with_reducible refine XInt.i64 (by omega) (by omega) ?_); conv => whnf)
      | ((with_reducible refine XHold.mk ?_ ?_); (first | omega | rfl | decide | exact ⟨rfl, by decide, rfl⟩ | exact wideI _ | exact widePr _ | exact wideSk _ | (unfold Room; constructor <;> ((try simp) <;> omega)) | exact ⟨rfl, by simp only [List.length_map], by unfold Room; constructor <;> ((try simp) <;> omega)⟩ | exact ⟨by omega, by omega, by unfold Room; constructor <;> ((try simp) <;> omega)⟩); conv => whnf)
      | ((with_reducible refine XIx.nat ?_ ?_ ?_); omega; (intro _; rfl); conv => whnf)
      | ((with_reducible refine XIx.map ?_ ?_ ?_ ?_); omega; omega; (intro _; rfl); conv => whnf)
      | (with_reducible apply XAnd.mk)
      | ((with_reducible apply Chk.go); conv => whnf)
      | ((with_reducible apply ChkA.go); conv => whnf)
      | ((with_reducible apply ChkF.go); conv => whnf)
      | ((with_reducible apply ChkB.go); conv => whnf)
      | (exact XSame.mk rfl rfl)
      | (exact XSame.mk (by first | rfl | (simp only [List.map_append, List.length_append, List.length_map]; done) | (simp only [List.map_append, List.length_append, List.length_map]; rfl)) (by first | rfl | (simp only [List.map_append]; done) | (simp only [List.map_append]; rfl)))
      | (with_reducible exact trivial)
      | ((with_reducible refine xdrop_app (by rw [List.length_map]; omega) ?_); conv => whnf)
      | ((with_reducible refine XArr.ints (by omega) (by omega) (by omega) ?_); conv => whnf)
      | ((with_reducible refine XArr.intsA (by omega) (by omega) (by omega) ?_); conv => whnf)
      | ((with_reducible refine XArr.nats ?_ ?_ ?_); omega; omega; conv => whnf)
      | ((with_reducible refine XArr.natsA ?_ ?_ ?_); omega; omega; conv => whnf)
      | ((with_reducible apply XArr.pim0); conv => whnf)
      | ((with_reducible apply XArr.pim1); conv => whnf)
      | ((with_reducible refine XArr.ptr ?_ ?_ ?_); omega; omega; conv => whnf)
      | ((refine XCall.hp (j := 0) (upto_c u (n - 1) o (by omega) (by omega)) rfl rfl ?_); conv => whnf)
      | ((with_reducible apply XBr.mk') <;> (intro h; conv => whnf))
  exact hp_end rfl
end GA
end

section
/- Contracts: what is owed. -/
namespace GA
open Go Go.RowKit Go.Proofs
set_option pp.deepTerms true
set_option maxRecDepth 8000
set_option linter.unusedVariables false
set_option linter.unusedSimpArgs false

def sharedE (l : Ld) (xs : List Int) : Int := if checkR l ≠ 0 then checkR l else if xs.length ≠ 6 then 2 else if (xs.all fun n => inB n 0 500) = false then 3 else 0
theorem shared1_c (x : Int) : Comp Try.prog 137 [.int .i64 x] (.bool (inB x 0 500)) := by
  refine Comp.body (T := tab) (res := [.tmp 2]) tab_ok [] Try.func137 rfl (by kernel_rfl) Try.ntmps137 rfl (by simp only [List.length_cons, List.length_nil]; decide) (by rfl) ?_; conv => whnf
  refine XCall.ret (in_c _ _ _) ?_
  conv => whnf
  exact XOut.bool rfl
theorem shared_c (l : Ld) (nl : Bool) (xs : List Int) (o : LdW l) (hx : xs.length ≤ 100000) : Comp Try.prog 96 [ldA l, .sl nl (ints xs)] (.int .i64 (sharedE l xs)) := by
  refine Comp.body (T := tab) (res := [.tmp 4]) tab_ok [] Try.func96 rfl (by kernel_rfl) Try.ntmps96 rfl (by simp only [List.length_cons, List.length_nil]; decide) (by simp only [lowL, AV.low, ldL, lowI]; rfl) ?_; conv => whnf
  refine XCall.ret (check_c l o.w o.h1 o.h2 o.h3) ?_
  conv => whnf
  repeat' first
      | ((with_reducible apply XBr.tt); conv => whnf)
      | ((with_reducible apply XBr.ff); conv => whnf)
      | (with_reducible apply XBr.not)
      | ((with_reducible apply XBr.dec) <;> (intro h; first | (exfalso; omega) | ((try simp only [List.length_map] at h); first | (exfalso; omega) | (conv => whnf))))
      | ((with_reducible apply XBr.beq) <;> (intro h; first | (exfalso; omega) | (conv => whnf)))
      | ((with_reducible apply XBr.bne) <;> (intro h; first | (exfalso; omega) | (conv => whnf)))
      | ((with_reducible refine XInt.i64 (by omega) (by omega) ?_); conv => whnf)
      | ((with_reducible refine XHold.mk ?_ ?_); (first | omega | rfl | decide | exact ⟨rfl, by decide, rfl⟩ | exact wideI _ | exact widePr _ | exact wideSk _ | (unfold Room; constructor <;> ((try simp) <;> omega)) | exact ⟨rfl, by simp only [List.length_map], by unfold Room; constructor <;> ((try simp) <;> omega)⟩ | exact ⟨by omega, by omega, by unfold Room; constructor <;> ((try simp) <;> omega)⟩); conv => whnf)
      | ((with_reducible refine XIx.nat ?_ ?_ ?_); omega; (intro _; rfl); conv => whnf)
      | ((with_reducible refine XIx.map ?_ ?_ ?_ ?_); omega; omega; (intro _; rfl); conv => whnf)
      | (with_reducible apply XAnd.mk)
      | ((with_reducible apply Chk.go); conv => whnf)
      | ((with_reducible apply ChkA.go); conv => whnf)
      | ((with_reducible apply ChkF.go); conv => whnf)
      | ((with_reducible apply ChkB.go); conv => whnf)
      | (exact XSame.mk rfl rfl)
      | (exact XSame.mk (by first | rfl | (simp only [List.map_append, List.length_append, List.length_map]; done) | (simp only [List.map_append, List.length_append, List.length_map]; rfl)) (by first | rfl | (simp only [List.map_append]; done) | (simp only [List.map_append]; rfl)))
      | (with_reducible exact trivial)
      | ((with_reducible refine xdrop_app (by rw [List.length_map]; omega) ?_); conv => whnf)
      | ((with_reducible refine XArr.ints (by omega) (by omega) (by omega) ?_); conv => whnf)
      | ((with_reducible refine XArr.intsA (by omega) (by omega) (by omega) ?_); conv => whnf)
      | ((with_reducible refine XArr.nats ?_ ?_ ?_); omega; omega; conv => whnf)
      | ((with_reducible refine XArr.natsA ?_ ?_ ?_); omega; omega; conv => whnf)
      | ((with_reducible apply XArr.pim0); conv => whnf)
      | ((with_reducible apply XArr.pim1); conv => whnf)
      | ((with_reducible refine XArr.ptr ?_ ?_ ?_); omega; omega; conv => whnf)
      | (refine XCall.ret (every_int nl xs 137 [] (fun n => inB n 0 500) rfl hx fun x _ => shared1_c x) ?_; conv => whnf)
      | ((with_reducible apply XBr.mk') <;> (intro h; conv => whnf))
  · refine XOut.int ?_
    unfold sharedE; rw [if_pos (by assumption)]
  · refine XOut.int ?_
    simp only [List.length_map] at *
    unfold sharedE; rw [if_neg (by omega), if_pos (by omega)]
  · refine XOut.int ?_
    simp only [List.length_map] at *
    unfold sharedE; rw [if_neg (by omega), if_neg (by omega), if_neg (by simp [*])]
  · refine XOut.int ?_
    simp only [List.length_map] at *
    unfold sharedE; rw [if_neg (by omega), if_neg (by omega), if_pos (by simp [*])]

/-- What is left after so many advances. -/
def owedK (s a : List Int) : Nat → List Int
  | 0 => s
  | k + 1 => (owedK s a k).set k ((owedK s a k).getD k 0 - a.getD k 0)
theorem owedK_len (s a : List Int) : ∀ k, (owedK s a k).length = s.length
  | 0 => rfl
  | k + 1 => by rw [owedK, List.length_set, owedK_len s a k]
theorem owedK_get (s a : List Int) (i : Nat) : ∀ k, (owedK s a k).getD i 0 = if i < k ∧ i < s.length then s.getD i 0 - a.getD i 0 else s.getD i 0
  | 0 => by simp [owedK]
  | k + 1 => by
    have ih := owedK_get s a i k
    have hl := owedK_len s a k
    rw [owedK, List.getD_eq_getElem?_getD, List.getElem?_set]
    by_cases hik : k = i
    · subst hik
      rw [if_pos rfl, hl]
      by_cases hk : k < s.length
      · rw [if_pos hk, if_pos ⟨by omega, hk⟩, Option.getD_some, ih, if_neg (by omega)]
      · rw [if_neg hk, if_neg (fun h => hk h.2), Option.getD_none, List.getD_eq_getElem?_getD, List.getElem?_eq_none (by omega)]; rfl
    · rw [if_neg hik, ← List.getD_eq_getElem?_getD, ih]
      by_cases h1 : i < k ∧ i < s.length
      · rw [if_pos h1, if_pos ⟨by omega, h1.2⟩]
      · rw [if_neg h1, if_neg (fun h => h1 ⟨by omega, h.2⟩)]
def owedE (l : Ld) (a : List Int) (pay : Int) : Int := if sharedE l a ≠ 0 then sharedE l a else shareE l pay
def owedI (l : Ld) (a : List Int) (pay : Int) : List Int := owedK (shareI (partsR l) pay.toNat) a 6
def owedG (l : Ld) (a : List Int) (pay : Int) : AV × List Blk := if owedE l a pay = 0 then (.tup [.gr 0 6, .int .i64 0], [.grow 3 false (ints (owedI l a pay))]) else (.tup [.sl true [], .int .i64 (owedE l a pay)], [])
theorem owedG_low (l : Ld) (a : List Int) (pay : Int) : (owedG l a pay).1.low (owedG l a pay).2.length = true ∧ ∀ x ∈ (owedG l a pay).2, x.low (owedG l a pay).2.length = true := by
  unfold owedG; split
  · exact ⟨rfl, fun x hx => by simp only [List.mem_cons, List.not_mem_nil, or_false] at hx; subst hx; exact lowI _⟩
  · exact ⟨rfl, fun x hx => by simp at hx⟩
theorem all500 {xs : List Int} (h : ¬ (xs.all fun n => inB n 0 500) = false) (i : Nat) : 0 ≤ xs.getD i 0 ∧ xs.getD i 0 ≤ 500 := by
  have h' : (xs.all fun n => inB n 0 500) = true := by simpa using h
  rw [List.all_eq_true] at h'
  rw [List.getD_eq_getElem?_getD]
  cases e : xs[i]? with
  | none => simp
  | some x => have := inB_iff.1 (h' x (List.mem_of_getElem? e)); simpa using this
theorem owed_g (l : Ld) (nl : Bool) (a : List Int) (pay : Int) (o : LdW l) (hx : a.length ≤ 100000) : Gives Try.prog 34 [ldA l, .sl nl (ints a), .int .i64 pay] (owedG l a pay).1 (owedG l a pay).2 := by
  refine Gives.body (T := tab) (res := [.tmp 6, .tmp 7]) tab_ok [] Try.func34 rfl (by kernel_rfl) Try.ntmps34 rfl (by simp only [List.length_cons, List.length_nil]; decide) (by simp only [lowL, AV.low, ldL, lowI]; rfl) (owedG_low l a pay).1 (owedG_low l a pay).2 ?_; conv => whnf
  refine XCall.ret (shared_c l nl a o hx) ?_
  conv => whnf
  repeat' first
      | ((with_reducible apply XBr.tt); conv => whnf)
      | ((with_reducible apply XBr.ff); conv => whnf)
      | (with_reducible apply XBr.not)
      | ((with_reducible apply XBr.dec) <;> (intro h; first | (exfalso; omega) | ((try simp only [List.length_map] at h); first | (exfalso; omega) | (conv => whnf))))
      | ((with_reducible apply XBr.beq) <;> (intro h; first | (exfalso; omega) | (conv => whnf)))
      | ((with_reducible apply XBr.bne) <;> (intro h; first | (exfalso; omega) | (conv => whnf)))
      | ((with_reducible refine XInt.i64 (by omega) (by omega) ?_); conv => whnf)
      | ((with_reducible refine XHold.mk ?_ ?_); (first | omega | rfl | decide | exact ⟨rfl, by decide, rfl⟩ | exact wideI _ | exact widePr _ | exact wideSk _ | (unfold Room; constructor <;> ((try simp) <;> omega)) | exact ⟨rfl, by simp only [List.length_map], by unfold Room; constructor <;> ((try simp) <;> omega)⟩ | exact ⟨by omega, by omega, by unfold Room; constructor <;> ((try simp) <;> omega)⟩); conv => whnf)
      | ((with_reducible refine XIx.nat ?_ ?_ ?_); omega; (intro _; rfl); conv => whnf)
      | ((with_reducible refine XIx.map ?_ ?_ ?_ ?_); omega; omega; (intro _; rfl); conv => whnf)
      | (with_reducible apply XAnd.mk)
      | ((with_reducible apply Chk.go); conv => whnf)
      | ((with_reducible apply ChkA.go); conv => whnf)
      | ((with_reducible apply ChkF.go); conv => whnf)
      | ((with_reducible apply ChkB.go); conv => whnf)
      | (exact XSame.mk rfl rfl)
      | (exact XSame.mk (by first | rfl | (simp only [List.map_append, List.length_append, List.length_map]; done) | (simp only [List.map_append, List.length_append, List.length_map]; rfl)) (by first | rfl | (simp only [List.map_append]; done) | (simp only [List.map_append]; rfl)))
      | (with_reducible exact trivial)
      | ((with_reducible refine xdrop_app (by rw [List.length_map]; omega) ?_); conv => whnf)
      | ((with_reducible refine XArr.ints (by omega) (by omega) (by omega) ?_); conv => whnf)
      | ((with_reducible refine XArr.intsA (by omega) (by omega) (by omega) ?_); conv => whnf)
      | ((with_reducible refine XArr.nats ?_ ?_ ?_); omega; omega; conv => whnf)
      | ((with_reducible refine XArr.natsA ?_ ?_ ?_); omega; omega; conv => whnf)
      | ((with_reducible apply XArr.pim0); conv => whnf)
      | ((with_reducible apply XArr.pim1); conv => whnf)
      | ((with_reducible refine XArr.ptr ?_ ?_ ?_); omega; omega; conv => whnf)
      | ((with_reducible apply XBr.mk') <;> (intro h; conv => whnf))
  · have he : owedE l a pay = sharedE l a := by unfold owedE; rw [if_pos (by assumption)]
    unfold owedG; rw [if_neg (by rw [he]; assumption), he]; exact XGive.err rfl
  · have h0 := h
    clear h
    have he : owedE l a pay = shareE l pay := by unfold owedE; rw [if_neg (by omega)]
    have x := share_g l pay o
    unfold owedG; rw [he]
    unfold shareG at x
    by_cases h : shareE l pay = 0
    · rw [if_pos h] at x ⊢
      have pk := shareI_ok (parts_ok ((checkR_ok l).1 (by unfold shareE at h; split at h <;> omega))) pay.toNat
      have ha : a.length = 6 ∧ ¬ (a.all fun n => inB n 0 500) = false := by
        unfold sharedE at h0
        split at h0
        · omega
        · split at h0
          · omega
          · split at h0
            · omega
            · exact ⟨by omega, by assumption⟩
      have ha5 := all500 ha.2
      unfold owedI
      generalize shareI (partsR l) pay.toNat = s at x pk
      refine XCall.give x ?_
      rw [List.map_cons, ren_grow, List.map_nil]
      conv => whnf
      have sl := pk.1
      have hsl : (s.length : Int) = 6 := by omega
      repeat' first
          | ((with_reducible apply XBr.tt); conv => whnf)
          | ((with_reducible apply XBr.ff); conv => whnf)
          | (with_reducible apply XBr.not)
          | ((with_reducible apply XBr.dec) <;> (intro h; first | (exfalso; omega) | ((try simp only [List.length_map] at h); first | (exfalso; omega) | (conv => whnf))))
          | ((with_reducible apply XBr.beq) <;> (intro h; first | (exfalso; omega) | (conv => whnf)))
          | ((with_reducible apply XBr.bne) <;> (intro h; first | (exfalso; omega) | (conv => whnf)))
          | ((with_reducible refine XInt.i64 (by omega) (by omega) ?_); conv => whnf)
          | ((with_reducible refine XHold.mk ?_ ?_); (first | omega | rfl | decide | exact ⟨rfl, by decide, rfl⟩ | exact wideI _ | exact widePr _ | exact wideSk _ | (unfold Room; constructor <;> ((try simp) <;> omega)) | exact ⟨rfl, by simp only [List.length_map], by unfold Room; constructor <;> ((try simp) <;> omega)⟩ | exact ⟨by omega, by omega, by unfold Room; constructor <;> ((try simp) <;> omega)⟩); conv => whnf)
          | ((with_reducible refine XIx.nat ?_ ?_ ?_); omega; (intro _; rfl); conv => whnf)
          | ((with_reducible refine XIx.map ?_ ?_ ?_ ?_); omega; omega; (intro _; rfl); conv => whnf)
          | (with_reducible apply XAnd.mk)
          | ((with_reducible apply Chk.go); conv => whnf)
          | ((with_reducible apply ChkA.go); conv => whnf)
          | ((with_reducible apply ChkF.go); conv => whnf)
          | ((with_reducible apply ChkB.go); conv => whnf)
          | (exact XSame.mk rfl rfl)
          | (exact XSame.mk (by first | rfl | (simp only [List.map_append, List.length_append, List.length_map]; done) | (simp only [List.map_append, List.length_append, List.length_map]; rfl)) (by first | rfl | (simp only [List.map_append]; done) | (simp only [List.map_append]; rfl)))
          | (with_reducible exact trivial)
          | ((with_reducible refine xdrop_app (by rw [List.length_map]; omega) ?_); conv => whnf)
          | ((with_reducible refine XArr.ints (by omega) (by omega) (by omega) ?_); conv => whnf)
          | ((with_reducible refine XArr.intsA (by omega) (by omega) (by omega) ?_); conv => whnf)
          | ((with_reducible refine XArr.nats ?_ ?_ ?_); omega; omega; conv => whnf)
          | ((with_reducible refine XArr.natsA ?_ ?_ ?_); omega; omega; conv => whnf)
          | ((with_reducible apply XArr.pim0); conv => whnf)
          | ((with_reducible apply XArr.pim1); conv => whnf)
          | ((with_reducible refine XArr.ptr ?_ ?_ ?_); omega; omega; conv => whnf)
          | ((refine XHold.mk (by rw [List.length_map]; exact sl) ?_); conv => whnf)
          | ((with_reducible apply XBr.mk') <;> (intro h; conv => whnf))
      refine Walk.loop tab_ok [] (fun k : Nat => k ≤ 6) (fun k => [(1, .sl nl (ints a)), (6, .sl true []), (7, .int .i64 0), (9, .gr 0 6), (10, .int .i64 0), (25, .int .i64 6), (26, natA k)])
        (fun k => [.grow 3 false (ints (owedK s a k))]) (fun k => 6 - k) 0 (by omega) rfl ⟨rfl, rfl, rfl, rfl, rfl, rfl, rfl, trivial⟩ ?_
      intro k hk
      have gl := owedK_len s a k
      have gg := owedK_get s a k k
      rw [if_neg (by omega)] at gg
      have pv := pk.2 k
      have av := ha5 k
      have hnx : owedK s a (k + 1) = (owedK s a k).set k ((owedK s a k).getD k 0 - a.getD k 0) := rfl
      have hfin : k = 6 → owedK s a 6 = owedK s a k := fun h => by rw [h]
      generalize owedK s a k = out at gl gg hnx hfin
      conv => whnf
      repeat' first
          | ((with_reducible apply XBr.tt); conv => whnf)
          | ((with_reducible apply XBr.ff); conv => whnf)
          | (with_reducible apply XBr.not)
          | ((with_reducible apply XBr.dec) <;> (intro h; first | (exfalso; omega) | ((try simp only [List.length_map] at h); first | (exfalso; omega) | (conv => whnf))))
          | ((with_reducible apply XBr.beq) <;> (intro h; first | (exfalso; omega) | (conv => whnf)))
          | ((with_reducible apply XBr.bne) <;> (intro h; first | (exfalso; omega) | (conv => whnf)))
          | ((with_reducible refine XInt.i64 (by omega) (by omega) ?_); conv => whnf)
          | ((with_reducible refine XHold.mk ?_ ?_); (first | omega | rfl | decide | exact ⟨rfl, by decide, rfl⟩ | exact wideI _ | exact widePr _ | exact wideSk _ | (unfold Room; constructor <;> ((try simp) <;> omega)) | exact ⟨rfl, by simp only [List.length_map], by unfold Room; constructor <;> ((try simp) <;> omega)⟩ | exact ⟨by omega, by omega, by unfold Room; constructor <;> ((try simp) <;> omega)⟩); conv => whnf)
          | ((with_reducible refine XIx.nat ?_ ?_ ?_); omega; (intro _; rfl); conv => whnf)
          | ((with_reducible refine XIx.map ?_ ?_ ?_ ?_); omega; omega; (intro _; rfl); conv => whnf)
          | (with_reducible apply XAnd.mk)
          | ((with_reducible apply Chk.go); conv => whnf)
          | ((with_reducible apply ChkA.go); conv => whnf)
          | ((with_reducible apply ChkF.go); conv => whnf)
          | ((with_reducible apply ChkB.go); conv => whnf)
          | (exact XSame.mk rfl rfl)
          | (exact XSame.mk (by first | rfl | (simp only [List.map_append, List.length_append, List.length_map]; done) | (simp only [List.map_append, List.length_append, List.length_map]; rfl)) (by first | rfl | (simp only [List.map_append]; done) | (simp only [List.map_append]; rfl)))
          | (with_reducible exact trivial)
          | ((with_reducible refine xdrop_app (by rw [List.length_map]; omega) ?_); conv => whnf)
          | ((with_reducible refine XArr.ints (by omega) (by omega) (by omega) ?_); conv => whnf)
          | ((with_reducible refine XArr.intsA (by omega) (by omega) (by omega) ?_); conv => whnf)
          | ((with_reducible refine XArr.nats ?_ ?_ ?_); omega; omega; conv => whnf)
          | ((with_reducible refine XArr.natsA ?_ ?_ ?_); omega; omega; conv => whnf)
          | ((with_reducible apply XArr.pim0); conv => whnf)
          | ((with_reducible apply XArr.pim1); conv => whnf)
          | ((with_reducible refine XArr.ptr ?_ ?_ ?_); omega; omega; conv => whnf)
          | ((with_reducible apply XBr.mk') <;> (intro h; conv => whnf))
      · have gg2 : out.getD (k : Int).toNat default = s.getD k 0 := gg
        have gg3 : out.getD k default = s.getD k 0 := gg
        have av2 : 0 ≤ a.getD k default ∧ a.getD k default ≤ 500 := av
        have av3 : 0 ≤ a.getD (k : Int).toNat default ∧ a.getD (k : Int).toNat default ≤ 500 := av
        have pay5 : (pay.toNat : Int) ≤ 500 := by
          have hin : inB pay 0 500 = true := by
            have hs := (by assumption : shareE l pay = 0)
            unfold shareE at hs
            split at hs
            · omega
            · split at hs
              · omega
              · simpa using (by assumption : ¬ inB pay 0 500 = false)
          have := inB_iff.1 hin; omega
        apply Walk.drawX tab_ok mixed_ok [] [10] (hsV _ [id, fun H => H.set 0 (.grow 3 false (ints (out.set k (out.getD k 0 - a.getD k 0))))]) [_, _, _, _, _, _, _, _, _, _, _] (by kernel_rfl) rfl
        · skip
          repeat' first
              | ((with_reducible apply XBr.tt); conv => whnf)
              | ((with_reducible apply XBr.ff); conv => whnf)
              | (with_reducible apply XBr.not)
              | ((with_reducible apply XBr.dec) <;> (intro h; first | (exfalso; omega) | ((try simp only [List.length_map] at h); first | (exfalso; omega) | (conv => whnf))))
              | ((with_reducible apply XBr.beq) <;> (intro h; first | (exfalso; omega) | (conv => whnf)))
              | ((with_reducible apply XBr.bne) <;> (intro h; first | (exfalso; omega) | (conv => whnf)))
              | ((with_reducible refine XInt.i64 (by omega) (by omega) ?_); conv => whnf)
              | ((with_reducible refine XHold.mk ?_ ?_); (first | omega | rfl | decide | exact ⟨rfl, by decide, rfl⟩ | exact wideI _ | exact widePr _ | exact wideSk _ | (unfold Room; constructor <;> ((try simp) <;> omega)) | exact ⟨rfl, by simp only [List.length_map], by unfold Room; constructor <;> ((try simp) <;> omega)⟩ | exact ⟨by omega, by omega, by unfold Room; constructor <;> ((try simp) <;> omega)⟩); conv => whnf)
              | ((with_reducible refine XIx.nat ?_ ?_ ?_); omega; (intro _; rfl); conv => whnf)
              | ((with_reducible refine XIx.map ?_ ?_ ?_ ?_); omega; omega; (intro _; rfl); conv => whnf)
              | (with_reducible apply XAnd.mk)
              | ((with_reducible apply Chk.go); conv => whnf)
              | ((with_reducible apply ChkA.go); conv => whnf)
              | ((with_reducible apply ChkF.go); conv => whnf)
              | ((with_reducible apply ChkB.go); conv => whnf)
              | (exact XSame.mk rfl rfl)
              | (exact XSame.mk (by first | rfl | (simp only [List.map_append, List.length_append, List.length_map]; done) | (simp only [List.map_append, List.length_append, List.length_map]; rfl)) (by first | rfl | (simp only [List.map_append]; done) | (simp only [List.map_append]; rfl)))
              | (with_reducible exact trivial)
              | ((with_reducible refine xdrop_app (by rw [List.length_map]; omega) ?_); conv => whnf)
              | ((with_reducible refine XArr.ints (by omega) (by omega) (by omega) ?_); conv => whnf)
              | ((with_reducible refine XArr.intsA (by omega) (by omega) (by omega) ?_); conv => whnf)
              | ((with_reducible refine XArr.nats ?_ ?_ ?_); omega; omega; conv => whnf)
              | ((with_reducible refine XArr.natsA ?_ ?_ ?_); omega; omega; conv => whnf)
              | ((with_reducible apply XArr.pim0); conv => whnf)
              | ((with_reducible apply XArr.pim1); conv => whnf)
              | ((with_reducible refine XArr.ptr ?_ ?_ ?_); omega; omega; conv => whnf)
              | ((refine XHold.mk ⟨by rw [List.length_map]; omega, rfl, by omega, by omega⟩ ?_); conv => whnf)
              | ((refine XGet.map (by omega) (by omega) ?_); conv => whnf)
              | ((refine XPut.map (out.getD k 0 - a.getD k 0) rfl (by omega) (by omega) ?_); conv => whnf)
              | ((with_reducible apply XBr.mk') <;> (intro h; conv => whnf))
        · skip
          repeat' first
              | ((with_reducible apply XBr.tt); conv => whnf)
              | ((with_reducible apply XBr.ff); conv => whnf)
              | (with_reducible apply XBr.not)
              | ((with_reducible apply XBr.dec) <;> (intro h; first | (exfalso; omega) | ((try simp only [List.length_map] at h); first | (exfalso; omega) | (conv => whnf))))
              | ((with_reducible apply XBr.beq) <;> (intro h; first | (exfalso; omega) | (conv => whnf)))
              | ((with_reducible apply XBr.bne) <;> (intro h; first | (exfalso; omega) | (conv => whnf)))
              | ((with_reducible refine XInt.i64 (by omega) (by omega) ?_); conv => whnf)
              | ((with_reducible refine XHold.mk ?_ ?_); (first | omega | rfl | decide | exact ⟨rfl, by decide, rfl⟩ | exact wideI _ | exact widePr _ | exact wideSk _ | (unfold Room; constructor <;> ((try simp) <;> omega)) | exact ⟨rfl, by simp only [List.length_map], by unfold Room; constructor <;> ((try simp) <;> omega)⟩ | exact ⟨by omega, by omega, by unfold Room; constructor <;> ((try simp) <;> omega)⟩); conv => whnf)
              | ((with_reducible refine XIx.nat ?_ ?_ ?_); omega; (intro _; rfl); conv => whnf)
              | ((with_reducible refine XIx.map ?_ ?_ ?_ ?_); omega; omega; (intro _; rfl); conv => whnf)
              | (with_reducible apply XAnd.mk)
              | ((with_reducible apply Chk.go); conv => whnf)
              | ((with_reducible apply ChkA.go); conv => whnf)
              | ((with_reducible apply ChkF.go); conv => whnf)
              | ((with_reducible apply ChkB.go); conv => whnf)
              | (exact XSame.mk rfl rfl)
              | (exact XSame.mk (by first | rfl | (simp only [List.map_append, List.length_append, List.length_map]; done) | (simp only [List.map_append, List.length_append, List.length_map]; rfl)) (by first | rfl | (simp only [List.map_append]; done) | (simp only [List.map_append]; rfl)))
              | (with_reducible exact trivial)
              | ((with_reducible refine xdrop_app (by rw [List.length_map]; omega) ?_); conv => whnf)
              | ((with_reducible refine XArr.ints (by omega) (by omega) (by omega) ?_); conv => whnf)
              | ((with_reducible refine XArr.intsA (by omega) (by omega) (by omega) ?_); conv => whnf)
              | ((with_reducible refine XArr.nats ?_ ?_ ?_); omega; omega; conv => whnf)
              | ((with_reducible refine XArr.natsA ?_ ?_ ?_); omega; omega; conv => whnf)
              | ((with_reducible apply XArr.pim0); conv => whnf)
              | ((with_reducible apply XArr.pim1); conv => whnf)
              | ((with_reducible refine XArr.ptr ?_ ?_ ?_); omega; omega; conv => whnf)
              | ((refine XHold.mk ⟨by rw [List.length_map]; omega, rfl, by omega, by omega⟩ ?_); conv => whnf)
              | ((refine XGet.map (by omega) (by omega) ?_); conv => whnf)
              | ((refine XPut.map (out.getD k 0 - a.getD k 0) rfl (by omega) (by omega) ?_); conv => whnf)
              | ((with_reducible apply XBr.mk') <;> (intro h; conv => whnf))
        · conv => whnf
          repeat' first
              | ((with_reducible apply XBr.tt); conv => whnf)
              | ((with_reducible apply XBr.ff); conv => whnf)
              | (with_reducible apply XBr.not)
              | ((with_reducible apply XBr.dec) <;> (intro h; first | (exfalso; omega) | ((try simp only [List.length_map] at h); first | (exfalso; omega) | (conv => whnf))))
              | ((with_reducible apply XBr.beq) <;> (intro h; first | (exfalso; omega) | (conv => whnf)))
              | ((with_reducible apply XBr.bne) <;> (intro h; first | (exfalso; omega) | (conv => whnf)))
              | ((with_reducible refine XInt.i64 (by omega) (by omega) ?_); conv => whnf)
              | ((with_reducible refine XHold.mk ?_ ?_); (first | omega | rfl | decide | exact ⟨rfl, by decide, rfl⟩ | exact wideI _ | exact widePr _ | exact wideSk _ | (unfold Room; constructor <;> ((try simp) <;> omega)) | exact ⟨rfl, by simp only [List.length_map], by unfold Room; constructor <;> ((try simp) <;> omega)⟩ | exact ⟨by omega, by omega, by unfold Room; constructor <;> ((try simp) <;> omega)⟩); conv => whnf)
              | ((with_reducible refine XIx.nat ?_ ?_ ?_); omega; (intro _; rfl); conv => whnf)
              | ((with_reducible refine XIx.map ?_ ?_ ?_ ?_); omega; omega; (intro _; rfl); conv => whnf)
              | (with_reducible apply XAnd.mk)
              | ((with_reducible apply Chk.go); conv => whnf)
              | ((with_reducible apply ChkA.go); conv => whnf)
              | ((with_reducible apply ChkF.go); conv => whnf)
              | ((with_reducible apply ChkB.go); conv => whnf)
              | (exact XSame.mk rfl rfl)
              | (exact XSame.mk (by first | rfl | (simp only [List.map_append, List.length_append, List.length_map]; done) | (simp only [List.map_append, List.length_append, List.length_map]; rfl)) (by first | rfl | (simp only [List.map_append]; done) | (simp only [List.map_append]; rfl)))
              | (with_reducible exact trivial)
              | ((with_reducible refine xdrop_app (by rw [List.length_map]; omega) ?_); conv => whnf)
              | ((with_reducible refine XArr.ints (by omega) (by omega) (by omega) ?_); conv => whnf)
              | ((with_reducible refine XArr.intsA (by omega) (by omega) (by omega) ?_); conv => whnf)
              | ((with_reducible refine XArr.nats ?_ ?_ ?_); omega; omega; conv => whnf)
              | ((with_reducible refine XArr.natsA ?_ ?_ ?_); omega; omega; conv => whnf)
              | ((with_reducible apply XArr.pim0); conv => whnf)
              | ((with_reducible apply XArr.pim1); conv => whnf)
              | ((with_reducible refine XArr.ptr ?_ ?_ ?_); omega; omega; conv => whnf)
              | ((with_reducible apply XBr.mk') <;> (intro h; conv => whnf))
          refine XAgain.go (k + 1) (by omega) (by omega) ?_ ⟨rfl, rfl, rfl, rfl, rfl, rfl, rfl, trivial⟩
          rw [hnx]; rfl
      · rw [hfin (by omega)]
        exact XGive.mk' [0] rfl (by decide) ⟨congrArg some (ren_grow _ _ _ _).symm, trivial⟩ rfl
    · rw [if_neg h] at x ⊢
      refine XCall.give x ?_
      conv => whnf
      repeat' first
          | ((with_reducible apply XBr.tt); conv => whnf)
          | ((with_reducible apply XBr.ff); conv => whnf)
          | (with_reducible apply XBr.not)
          | ((with_reducible apply XBr.dec) <;> (intro h; first | (exfalso; omega) | ((try simp only [List.length_map] at h); first | (exfalso; omega) | (conv => whnf))))
          | ((with_reducible apply XBr.beq) <;> (intro h; first | (exfalso; omega) | (conv => whnf)))
          | ((with_reducible apply XBr.bne) <;> (intro h; first | (exfalso; omega) | (conv => whnf)))
          | ((with_reducible refine XInt.i64 (by omega) (by omega) ?_); conv => whnf)
          | ((with_reducible refine XHold.mk ?_ ?_); (first | omega | rfl | decide | exact ⟨rfl, by decide, rfl⟩ | exact wideI _ | exact widePr _ | exact wideSk _ | (unfold Room; constructor <;> ((try simp) <;> omega)) | exact ⟨rfl, by simp only [List.length_map], by unfold Room; constructor <;> ((try simp) <;> omega)⟩ | exact ⟨by omega, by omega, by unfold Room; constructor <;> ((try simp) <;> omega)⟩); conv => whnf)
          | ((with_reducible refine XIx.nat ?_ ?_ ?_); omega; (intro _; rfl); conv => whnf)
          | ((with_reducible refine XIx.map ?_ ?_ ?_ ?_); omega; omega; (intro _; rfl); conv => whnf)
          | (with_reducible apply XAnd.mk)
          | ((with_reducible apply Chk.go); conv => whnf)
          | ((with_reducible apply ChkA.go); conv => whnf)
          | ((with_reducible apply ChkF.go); conv => whnf)
          | ((with_reducible apply ChkB.go); conv => whnf)
          | (exact XSame.mk rfl rfl)
          | (exact XSame.mk (by first | rfl | (simp only [List.map_append, List.length_append, List.length_map]; done) | (simp only [List.map_append, List.length_append, List.length_map]; rfl)) (by first | rfl | (simp only [List.map_append]; done) | (simp only [List.map_append]; rfl)))
          | (with_reducible exact trivial)
          | ((with_reducible refine xdrop_app (by rw [List.length_map]; omega) ?_); conv => whnf)
          | ((with_reducible refine XArr.ints (by omega) (by omega) (by omega) ?_); conv => whnf)
          | ((with_reducible refine XArr.intsA (by omega) (by omega) (by omega) ?_); conv => whnf)
          | ((with_reducible refine XArr.nats ?_ ?_ ?_); omega; omega; conv => whnf)
          | ((with_reducible refine XArr.natsA ?_ ?_ ?_); omega; omega; conv => whnf)
          | ((with_reducible apply XArr.pim0); conv => whnf)
          | ((with_reducible apply XArr.pim1); conv => whnf)
          | ((with_reducible refine XArr.ptr ?_ ?_ ?_); omega; omega; conv => whnf)
          | ((with_reducible apply XBr.mk') <;> (intro h; conv => whnf))
      refine Walk.loop tab_ok [] (fun _ : Nat => True) (fun _ => [(6, .sl true []), (7, .int .i64 0), (9, .sl true []), (10, .int .i64 (shareE l pay)), (25, .int .i64 0), (26, .int .i64 0)])
        (fun _ => []) (fun _ => 0) 0 trivial rfl ⟨rfl, rfl, rfl, rfl, rfl, rfl, trivial⟩ ?_
      intro _ _
      conv => whnf
      repeat' first
          | ((with_reducible apply XBr.tt); conv => whnf)
          | ((with_reducible apply XBr.ff); conv => whnf)
          | (with_reducible apply XBr.not)
          | ((with_reducible apply XBr.dec) <;> (intro h; first | (exfalso; omega) | ((try simp only [List.length_map] at h); first | (exfalso; omega) | (conv => whnf))))
          | ((with_reducible apply XBr.beq) <;> (intro h; first | (exfalso; omega) | (conv => whnf)))
          | ((with_reducible apply XBr.bne) <;> (intro h; first | (exfalso; omega) | (conv => whnf)))
          | ((with_reducible refine XInt.i64 (by omega) (by omega) ?_); conv => whnf)
          | ((with_reducible refine XHold.mk ?_ ?_); (first | omega | rfl | decide | exact ⟨rfl, by decide, rfl⟩ | exact wideI _ | exact widePr _ | exact wideSk _ | (unfold Room; constructor <;> ((try simp) <;> omega)) | exact ⟨rfl, by simp only [List.length_map], by unfold Room; constructor <;> ((try simp) <;> omega)⟩ | exact ⟨by omega, by omega, by unfold Room; constructor <;> ((try simp) <;> omega)⟩); conv => whnf)
          | ((with_reducible refine XIx.nat ?_ ?_ ?_); omega; (intro _; rfl); conv => whnf)
          | ((with_reducible refine XIx.map ?_ ?_ ?_ ?_); omega; omega; (intro _; rfl); conv => whnf)
          | (with_reducible apply XAnd.mk)
          | ((with_reducible apply Chk.go); conv => whnf)
          | ((with_reducible apply ChkA.go); conv => whnf)
          | ((with_reducible apply ChkF.go); conv => whnf)
          | ((with_reducible apply ChkB.go); conv => whnf)
          | (exact XSame.mk rfl rfl)
          | (exact XSame.mk (by first | rfl | (simp only [List.map_append, List.length_append, List.length_map]; done) | (simp only [List.map_append, List.length_append, List.length_map]; rfl)) (by first | rfl | (simp only [List.map_append]; done) | (simp only [List.map_append]; rfl)))
          | (with_reducible exact trivial)
          | ((with_reducible refine xdrop_app (by rw [List.length_map]; omega) ?_); conv => whnf)
          | ((with_reducible refine XArr.ints (by omega) (by omega) (by omega) ?_); conv => whnf)
          | ((with_reducible refine XArr.intsA (by omega) (by omega) (by omega) ?_); conv => whnf)
          | ((with_reducible refine XArr.nats ?_ ?_ ?_); omega; omega; conv => whnf)
          | ((with_reducible refine XArr.natsA ?_ ?_ ?_); omega; omega; conv => whnf)
          | ((with_reducible apply XArr.pim0); conv => whnf)
          | ((with_reducible apply XArr.pim1); conv => whnf)
          | ((with_reducible refine XArr.ptr ?_ ?_ ?_); omega; omega; conv => whnf)
          | ((with_reducible apply XBr.mk') <;> (intro h; conv => whnf))
      exact XGive.err rfl
end GA
end

section
/- Contracts: loads that are made. -/
namespace GA
open Go Go.RowKit Go.Proofs
set_option pp.deepTerms true
set_option maxRecDepth 8000
set_option linter.unusedVariables false
set_option linter.unusedSimpArgs false

/-- Sacks that are dealt. -/
def mdK (u : Hp) : Nat → List Sk × Hp
  | 0 => ([], u)
  | k + 1 => ((mdK u k).1 ++ [⟨1 + modV (mdK u k).2 59, modV (hpS (mdK u k).2) 5⟩], hpS (hpS (mdK u k).2))
theorem mdK_ok {u : Hp} (o : u.Ok) : ∀ k, (mdK u k).2.Ok ∧ (mdK u k).1.length = k
  | 0 => ⟨o, rfl⟩
  | k + 1 => by
    obtain ⟨h1, h2⟩ := mdK_ok o k
    exact ⟨hpS_ok (hpS_ok h1), by simp [mdK, h2]⟩
theorem mdK_sk {u : Hp} : ∀ k, ∀ s ∈ (mdK u k).1, 1 ≤ s.m ∧ s.m ≤ 60 ∧ 0 ≤ s.o ∧ s.o ≤ 5
  | 0, s, h => by simp [mdK] at h
  | k + 1, s, h => by
    rw [mdK, List.mem_append] at h
    rcases h with h | h
    · exact mdK_sk k s h
    · simp only [List.mem_singleton] at h; subst h
      have h1 := modV_bound (mdK u k).2 59
      have h2 := modV_bound (hpS (mdK u k).2) 5
      dsimp only; omega
/-- Pairs that are dealt, of so many sacks. -/
structure Prs where
  ap : List (Int × Int)
  wt : List (Int × Int)
  u : Hp
def prA1 (n : Int) (u : Hp) : Int := modV u (n - 1)
def prB1 (n : Int) (u : Hp) : Int := (prA1 n u + (1 + modV (hpS u) (n - 1 - 1))).tmod n
def prS (n : Int) (s : Prs) : Prs :=
  if (modV (hpS (hpS s.u)) (2 - 1) == 0) = true then ⟨s.ap ++ [(prA1 n s.u, prB1 n s.u)], s.wt, hpS (hpS (hpS s.u))⟩ else ⟨s.ap, s.wt ++ [(prA1 n s.u, prB1 n s.u)], hpS (hpS (hpS s.u))⟩
def prK (n : Int) (u : Hp) : Nat → Prs
  | 0 => ⟨[], [], u⟩
  | k + 1 => prS n (prK n u k)
theorem prK_ok {n : Int} {u : Hp} (o : u.Ok) : ∀ k, (prK n u k).u.Ok ∧ (prK n u k).ap.length + (prK n u k).wt.length = k
  | 0 => ⟨o, rfl⟩
  | k + 1 => by
    obtain ⟨h1, h2⟩ := prK_ok (n := n) o k
    unfold prK prS
    split
    · exact ⟨hpS_ok (hpS_ok (hpS_ok h1)), by simp; omega⟩
    · exact ⟨hpS_ok (hpS_ok (hpS_ok h1)), by simp; omega⟩
theorem prAB {n : Int} (u : Hp) (hn : 1 < n) : 0 ≤ prA1 n u ∧ prA1 n u < n ∧ 0 ≤ prB1 n u ∧ prB1 n u < n ∧ prA1 n u ≠ prB1 n u := by
  have h1 := modV_bound u (n - 1)
  have h2 := modV_bound (hpS u) (n - 1 - 1)
  unfold prB1 prA1
  generalize modV u (n - 1) = a at h1 ⊢
  generalize modV (hpS u) (n - 1 - 1) = b at h2 ⊢
  rw [Int.tmod_eq_emod_of_nonneg (by omega)]
  have h3 := Int.emod_nonneg (a + (1 + b)) (show n ≠ 0 by omega)
  have h4 := Int.emod_lt_of_pos (a + (1 + b)) (show 0 < n by omega)
  refine ⟨by omega, by omega, h3, h4, fun e => ?_⟩
  have h5 := Int.emod_add_mul_ediv (a + (1 + b)) n
  rcases Int.lt_or_le (a + (1 + b)) n with hlt | hle
  · rw [Int.emod_eq_of_lt (by omega) hlt] at e; omega
  · have : (a + (1 + b)) / n = 1 := by
      rw [Int.ediv_eq_iff_of_pos (by omega)]; omega
    rw [this] at h5; omega
theorem prK_in {n : Int} {u : Hp} (hn : 1 < n) : ∀ k, (∀ p ∈ (prK n u k).ap, 0 ≤ p.1 ∧ p.1 < n ∧ 0 ≤ p.2 ∧ p.2 < n ∧ p.1 ≠ p.2) ∧ ∀ p ∈ (prK n u k).wt, 0 ≤ p.1 ∧ p.1 < n ∧ 0 ≤ p.2 ∧ p.2 < n ∧ p.1 ≠ p.2
  | 0 => by simp [prK]
  | k + 1 => by
    obtain ⟨h1, h2⟩ := prK_in (u := u) hn k
    have h3 := prAB (prK n u k).u hn
    unfold prK prS
    split
    · refine ⟨fun p hp => ?_, h2⟩
      rcases List.mem_append.1 hp with hp | hp
      · exact h1 p hp
      · simp only [List.mem_singleton] at hp; subst hp; exact h3
    · refine ⟨h1, fun p hp => ?_⟩
      rcases List.mem_append.1 hp with hp | hp
      · exact h2 p hp
      · simp only [List.mem_singleton] at hp; subst hp; exact h3
def mdSk (u : Hp) (sacks : Int) : List Sk × Hp := mdK (hpS (hpS (hpS u))) (modV (hpS (hpS u)) sacks).toNat
def mdPr (u : Hp) (sacks pairs : Int) : Prs := if 1 < (mdSk u sacks).1.length then prK (mdSk u sacks).1.length (hpS (mdSk u sacks).2) (modV (mdSk u sacks).2 pairs).toNat else ⟨[], [], (mdSk u sacks).2⟩
def madeL (u : Hp) (sacks pairs : Int) : Ld := ⟨20 + modV u 80, modV (hpS u) 6 * 10, (mdSk u sacks).1.isEmpty, (mdSk u sacks).1, (mdPr u sacks pairs).ap.isEmpty, (mdPr u sacks pairs).ap, (mdPr u sacks pairs).wt.isEmpty, (mdPr u sacks pairs).wt⟩
def madeH (u : Hp) (sacks pairs : Int) : Hp := (mdPr u sacks pairs).u
theorem madeH_ok {u : Hp} (o : u.Ok) (sacks pairs : Int) : (madeH u sacks pairs).Ok := by
  have h1 := (mdK_ok (hpS_ok (hpS_ok (hpS_ok o))) (modV (hpS (hpS u)) sacks).toNat).1
  unfold madeH mdPr
  split
  · exact (prK_ok (hpS_ok h1) _).1
  · exact h1
theorem madeL_ok (u : Hp) (sacks pairs : Int) (h1 : 0 ≤ sacks) (h2 : sacks ≤ 9) (h3 : 0 ≤ pairs) (h4 : pairs ≤ 8) (o : u.Ok) : LdOk (madeL u sacks pairs) := by
  have g1 := modV_bound u 80
  have g2 := modV_bound (hpS u) 6
  have g3 := modV_bound (hpS (hpS u)) sacks
  have g4 := modV_bound (mdSk u sacks).2 pairs
  have k1 := mdK_ok (hpS_ok (hpS_ok (hpS_ok o))) (modV (hpS (hpS u)) sacks).toNat
  have hl : (mdSk u sacks).1.length ≤ 9 := by show (mdK _ _).1.length ≤ 9; omega
  have hp : (mdPr u sacks pairs).ap.length + (mdPr u sacks pairs).wt.length ≤ 8 := by
    unfold mdPr
    split
    · have := (prK_ok (n := (mdSk u sacks).1.length) (u := hpS (mdSk u sacks).2) (hpS_ok k1.1) (modV (mdSk u sacks).2 pairs).toNat).2
      omega
    · simp
  have hin : (∀ p ∈ (mdPr u sacks pairs).ap, 0 ≤ p.1 ∧ p.1 < (mdSk u sacks).1.length ∧ 0 ≤ p.2 ∧ p.2 < (mdSk u sacks).1.length ∧ p.1 ≠ p.2) ∧ ∀ p ∈ (mdPr u sacks pairs).wt, 0 ≤ p.1 ∧ p.1 < (mdSk u sacks).1.length ∧ 0 ≤ p.2 ∧ p.2 < (mdSk u sacks).1.length ∧ p.1 ≠ p.2 := by
    unfold mdPr
    split
    · exact prK_in (by omega) _
    · simp
  exact ⟨hl, by show (mdPr u sacks pairs).ap.length ≤ 8; omega, by show (mdPr u sacks pairs).wt.length ≤ 8; omega, by show 1 ≤ 20 + modV u 80; omega, by show 20 + modV u 80 ≤ 100; omega, by show 0 ≤ modV (hpS u) 6 * 10; omega, by show modV (hpS u) 6 * 10 ≤ 90; omega,
    fun s hs => by have := mdK_sk _ s hs; omega, hin.1, hin.2⟩

theorem isEmpty_app {α : Type} (l : List α) (x : α) : (l ++ [x]).isEmpty = (l.isEmpty && false) := by cases l <;> rfl
theorem made_end {H : List Blk} {r' : AV} (b s : Int) (ss : List Sk) (ap wt : List (Int × Int)) (x : Hp) {C : Blk} {C2 : Blk} (hH : H = [hpC x, C, C2, .grow 113 ss.isEmpty (ss.map skA), .grow 118 ap.isEmpty (ap.map prA), .grow 118 wt.isEmpty (wt.map prA)])
    (hr : r' = .agg [.int .i64 b, .int .i64 s, .gr 3 ss.length, .gr 4 ap.length, .gr 5 wt.length]) {n : Nat} (hn : n = 1) : XEnd Try.prog n H r' (ldA ⟨b, s, ss.isEmpty, ss, ap.isEmpty, ap, wt.isEmpty, wt⟩) [hpC x] := by
  subst hH; subst hr; subst hn
  refine ⟨rfl, rfl, fun y hy => by simp only [List.mem_cons, List.not_mem_nil, or_false] at hy; subst hy; exact hpC_low _, ?_⟩
  refine FrozN.agg ?_ (.cons (.low rfl) (.cons (.low rfl) (.cons (.grow (by decide) rfl (List.length_map _) (lowSk _)) (.cons (.grow (by decide) rfl (List.length_map _) (lowPr _)) (.cons (.grow (by decide) rfl (List.length_map _) (lowPr _)) .nil)))))
  intro y hy
  simp only [ldC, List.mem_cons, List.not_mem_nil, or_false] at hy
  rcases hy with rfl | rfl | rfl | rfl | rfl <;> rfl
theorem made_c (u : Hp) (sacks pairs : Int) (o : u.Ok) (h1 : 0 ≤ sacks) (h2 : sacks ≤ 9) (h3 : 0 ≤ pairs) (h4 : pairs ≤ 8) : HpOk 16 [.int .i64 sacks, .int .i64 pairs] u (ldA (madeL u sacks pairs)) (madeH u sacks pairs) := by
  have g1 := modV_bound u 80
  have g2 := modV_bound (hpS u) 6
  have g3 := modV_bound (hpS (hpS u)) sacks
  have k1 := mdK_ok (hpS_ok (hpS_ok (hpS_ok o)))
  refine ⟨rfl, ?_⟩
  refine ACall.bodyN (T := tab) (res := [.cell 6 26]) tab_ok [] Try.func16 rfl (by kernel_rfl) Try.ntmps16 rfl (by simp only [List.length_cons, List.length_nil]; decide) ⟨rfl, rfl⟩ ?_; conv => whnf
  repeat' first
      | ((with_reducible apply XBr.tt); conv => whnf)
      | ((with_reducible apply XBr.ff); conv => whnf)
      | (with_reducible apply XBr.not)
      | ((with_reducible apply XBr.dec) <;> (intro h; first | (exfalso; omega) | ((try simp only [List.length_map] at h); first | (exfalso; omega) | (conv => whnf))))
      | ((with_reducible apply XBr.beq) <;> (intro h; first | (exfalso; omega) | (conv => whnf)))
      | ((with_reducible apply XBr.bne) <;> (intro h; first | (exfalso; omega) | (conv => whnf)))
      | ((with_reducible refine XInt.i64 (by omega) (by omega) ?_); conv => whnf)
      | ((with_reducible refine XHold.mk ?_ ?_); (first | omega | rfl | decide | exact ⟨rfl, by decide, rfl⟩ | exact wideI _ | exact widePr _ | exact wideSk _ | (unfold Room; constructor <;> ((try simp) <;> omega)) | exact ⟨rfl, by simp only [List.length_map], by unfold Room; constructor <;> ((try simp) <;> omega)⟩ | exact ⟨by omega, by omega, by unfold Room; constructor <;> ((try simp) <;> omega)⟩); conv => whnf)
      | ((with_reducible refine XIx.nat ?_ ?_ ?_); omega; (intro _; rfl); conv => whnf)
      | ((with_reducible refine XIx.map ?_ ?_ ?_ ?_); omega; omega; (intro _; rfl); conv => whnf)
      | (with_reducible apply XAnd.mk)
      | ((with_reducible apply Chk.go); conv => whnf)
      | ((with_reducible apply ChkA.go); conv => whnf)
      | ((with_reducible apply ChkF.go); conv => whnf)
      | ((with_reducible apply ChkB.go); conv => whnf)
      | (exact XSame.mk rfl rfl)
      | (exact XSame.mk (by first | rfl | (simp only [List.map_append, List.length_append, List.length_map]; done) | (simp only [List.map_append, List.length_append, List.length_map]; rfl)) (by first | rfl | (simp only [List.map_append]; done) | (simp only [List.map_append]; rfl)))
      | (with_reducible exact trivial)
      | ((with_reducible refine xdrop_app (by rw [List.length_map]; omega) ?_); conv => whnf)
      | ((with_reducible refine XArr.ints (by omega) (by omega) (by omega) ?_); conv => whnf)
      | ((with_reducible refine XArr.intsA (by omega) (by omega) (by omega) ?_); conv => whnf)
      | ((with_reducible refine XArr.nats ?_ ?_ ?_); omega; omega; conv => whnf)
      | ((with_reducible refine XArr.natsA ?_ ?_ ?_); omega; omega; conv => whnf)
      | ((with_reducible apply XArr.pim0); conv => whnf)
      | ((with_reducible apply XArr.pim1); conv => whnf)
      | ((with_reducible refine XArr.ptr ?_ ?_ ?_); omega; omega; conv => whnf)
      | ((refine XCall.hp (j := 0) (from_c u 20 100 o (by omega) (by omega) (by omega) (by omega)) rfl rfl ?_); conv => whnf)
      | ((refine XCall.hp (j := 0) (upto_c (hpS u) 6 (hpS_ok o) (by omega) (by omega)) rfl rfl ?_); conv => whnf)
      | ((refine XCall.hp (j := 0) (upto_c (hpS (hpS u)) sacks (hpS_ok (hpS_ok o)) (by omega) (by omega)) rfl rfl ?_); conv => whnf)
      | ((with_reducible apply XBr.mk') <;> (intro h; conv => whnf))
  refine Walk.nilcell 2 2 113 rfl rfl ?_
  refine Walk.nilcell 2 3 118 rfl rfl ?_
  refine Walk.nilcell 2 4 118 rfl rfl ?_
  have hm : ((modV (hpS (hpS u)) sacks).toNat : Int) = modV (hpS (hpS u)) sacks := by omega
  refine Walk.loop tab_ok [] (fun k : Nat => k ≤ (modV (hpS (hpS u)) sacks).toNat) (fun k => [(0, .ptr 0 0), (2, .int .i64 pairs), (6, .ptr 1 0), (7, .ptr 2 0), (19, .int .i64 (modV (hpS (hpS u)) sacks)), (20, natA k)])
    (fun k => [hpC (mdK (hpS (hpS (hpS u))) k).2, .cells [.int .i64 0, .int .i64 0, .sl true [], .sl true [], .sl true []],
      .cells [.int .i64 (20 + modV u (100 - 20)), .int .i64 (modV (hpS u) 6 * 10), .gr 3 (mdK (hpS (hpS (hpS u))) k).1.length, .gr 4 0, .gr 5 0], .grow 113 (mdK (hpS (hpS (hpS u))) k).1.isEmpty ((mdK (hpS (hpS (hpS u))) k).1.map skA), .grow 118 true [], .grow 118 true []])
    (fun k => (modV (hpS (hpS u)) sacks).toNat - k) 0 (by omega) rfl ⟨rfl, rfl, rfl, rfl, rfl, rfl, trivial⟩ ?_
  intro k hk
  have k2 := k1 k
  have hnx : mdK (hpS (hpS (hpS u))) (k + 1) = ((mdK (hpS (hpS (hpS u))) k).1 ++ [⟨1 + modV (mdK (hpS (hpS (hpS u))) k).2 59, modV (hpS (mdK (hpS (hpS (hpS u))) k).2) 5⟩], hpS (hpS (mdK (hpS (hpS (hpS u))) k).2)) := rfl
  have hfin : k = (modV (hpS (hpS u)) sacks).toNat → mdSk u sacks = mdK (hpS (hpS (hpS u))) k := fun h => by rw [h]; rfl
  generalize mdK (hpS (hpS (hpS u))) k = q at k2 hnx hfin
  obtain ⟨ss, v⟩ := q
  obtain ⟨vo, vl⟩ := k2
  dsimp only at vo vl hnx hfin
  have b1 := modV_bound v 59
  have b2 := modV_bound (hpS v) 5
  conv => whnf
  repeat' first
      | ((with_reducible apply XBr.tt); conv => whnf)
      | ((with_reducible apply XBr.ff); conv => whnf)
      | (with_reducible apply XBr.not)
      | ((with_reducible apply XBr.dec) <;> (intro h; first | (exfalso; omega) | ((try simp only [List.length_map] at h); first | (exfalso; omega) | (conv => whnf))))
      | ((with_reducible apply XBr.beq) <;> (intro h; first | (exfalso; omega) | (conv => whnf)))
      | ((with_reducible apply XBr.bne) <;> (intro h; first | (exfalso; omega) | (conv => whnf)))
      | ((with_reducible refine XInt.i64 (by omega) (by omega) ?_); conv => whnf)
      | ((with_reducible refine XHold.mk ?_ ?_); (first | omega | rfl | decide | exact ⟨rfl, by decide, rfl⟩ | exact wideI _ | exact widePr _ | exact wideSk _ | (unfold Room; constructor <;> ((try simp) <;> omega)) | exact ⟨rfl, by simp only [List.length_map], by unfold Room; constructor <;> ((try simp) <;> omega)⟩ | exact ⟨by omega, by omega, by unfold Room; constructor <;> ((try simp) <;> omega)⟩); conv => whnf)
      | ((with_reducible refine XIx.nat ?_ ?_ ?_); omega; (intro _; rfl); conv => whnf)
      | ((with_reducible refine XIx.map ?_ ?_ ?_ ?_); omega; omega; (intro _; rfl); conv => whnf)
      | (with_reducible apply XAnd.mk)
      | ((with_reducible apply Chk.go); conv => whnf)
      | ((with_reducible apply ChkA.go); conv => whnf)
      | ((with_reducible apply ChkF.go); conv => whnf)
      | ((with_reducible apply ChkB.go); conv => whnf)
      | (exact XSame.mk rfl rfl)
      | (exact XSame.mk (by first | rfl | (simp only [List.map_append, List.length_append, List.length_map]; done) | (simp only [List.map_append, List.length_append, List.length_map]; rfl)) (by first | rfl | (simp only [List.map_append]; done) | (simp only [List.map_append]; rfl)))
      | (with_reducible exact trivial)
      | ((with_reducible refine xdrop_app (by rw [List.length_map]; omega) ?_); conv => whnf)
      | ((with_reducible refine XArr.ints (by omega) (by omega) (by omega) ?_); conv => whnf)
      | ((with_reducible refine XArr.intsA (by omega) (by omega) (by omega) ?_); conv => whnf)
      | ((with_reducible refine XArr.nats ?_ ?_ ?_); omega; omega; conv => whnf)
      | ((with_reducible refine XArr.natsA ?_ ?_ ?_); omega; omega; conv => whnf)
      | ((with_reducible apply XArr.pim0); conv => whnf)
      | ((with_reducible apply XArr.pim1); conv => whnf)
      | ((with_reducible refine XArr.ptr ?_ ?_ ?_); omega; omega; conv => whnf)
      | ((with_reducible apply XBr.mk') <;> (intro h; conv => whnf))
  · apply Walk.drawX tab_ok mixed_ok [] [3, 5, 8, 10] (hsV _ [id, fun H => H.set 0 (hpC (hpS v)), fun H => H.set 0 (hpC (hpS (hpS v))), fun H => (H.set 0 (hpC (hpS (hpS v)))).set 3 (.grow 113 (ss.isEmpty && false) (ss.map skA ++ [skA (Sk.mk (1 + modV v (60 - 1)) (modV (hpS v) 5))])),
      fun H => ((H.set 0 (hpC (hpS (hpS v)))).set 3 (.grow 113 (ss.isEmpty && false) (ss.map skA ++ [skA (Sk.mk (1 + modV v (60 - 1)) (modV (hpS v) 5))]))).set 2 (.cells [.int .i64 (20 + modV u (100 - 20)), .int .i64 (modV (hpS u) 6 * 10), .gr 3 (ss.length + 1), .gr 4 0, .gr 5 0])]) [_, _, _, _, _, _, _, _, _, _, _] (by kernel_rfl) rfl
    · skip
      repeat' first
          | ((with_reducible apply XBr.tt); conv => whnf)
          | ((with_reducible apply XBr.ff); conv => whnf)
          | (with_reducible apply XBr.not)
          | ((with_reducible apply XBr.dec) <;> (intro h; first | (exfalso; omega) | ((try simp only [List.length_map] at h); first | (exfalso; omega) | (conv => whnf))))
          | ((with_reducible apply XBr.beq) <;> (intro h; first | (exfalso; omega) | (conv => whnf)))
          | ((with_reducible apply XBr.bne) <;> (intro h; first | (exfalso; omega) | (conv => whnf)))
          | ((with_reducible refine XInt.i64 (by omega) (by omega) ?_); conv => whnf)
          | ((with_reducible refine XHold.mk ?_ ?_); (first | omega | rfl | decide | exact ⟨rfl, by decide, rfl⟩ | exact wideI _ | exact widePr _ | exact wideSk _ | (unfold Room; constructor <;> ((try simp) <;> omega)) | exact ⟨rfl, by simp only [List.length_map], by unfold Room; constructor <;> ((try simp) <;> omega)⟩ | exact ⟨by omega, by omega, by unfold Room; constructor <;> ((try simp) <;> omega)⟩); conv => whnf)
          | ((with_reducible refine XIx.nat ?_ ?_ ?_); omega; (intro _; rfl); conv => whnf)
          | ((with_reducible refine XIx.map ?_ ?_ ?_ ?_); omega; omega; (intro _; rfl); conv => whnf)
          | (with_reducible apply XAnd.mk)
          | ((with_reducible apply Chk.go); conv => whnf)
          | ((with_reducible apply ChkA.go); conv => whnf)
          | ((with_reducible apply ChkF.go); conv => whnf)
          | ((with_reducible apply ChkB.go); conv => whnf)
          | (exact XSame.mk rfl rfl)
          | (exact XSame.mk (by first | rfl | (simp only [List.map_append, List.length_append, List.length_map]; done) | (simp only [List.map_append, List.length_append, List.length_map]; rfl)) (by first | rfl | (simp only [List.map_append]; done) | (simp only [List.map_append]; rfl)))
          | (with_reducible exact trivial)
          | ((with_reducible refine xdrop_app (by rw [List.length_map]; omega) ?_); conv => whnf)
          | ((with_reducible refine XArr.ints (by omega) (by omega) (by omega) ?_); conv => whnf)
          | ((with_reducible refine XArr.intsA (by omega) (by omega) (by omega) ?_); conv => whnf)
          | ((with_reducible refine XArr.nats ?_ ?_ ?_); omega; omega; conv => whnf)
          | ((with_reducible refine XArr.natsA ?_ ?_ ?_); omega; omega; conv => whnf)
          | ((with_reducible apply XArr.pim0); conv => whnf)
          | ((with_reducible apply XArr.pim1); conv => whnf)
          | ((with_reducible refine XArr.ptr ?_ ?_ ?_); omega; omega; conv => whnf)
          | ((refine XCall.hp (j := 0) (from_c v 1 60 vo (by omega) (by omega) (by omega) (by omega)) rfl rfl ?_); conv => whnf)
          | ((refine XCall.hp (j := 0) (upto_c (hpS v) 5 (hpS_ok vo) (by omega) (by omega)) rfl rfl ?_); conv => whnf)
          | ((with_reducible apply XBr.mk') <;> (intro h; conv => whnf))
    · skip
      repeat' first
          | ((with_reducible apply XBr.tt); conv => whnf)
          | ((with_reducible apply XBr.ff); conv => whnf)
          | (with_reducible apply XBr.not)
          | ((with_reducible apply XBr.dec) <;> (intro h; first | (exfalso; omega) | ((try simp only [List.length_map] at h); first | (exfalso; omega) | (conv => whnf))))
          | ((with_reducible apply XBr.beq) <;> (intro h; first | (exfalso; omega) | (conv => whnf)))
          | ((with_reducible apply XBr.bne) <;> (intro h; first | (exfalso; omega) | (conv => whnf)))
          | ((with_reducible refine XInt.i64 (by omega) (by omega) ?_); conv => whnf)
          | ((with_reducible refine XHold.mk ?_ ?_); (first | omega | rfl | decide | exact ⟨rfl, by decide, rfl⟩ | exact wideI _ | exact widePr _ | exact wideSk _ | (unfold Room; constructor <;> ((try simp) <;> omega)) | exact ⟨rfl, by simp only [List.length_map], by unfold Room; constructor <;> ((try simp) <;> omega)⟩ | exact ⟨by omega, by omega, by unfold Room; constructor <;> ((try simp) <;> omega)⟩); conv => whnf)
          | ((with_reducible refine XIx.nat ?_ ?_ ?_); omega; (intro _; rfl); conv => whnf)
          | ((with_reducible refine XIx.map ?_ ?_ ?_ ?_); omega; omega; (intro _; rfl); conv => whnf)
          | (with_reducible apply XAnd.mk)
          | ((with_reducible apply Chk.go); conv => whnf)
          | ((with_reducible apply ChkA.go); conv => whnf)
          | ((with_reducible apply ChkF.go); conv => whnf)
          | ((with_reducible apply ChkB.go); conv => whnf)
          | (exact XSame.mk rfl rfl)
          | (exact XSame.mk (by first | rfl | (simp only [List.map_append, List.length_append, List.length_map]; done) | (simp only [List.map_append, List.length_append, List.length_map]; rfl)) (by first | rfl | (simp only [List.map_append]; done) | (simp only [List.map_append]; rfl)))
          | (with_reducible exact trivial)
          | ((with_reducible refine xdrop_app (by rw [List.length_map]; omega) ?_); conv => whnf)
          | ((with_reducible refine XArr.ints (by omega) (by omega) (by omega) ?_); conv => whnf)
          | ((with_reducible refine XArr.intsA (by omega) (by omega) (by omega) ?_); conv => whnf)
          | ((with_reducible refine XArr.nats ?_ ?_ ?_); omega; omega; conv => whnf)
          | ((with_reducible refine XArr.natsA ?_ ?_ ?_); omega; omega; conv => whnf)
          | ((with_reducible apply XArr.pim0); conv => whnf)
          | ((with_reducible apply XArr.pim1); conv => whnf)
          | ((with_reducible refine XArr.ptr ?_ ?_ ?_); omega; omega; conv => whnf)
          | ((refine XCall.hp (j := 0) (from_c v 1 60 vo (by omega) (by omega) (by omega) (by omega)) rfl rfl ?_); conv => whnf)
          | ((refine XCall.hp (j := 0) (upto_c (hpS v) 5 (hpS_ok vo) (by omega) (by omega)) rfl rfl ?_); conv => whnf)
          | ((with_reducible apply XBr.mk') <;> (intro h; conv => whnf))
    · conv => whnf
      repeat' first
          | ((with_reducible apply XBr.tt); conv => whnf)
          | ((with_reducible apply XBr.ff); conv => whnf)
          | (with_reducible apply XBr.not)
          | ((with_reducible apply XBr.dec) <;> (intro h; first | (exfalso; omega) | ((try simp only [List.length_map] at h); first | (exfalso; omega) | (conv => whnf))))
          | ((with_reducible apply XBr.beq) <;> (intro h; first | (exfalso; omega) | (conv => whnf)))
          | ((with_reducible apply XBr.bne) <;> (intro h; first | (exfalso; omega) | (conv => whnf)))
          | ((with_reducible refine XInt.i64 (by omega) (by omega) ?_); conv => whnf)
          | ((with_reducible refine XHold.mk ?_ ?_); (first | omega | rfl | decide | exact ⟨rfl, by decide, rfl⟩ | exact wideI _ | exact widePr _ | exact wideSk _ | (unfold Room; constructor <;> ((try simp) <;> omega)) | exact ⟨rfl, by simp only [List.length_map], by unfold Room; constructor <;> ((try simp) <;> omega)⟩ | exact ⟨by omega, by omega, by unfold Room; constructor <;> ((try simp) <;> omega)⟩); conv => whnf)
          | ((with_reducible refine XIx.nat ?_ ?_ ?_); omega; (intro _; rfl); conv => whnf)
          | ((with_reducible refine XIx.map ?_ ?_ ?_ ?_); omega; omega; (intro _; rfl); conv => whnf)
          | (with_reducible apply XAnd.mk)
          | ((with_reducible apply Chk.go); conv => whnf)
          | ((with_reducible apply ChkA.go); conv => whnf)
          | ((with_reducible apply ChkF.go); conv => whnf)
          | ((with_reducible apply ChkB.go); conv => whnf)
          | (exact XSame.mk rfl rfl)
          | (exact XSame.mk (by first | rfl | (simp only [List.map_append, List.length_append, List.length_map]; done) | (simp only [List.map_append, List.length_append, List.length_map]; rfl)) (by first | rfl | (simp only [List.map_append]; done) | (simp only [List.map_append]; rfl)))
          | (with_reducible exact trivial)
          | ((with_reducible refine xdrop_app (by rw [List.length_map]; omega) ?_); conv => whnf)
          | ((with_reducible refine XArr.ints (by omega) (by omega) (by omega) ?_); conv => whnf)
          | ((with_reducible refine XArr.intsA (by omega) (by omega) (by omega) ?_); conv => whnf)
          | ((with_reducible refine XArr.nats ?_ ?_ ?_); omega; omega; conv => whnf)
          | ((with_reducible refine XArr.natsA ?_ ?_ ?_); omega; omega; conv => whnf)
          | ((with_reducible apply XArr.pim0); conv => whnf)
          | ((with_reducible apply XArr.pim1); conv => whnf)
          | ((with_reducible refine XArr.ptr ?_ ?_ ?_); omega; omega; conv => whnf)
          | ((with_reducible apply XBr.mk') <;> (intro h; conv => whnf))
      refine XAgain.go (k + 1) (by omega) (by omega) ?_ ⟨rfl, rfl, rfl, rfl, rfl, rfl, trivial⟩
      rw [hnx]; simp only [List.length_append, List.map_append, isEmpty_app]; rfl
  · have hq := hfin (by omega)
    have hL : madeL u sacks pairs = ⟨20 + modV u 80, modV (hpS u) 6 * 10, ss.isEmpty, ss, (mdPr u sacks pairs).ap.isEmpty, (mdPr u sacks pairs).ap, (mdPr u sacks pairs).wt.isEmpty, (mdPr u sacks pairs).wt⟩ := by unfold madeL; rw [hq]
    have hP : mdPr u sacks pairs = if 1 < ss.length then prK ss.length (hpS v) (modV v pairs).toNat else ⟨[], [], v⟩ := by unfold mdPr; rw [hq]
    unfold madeH
    rw [hL]
    generalize mdPr u sacks pairs = pq at hP
    have b3 := modV_bound v pairs
    have hmp : ((modV v pairs).toNat : Int) = modV v pairs := by omega
    repeat' first
        | ((with_reducible apply XBr.tt); conv => whnf)
        | ((with_reducible apply XBr.ff); conv => whnf)
        | (with_reducible apply XBr.not)
        | ((with_reducible apply XBr.dec) <;> (intro h; first | (exfalso; omega) | ((try simp only [List.length_map] at h); first | (exfalso; omega) | (conv => whnf))))
        | ((with_reducible apply XBr.beq) <;> (intro h; first | (exfalso; omega) | (conv => whnf)))
        | ((with_reducible apply XBr.bne) <;> (intro h; first | (exfalso; omega) | (conv => whnf)))
        | ((with_reducible refine XInt.i64 (by omega) (by omega) ?_); conv => whnf)
        | ((with_reducible refine XHold.mk ?_ ?_); (first | omega | rfl | decide | exact ⟨rfl, by decide, rfl⟩ | exact wideI _ | exact widePr _ | exact wideSk _ | (unfold Room; constructor <;> ((try simp) <;> omega)) | exact ⟨rfl, by simp only [List.length_map], by unfold Room; constructor <;> ((try simp) <;> omega)⟩ | exact ⟨by omega, by omega, by unfold Room; constructor <;> ((try simp) <;> omega)⟩); conv => whnf)
        | ((with_reducible refine XIx.nat ?_ ?_ ?_); omega; (intro _; rfl); conv => whnf)
        | ((with_reducible refine XIx.map ?_ ?_ ?_ ?_); omega; omega; (intro _; rfl); conv => whnf)
        | (with_reducible apply XAnd.mk)
        | ((with_reducible apply Chk.go); conv => whnf)
        | ((with_reducible apply ChkA.go); conv => whnf)
        | ((with_reducible apply ChkF.go); conv => whnf)
        | ((with_reducible apply ChkB.go); conv => whnf)
        | (exact XSame.mk rfl rfl)
        | (exact XSame.mk (by first | rfl | (simp only [List.map_append, List.length_append, List.length_map]; done) | (simp only [List.map_append, List.length_append, List.length_map]; rfl)) (by first | rfl | (simp only [List.map_append]; done) | (simp only [List.map_append]; rfl)))
        | (with_reducible exact trivial)
        | ((with_reducible refine xdrop_app (by rw [List.length_map]; omega) ?_); conv => whnf)
        | ((with_reducible refine XArr.ints (by omega) (by omega) (by omega) ?_); conv => whnf)
        | ((with_reducible refine XArr.intsA (by omega) (by omega) (by omega) ?_); conv => whnf)
        | ((with_reducible refine XArr.nats ?_ ?_ ?_); omega; omega; conv => whnf)
        | ((with_reducible refine XArr.natsA ?_ ?_ ?_); omega; omega; conv => whnf)
        | ((with_reducible apply XArr.pim0); conv => whnf)
        | ((with_reducible apply XArr.pim1); conv => whnf)
        | ((with_reducible refine XArr.ptr ?_ ?_ ?_); omega; omega; conv => whnf)
        | ((refine XCall.hp (j := 0) (upto_c v pairs vo (by omega) (by omega)) rfl rfl ?_); conv => whnf)
        | ((refine XHold.mk (List.length_map _) ?_); conv => whnf)
        | ((with_reducible apply XBr.mk') <;> (intro h; conv => whnf))
    · rw [if_pos (by omega)] at hP
      have hn1 : 1 < (ss.length : Int) := by omega
      have pk := prK_ok (n := ss.length) (hpS_ok vo)
      refine Walk.loopG tab_ok [] (fun j : Nat => j ≤ (modV v pairs).toNat) (fun j => [(0, .ptr 0 0), (6, .ptr 1 0), (7, .ptr 2 0), (8, .int .i64 ss.length), (40, .int .i64 (modV v pairs)), (41, natA j)])
        (fun j => [hpC (prK ss.length (hpS v) j).u, .cells [.int .i64 0, .int .i64 0, .sl true [], .sl true [], .sl true []],
          .cells [.int .i64 (20 + modV u (100 - 20)), .int .i64 (modV (hpS u) 6 * 10), .gr 3 ss.length, .gr 4 (prK ss.length (hpS v) j).ap.length, .gr 5 (prK ss.length (hpS v) j).wt.length], .grow 113 ss.isEmpty (ss.map skA),
          .grow 118 (prK ss.length (hpS v) j).ap.isEmpty ((prK ss.length (hpS v) j).ap.map prA), .grow 118 (prK ss.length (hpS v) j).wt.isEmpty ((prK ss.length (hpS v) j).wt.map prA)])
        (fun j => (modV v pairs).toNat - j) 0 (by omega) rfl ⟨rfl, rfl, rfl, rfl, rfl, rfl, trivial⟩ ?_ ?_ ?_
      · intro j _
        constructor
        · intro x hx; simp only [List.mem_cons, List.not_mem_nil, or_false] at hx
          rcases hx with rfl | rfl | rfl | rfl | rfl | rfl <;> first | exact hpC_low _ | exact lowSk _ | exact lowPr _ | rfl
        · intro p hp; simp only [List.mem_cons, List.not_mem_nil, or_false] at hp; rcases hp with rfl | rfl | rfl | rfl | rfl | rfl <;> rfl
      · intro j _; exact Nat.le_refl _
      intro j hj
      have pj := pk j
      have hnxt : prK ss.length (hpS v) (j + 1) = prS ss.length (prK ss.length (hpS v) j) := rfl
      have hfin2 : j = (modV v pairs).toNat → pq = prK ss.length (hpS v) j := fun h => by rw [hP, h]
      generalize prK ss.length (hpS v) j = st at pj hnxt hfin2
      obtain ⟨ap, wt, x⟩ := st
      dsimp only at pj hnxt hfin2 ⊢
      have xo := pj.1
      have ab := prAB x hn1
      unfold prB1 prA1 at ab
      have c1 := modV_bound x (ss.length - 1)
      have c2 := modV_bound (hpS x) (ss.length - 1 - 1)
      have hss : ss.length ≤ 9 := by omega
      conv => whnf
      repeat' first
          | ((with_reducible apply XBr.tt); conv => whnf)
          | ((with_reducible apply XBr.ff); conv => whnf)
          | (with_reducible apply XBr.not)
          | ((with_reducible apply XBr.dec) <;> (intro h; first | (exfalso; omega) | ((try simp only [List.length_map] at h); first | (exfalso; omega) | (conv => whnf))))
          | ((with_reducible apply XBr.beq) <;> (intro h; first | (exfalso; omega) | (conv => whnf)))
          | ((with_reducible apply XBr.bne) <;> (intro h; first | (exfalso; omega) | (conv => whnf)))
          | ((with_reducible refine XInt.i64 (by omega) (by omega) ?_); conv => whnf)
          | ((with_reducible refine XHold.mk ?_ ?_); (first | omega | rfl | decide | exact ⟨rfl, by decide, rfl⟩ | exact wideI _ | exact widePr _ | exact wideSk _ | (unfold Room; constructor <;> ((try simp) <;> omega)) | exact ⟨rfl, by simp only [List.length_map], by unfold Room; constructor <;> ((try simp) <;> omega)⟩ | exact ⟨by omega, by omega, by unfold Room; constructor <;> ((try simp) <;> omega)⟩); conv => whnf)
          | ((with_reducible refine XIx.nat ?_ ?_ ?_); omega; (intro _; rfl); conv => whnf)
          | ((with_reducible refine XIx.map ?_ ?_ ?_ ?_); omega; omega; (intro _; rfl); conv => whnf)
          | (with_reducible apply XAnd.mk)
          | ((with_reducible apply Chk.go); conv => whnf)
          | ((with_reducible apply ChkA.go); conv => whnf)
          | ((with_reducible apply ChkF.go); conv => whnf)
          | ((with_reducible apply ChkB.go); conv => whnf)
          | (exact XSame.mk rfl rfl)
          | (exact XSame.mk (by first | rfl | (simp only [List.map_append, List.length_append, List.length_map]; done) | (simp only [List.map_append, List.length_append, List.length_map]; rfl)) (by first | rfl | (simp only [List.map_append]; done) | (simp only [List.map_append]; rfl)))
          | (with_reducible exact trivial)
          | ((with_reducible refine xdrop_app (by rw [List.length_map]; omega) ?_); conv => whnf)
          | ((with_reducible refine XArr.ints (by omega) (by omega) (by omega) ?_); conv => whnf)
          | ((with_reducible refine XArr.intsA (by omega) (by omega) (by omega) ?_); conv => whnf)
          | ((with_reducible refine XArr.nats ?_ ?_ ?_); omega; omega; conv => whnf)
          | ((with_reducible refine XArr.natsA ?_ ?_ ?_); omega; omega; conv => whnf)
          | ((with_reducible apply XArr.pim0); conv => whnf)
          | ((with_reducible apply XArr.pim1); conv => whnf)
          | ((with_reducible refine XArr.ptr ?_ ?_ ?_); omega; omega; conv => whnf)
          | ((refine XCall.hp (j := 0) (upto_c x (ss.length - 1) xo (by omega) (by omega)) rfl rfl ?_); conv => whnf)
          | ((refine XCall.hp (j := 0) (from_c (hpS x) 1 (ss.length - 1) (hpS_ok xo) (by omega) (by omega) (by omega) (by omega)) rfl rfl ?_); conv => whnf)
          | ((refine XCall.hp (j := 0) (once_c (hpS (hpS x)) 2 (hpS_ok (hpS_ok xo)) (by omega) (by omega)) rfl rfl ?_); conv => whnf)
          | ((refine XHold.mk (List.length_map _) ?_); conv => whnf)
          | ((with_reducible apply XBr.mk') <;> (intro h; conv => whnf))
      · refine XAgainG.go (j + 1) [.cells [.int .i64 (prA1 ss.length x), .int .i64 (prB1 ss.length x)]] (by omega) (by omega) ?_ ⟨rfl, rfl, rfl, rfl, rfl, rfl, trivial⟩
        rw [hnxt]; unfold prS; rw [if_pos (by simpa using h)]; simp only [List.length_append, List.map_append, isEmpty_app]; rfl
      · refine XAgainG.go (j + 1) [.cells [.int .i64 (prA1 ss.length x), .int .i64 (prB1 ss.length x)]] (by omega) (by omega) ?_ ⟨rfl, rfl, rfl, rfl, rfl, rfl, trivial⟩
        rw [hnxt]; unfold prS; rw [if_neg (by simpa using h)]; simp only [List.length_append, List.map_append, isEmpty_app]; rfl
      · rw [hfin2 (by omega)]
        exact made_end _ _ _ _ _ _ rfl rfl rfl
    · rw [if_neg (by omega)] at hP
      subst hP
      exact made_end (20 + modV u 80) (modV (hpS u) 6 * 10) ss [] [] v rfl rfl rfl
end GA
end

section
/- Plain laws: parts, shares and what is owed. -/
namespace GA
open Go Go.RowKit Go.Proofs
set_option linter.unusedVariables false
set_option linter.unusedSimpArgs false

theorem sum_set (v : Int) : ∀ (xs : List Int) (i : Nat), i < xs.length → (xs.set i v).sum = xs.sum - xs.getD i 0 + v
  | [], i, h => by simp at h
  | x :: xs, 0, h => by simp; omega
  | x :: xs, i + 1, h => by
    have := sum_set v xs i (by simpa using h)
    simp only [List.set_cons_succ, List.sum_cons, List.getD_cons_succ, this]; omega
theorem sum_pos : ∀ (xs : List Int), (∀ i, 0 ≤ xs.getD i 0) → 0 ≤ xs.sum
  | [], _ => by simp
  | x :: xs, h => by
    have h1 := h 0
    have h2 := sum_pos xs fun i => by have := h (i + 1); simpa using this
    simp only [List.getD_cons_zero] at h1
    rw [List.sum_cons]; omega
theorem le_greatest : ∀ (xs : List Int) (n : Int), n ≤ xs.foldl (fun n m => max n m) n ∧ ∀ x ∈ xs, x ≤ xs.foldl (fun n m => max n m) n
  | [], n => by simp
  | y :: xs, n => by
    obtain ⟨h1, h2⟩ := le_greatest xs (max n y)
    rw [List.foldl_cons]
    refine ⟨by omega, fun x hx => ?_⟩
    rcases List.mem_cons.1 hx with rfl | hx
    · omega
    · exact h2 x hx
theorem sum_zero : ∀ (xs : List Int), (∀ x ∈ xs, x ≤ 0) → xs.sum ≤ 0
  | [], _ => by simp
  | x :: xs, h => by
    have h1 := h x (by simp)
    have h2 := sum_zero xs fun y hy => h y (by simp [hy])
    rw [List.sum_cons]; omega
theorem parts_sum {l : Ld} (o : LdOk l) : ∀ (ss : List Sk) (out : List Int), (∀ s ∈ ss, s ∈ l.sacks) → out.length = 6 → (ss.foldl (partStep l) out).sum = out.sum + (ss.map (weightR l)).sum
  | [], out, _, _ => by simp
  | s :: ss, out, hs, ho => by
    have hso := o.sk s (hs s (by simp))
    rw [List.foldl_cons, parts_sum o ss _ (fun x hx => hs x (by simp [hx])) (by simp [partStep, ho])]
    unfold partStep
    rw [sum_set _ _ _ (by omega), List.map_cons, List.sum_cons]; omega
theorem wsum_pos {l : Ld} (o : LdOk l) : ∀ (ss : List Sk), (∀ s ∈ ss, s ∈ l.sacks) → (ss.length : Int) ≤ (ss.map (weightR l)).sum
  | [], _ => by simp
  | s :: ss, hs => by
    have h1 := wt_le o (hs s (by simp))
    have h2 := wsum_pos o ss fun x hx => hs x (by simp [hx])
    rw [List.map_cons, List.sum_cons, List.length_cons]; omega
theorem greatest_zero {l : Ld} (o : LdOk l) (h : greatestR (partsR l) = 0) : l.sacks = [] := by
  have h1 := parts_sum o l.sacks (List.replicate 6 0) (fun _ h => h) (by simp)
  have h2 := wsum_pos o l.sacks (fun _ h => h)
  have h3 := sum_zero (partsR l) fun x hx => by have := (le_greatest (partsR l) 0).2 x hx; unfold greatestR at h; omega
  have h4 : (List.replicate 6 (0 : Int)).sum = 0 := by decide
  unfold partsR at h3
  have : (l.sacks.length : Int) ≤ 0 := by omega
  exact List.length_eq_zero_iff.1 (by omega)
theorem share_sum {parts : List Int} (hp : PartsOk 9 parts) : ∀ n, (shareI parts n).sum = n
  | 0 => rfl
  | n + 1 => by
    have ih := share_sum hp n
    have ok := shareI_ok hp n
    have hw : whoR parts (shareI parts n) < 6 := (pqI_ok hp ok 6 (Nat.le_refl _)).1
    rw [shareI, shareStep, sum_set _ _ _ (by rw [ok.1]; exact hw), ih]; omega

/-- Numbers that are dealt. -/
def dealK (u : Hp) (m : Int) : Nat → List Int × Hp
  | 0 => ([], u)
  | k + 1 => ((dealK u m k).1 ++ [modV (dealK u m k).2 m], hpS (dealK u m k).2)
theorem dealK_ok {u : Hp} (o : u.Ok) (m : Int) (hm : 0 ≤ m) : ∀ k, (dealK u m k).2.Ok ∧ (dealK u m k).1.length = k ∧ ∀ x ∈ (dealK u m k).1, 0 ≤ x ∧ x ≤ m
  | 0 => ⟨o, rfl, by simp [dealK]⟩
  | k + 1 => by
    obtain ⟨h1, h2, h3⟩ := dealK_ok o m hm k
    refine ⟨hpS_ok h1, by simp [dealK, h2], fun x hx => ?_⟩
    rw [dealK, List.mem_append] at hx
    rcases hx with hx | hx
    · exact h3 x hx
    · simp only [List.mem_singleton] at hx; subst hx
      have := modV_bound (dealK u m k).2 m; omega
theorem sharedE_zero {l : Ld} (o : LdOk l) {xs : List Int} (h6 : xs.length = 6) (h : ∀ x ∈ xs, 0 ≤ x ∧ x ≤ 500) : sharedE l xs = 0 := by
  unfold sharedE
  rw [if_neg (by rw [(checkR_ok l).2 o]; simp), if_neg (by omega), if_neg]
  have : (xs.all fun n => inB n 0 500) = true := List.all_eq_true.2 fun x hx => inB_iff.2 (h x hx)
  rw [this]; simp
theorem owed_get (s a : List Int) (hs : s.length = 6) (i : Nat) (hi : i < 6) : (owedK s a 6).getD i 0 = s.getD i 0 - a.getD i 0 := by
  rw [owedK_get, if_pos ⟨hi, by omega⟩]
theorem take_sum (xs : List Int) (i : Nat) (hi : i < xs.length) : (xs.take (i + 1)).sum = (xs.take i).sum + xs.getD i 0 := by
  rw [take_next hi, List.sum_append]; simp
theorem take_bound {n : Int} {xs : List Int} (i : Nat) (h : ∀ j, 0 ≤ xs.getD j 0 ∧ xs.getD j 0 ≤ n) : 0 ≤ (xs.take i).sum ∧ (xs.take i).sum ≤ n * i := by
  induction i with
  | zero => simp
  | succ i ih =>
    by_cases hi : i < xs.length
    · rw [take_sum xs i hi]
      have := h i
      rw [Int.natCast_add, Int.mul_add]; simp only [Int.natCast_one, Int.mul_one] at *; omega
    · have e1 : xs.take (i + 1) = xs.take i := by rw [List.take_of_length_le (by omega), List.take_of_length_le (by omega)]
      have := h 0
      rw [e1, Int.natCast_add, Int.mul_add]; simp only [Int.natCast_one, Int.mul_one] at *; omega
end GA
end
