/- Part 6 of a proof: D31, D32, D19, D30, D34, D35, D41, Abs37, Abs38, D36, D13, D44, D45. -/
import Derived.Test.YtfpggfdojnnaiaaP5
section
namespace GA
open Go Go.RowKit Go.Proofs
set_option pp.deepTerms true
set_option maxRecDepth 8000
set_option linter.unusedVariables false
set_option linter.unusedSimpArgs false

theorem dup_mo (nl : Bool) (xs : List Mo) (hx : xs.length ≤ 100000) : Comp Try.prog 99 [.sl nl (xs.map moA)] (.sl false (xs.map moA)) := by
  refine Comp.body (T := tab) (res := [.tmp 2]) tab_ok [] Try.func99 rfl (by kernel_rfl) Try.ntmps99 rfl (by simp only [List.length_cons, List.length_nil]; decide) (by simp only [lowL, AV.low, lowMo]; rfl) ?_; conv => whnf
  refine XHold.mk ⟨by omega, by simp, by unfold Room; simp; omega⟩ ?_
  conv => whnf
  refine XHold.mk (wideMo xs) ?_
  conv => whnf
  refine XHold.mk ⟨rfl, rfl, by unfold Room; simp; omega⟩ ?_
  conv => whnf
  exact ⟨Froz.grow rfl (by simp) (lowMo xs)⟩
theorem dup_su (nl : Bool) (xs : List Su) (hx : xs.length ≤ 100000) : Comp Try.prog 100 [.sl nl (xs.map suA)] (.sl false (xs.map suA)) := by
  refine Comp.body (T := tab) (res := [.tmp 2]) tab_ok [] Try.func100 rfl (by kernel_rfl) Try.ntmps100 rfl (by simp only [List.length_cons, List.length_nil]; decide) (by simp only [lowL, AV.low, lowSu]; rfl) ?_; conv => whnf
  refine XHold.mk ⟨by omega, by simp, by unfold Room; simp; omega⟩ ?_
  conv => whnf
  refine XHold.mk (wideSu xs) ?_
  conv => whnf
  refine XHold.mk ⟨rfl, rfl, by unfold Room; simp; omega⟩ ?_
  conv => whnf
  exact ⟨Froz.grow rfl (by simp) (lowSu xs)⟩
def ownB (b : Bd) : Bd := { b with nlm := false, nls := false }
theorem own04_c (b : Bd) (h1 : b.months.length ≤ 100000) (h2 : b.surveys.length ≤ 100000) : Comp Try.prog 26 [bedA b] (bedA (ownB b)) := by
  refine Comp.body (T := tab) (res := [.cell 2 26]) tab_ok [1] Try.func26 rfl (by kernel_rfl) Try.ntmps26 rfl (by simp only [List.length_cons, List.length_nil]; decide) (by simp only [lowL, bedL]; rfl) ?_; conv => whnf
  repeat' first | (with_reducible apply XAnd.mk) | ((first | (with_reducible apply Chk.go) | (with_reducible apply ChkA.go) | (with_reducible apply ChkF.go) | (with_reducible apply ChkB.go)); conv => whnf) | (exact XSame.mk rfl rfl) | (with_reducible exact trivial) | (apply Walk.drawN (id := 1) tab_ok mixed_ok [1] [7, 9] (hsC [_, _, _]) [_, _, _, _, _, _, _, _, _, _] (by kernel_rfl) rfl) | ((first | (with_reducible apply XNext.mk) | (refine XCall.ret (dup_mo _ b.months h1) ?_) | (refine XCall.ret (dup_su _ b.surveys h2) ?_)); conv => whnf) | fail
  exact ⟨Froz.low (bedL (ownB b))⟩
theorem equal_mo (n1 n2 : Bool) (xs : List Mo) (hx : xs.length ≤ 100000) : Comp Try.prog 171 [.sl n1 (xs.map moA), .sl n2 (xs.map moA)] (.bool true) := by
  refine Comp.body (T := tab) (res := [.tmp 4]) tab_ok [] Try.func171 rfl (by kernel_rfl) Try.ntmps171 rfl (by simp only [List.length_cons, List.length_nil]; decide) (by simp only [lowL, AV.low, lowMo]; rfl) ?_; conv => whnf
  repeat' first | ((with_reducible apply XBr.bne) <;> (intro h; first | (exfalso; omega) | (conv => whnf))) | fail
  refine Walk.loop tab_ok [] (fun i : Nat => i ≤ xs.length) (fun i => [(0, .sl n1 (xs.map moA)), (1, .sl n2 (xs.map moA)), (12, .int .i64 xs.length), (13, .int .i64 i)]) (fun _ => []) (fun i => xs.length - i) 0 (Nat.zero_le _) rfl ⟨rfl, rfl, by simp only [List.length_map]; rfl, rfl, trivial⟩ ?_
  intro i hi
  conv => whnf
  repeat' first | ((with_reducible apply XBr.ff); conv => whnf) | ((with_reducible apply XBr.dec) <;> (intro h; first | (exfalso; omega) | ((try simp only [List.length_map] at h); first | (exfalso; omega) | (conv => whnf)))) | ((first | (with_reducible refine XInt.i64 (by omega) (by omega) ?_) | ((with_reducible refine XIx.nat ?_ ?_ ?_); omega; (intro _; rfl))); conv => whnf) | (with_reducible apply XAnd.mk) | ((first | (with_reducible apply Chk.go) | (with_reducible apply ChkA.go) | (with_reducible apply ChkF.go) | (with_reducible apply ChkB.go)); conv => whnf) | (exact XSame.mk rfl rfl) | (with_reducible exact trivial) | (apply Walk.drawN (id := 6) tab_ok mixed_ok [] [] (hsU _) [_, _, _, _, _, _, _, _, _] (by kernel_rfl) rfl) | ((with_reducible apply XNext.mk); conv => whnf) | ((refine XEqA.mk ⟨[(xs.getD i default).g, (xs.getD i default).r, (xs.getD i default).pl, (xs.getD i default).ph, (xs.getD i default).tl, (xs.getD i default).th], [(xs.getD i default).g, (xs.getD i default).r, (xs.getD i default).pl, (xs.getD i default).ph, (xs.getD i default).tl, (xs.getD i default).th], rfl, rfl, rfl, rfl, ?_⟩); exact XSame.mk (show AV.bool (!(_ == _)) = AV.bool false by simp) rfl) | fail
  · exact XAgain.go (i + 1) (by omega) (by omega) rfl ⟨rfl, rfl, rfl, rfl, trivial⟩
  · exact XOut.bool rfl
theorem equal_su (n1 n2 : Bool) (xs : List Su) (hx : xs.length ≤ 100000) : Comp Try.prog 172 [.sl n1 (xs.map suA), .sl n2 (xs.map suA)] (.bool true) := by
  refine Comp.body (T := tab) (res := [.tmp 4]) tab_ok [] Try.func172 rfl (by kernel_rfl) Try.ntmps172 rfl (by simp only [List.length_cons, List.length_nil]; decide) (by simp only [lowL, AV.low, lowSu]; rfl) ?_; conv => whnf
  repeat' first | ((with_reducible apply XBr.bne) <;> (intro h; first | (exfalso; omega) | (conv => whnf))) | fail
  refine Walk.loop tab_ok [] (fun i : Nat => i ≤ xs.length) (fun i => [(0, .sl n1 (xs.map suA)), (1, .sl n2 (xs.map suA)), (12, .int .i64 xs.length), (13, .int .i64 i)]) (fun _ => []) (fun i => xs.length - i) 0 (Nat.zero_le _) rfl ⟨rfl, rfl, by simp only [List.length_map]; rfl, rfl, trivial⟩ ?_
  intro i hi
  conv => whnf
  repeat' first | ((with_reducible apply XBr.ff); conv => whnf) | ((with_reducible apply XBr.dec) <;> (intro h; first | (exfalso; omega) | ((try simp only [List.length_map] at h); first | (exfalso; omega) | (conv => whnf)))) | ((first | (with_reducible refine XInt.i64 (by omega) (by omega) ?_) | ((with_reducible refine XIx.nat ?_ ?_ ?_); omega; (intro _; rfl))); conv => whnf) | (with_reducible apply XAnd.mk) | ((first | (with_reducible apply Chk.go) | (with_reducible apply ChkA.go) | (with_reducible apply ChkF.go) | (with_reducible apply ChkB.go)); conv => whnf) | (exact XSame.mk rfl rfl) | (with_reducible exact trivial) | (apply Walk.drawN (id := 6) tab_ok mixed_ok [] [] (hsU _) [_, _, _, _, _, _, _, _, _] (by kernel_rfl) rfl) | ((with_reducible apply XNext.mk); conv => whnf) | ((refine XEqA.mk ⟨[(xs.getD i default).m, (xs.getD i default).lo, (xs.getD i default).hi], [(xs.getD i default).m, (xs.getD i default).lo, (xs.getD i default).hi], rfl, rfl, rfl, rfl, ?_⟩); exact XSame.mk (show AV.bool (!(_ == _)) = AV.bool false by simp) rfl) | fail
  · exact XAgain.go (i + 1) (by omega) (by omega) rfl ⟨rfl, rfl, rfl, rfl, trivial⟩
  · exact XOut.bool rfl
theorem eq_mo (n1 n2 : Bool) (xs : List Mo) (hx : xs.length ≤ 100000) : Comp Try.prog 105 [.sl n1 (xs.map moA), .sl n2 (xs.map moA)] (.bool true) := by
  refine Comp.body (T := tab) (res := [.tmp 4]) tab_ok [] Try.func105 rfl (by kernel_rfl) Try.ntmps105 rfl (by simp only [List.length_cons, List.length_nil]; decide) (by simp only [lowL, AV.low, lowMo]; rfl) ?_; conv => whnf
  repeat' first | ((refine XCall.ret (equal_mo n1 n2 xs hx) ?_); conv => whnf) | fail
  exact XOut.bool rfl
theorem eq_su (n1 n2 : Bool) (xs : List Su) (hx : xs.length ≤ 100000) : Comp Try.prog 106 [.sl n1 (xs.map suA), .sl n2 (xs.map suA)] (.bool true) := by
  refine Comp.body (T := tab) (res := [.tmp 4]) tab_ok [] Try.func106 rfl (by kernel_rfl) Try.ntmps106 rfl (by simp only [List.length_cons, List.length_nil]; decide) (by simp only [lowL, AV.low, lowSu]; rfl) ?_; conv => whnf
  repeat' first | ((refine XCall.ret (equal_su n1 n2 xs hx) ?_); conv => whnf) | fail
  exact XOut.bool rfl
theorem same04_c (b : Bd) (h1 : b.months.length ≤ 100000) (h2 : b.surveys.length ≤ 100000) : Comp Try.prog 32 [bedA (ownB b), bedA b] (.bool true) := by
  refine Comp.body (T := tab) (res := [.tmp 4]) tab_ok [] Try.func32 rfl (by kernel_rfl) Try.ntmps32 rfl (by simp only [List.length_cons, List.length_nil]; decide) (by simp only [lowL, bedL]; rfl) ?_; conv => whnf
  refine Walk.norm tab_ok [] [(2, _), (3, _)] ⟨rfl, rfl, trivial⟩ ?_
  conv => whnf
  repeat' first | ((first | (with_reducible apply XBr.tt) | (with_reducible apply XBr.ff)); conv => whnf) | ((with_reducible apply XBr.beq) <;> (intro h; first | (exfalso; omega) | (conv => whnf))) | ((first | (refine XCall.ret (eq_mo _ _ b.months h1) ?_) | (refine XCall.ret (eq_su _ _ b.surveys h2) ?_)); conv => whnf) | fail
  all_goals first | exact XOut.bool rfl | (exfalso; exact absurd rfl (by assumption))
def great04 (b : Bd) : Bool := decide (14 < b.months.length) || decide (12 < b.surveys.length)
theorem great04_c (b : Bd) : Comp Try.prog 25 [bedA b] (.bool (great04 b)) := by
  have e1 : ((b.months.map moA).length : Int) = b.months.length := by rw [List.length_map]
  have e2 : ((b.surveys.map suA).length : Int) = b.surveys.length := by rw [List.length_map]
  refine Comp.body (T := tab) (res := [.tmp 2]) tab_ok [] Try.func25 rfl (by kernel_rfl) Try.ntmps25 rfl (by simp only [List.length_cons, List.length_nil]; decide) (by simp only [lowL, bedL]; rfl) ?_; conv => whnf
  repeat' first | ((first | (with_reducible apply XBr.tt) | (with_reducible apply XBr.ff)); conv => whnf) | ((with_reducible apply XBr.dec) <;> (intro h; first | (exfalso; omega) | ((try simp only [List.length_map] at h); first | (exfalso; omega) | (conv => whnf)))) | fail
  all_goals
    refine XOut.bool ?_
    unfold great04
    rw [Bool.eq_iff_iff]
    simp only [Bool.or_eq_true, decide_eq_true_eq, Bool.or_assoc, Bool.true_eq_false, Bool.false_eq_true, true_iff, false_iff, iff_true, iff_false]
    omega
def thB (b : Bd) : Bd := { b with nlm := b.months.isEmpty, nls := b.surveys.isEmpty }
theorem theirs04_c (b : Bd) (h1 : b.months.length ≤ 100000) (h2 : b.surveys.length ≤ 100000) : Comp Try.prog 28 [bedA b] (bedA (thB b)) := by
  have e1 : ((b.months.map moA).length : Int) = b.months.length := by rw [List.length_map]
  have e2 : ((b.surveys.map suA).length : Int) = b.surveys.length := by rw [List.length_map]
  refine Comp.body (T := tab) (res := [.cell 2 47]) tab_ok [2, 3] Try.func28 rfl (by kernel_rfl) Try.ntmps28 rfl (by simp only [List.length_cons, List.length_nil]; decide) (by simp only [lowL, bedL]; rfl) ?_; conv => whnf
  skip
  refine Walk.nilcell 1 3 162 rfl rfl ?_
  refine Walk.loopGK tab_ok [] [(1, _), (2, _), (3, _), (16, _), (17, _)] ⟨rfl, rfl, rfl, rfl, rfl, trivial⟩ (fun k : Nat => k ≤ b.months.length) (fun k => [(18, natA k)]) (fun k => [.cells [.int .i64 0, .int .i64 0, .int .i64 0, .sl true [], .sl true []], .cells [.int .i64 b.room, .int .i64 b.first, .int .i64 b.unsure, .gr 2 k, .sl true []], .grow 162 (b.months.take k).isEmpty ((b.months.take k).map moA)]) (fun k => b.months.length - k) 0 (Nat.zero_le _) rfl ⟨rfl, trivial⟩ ?_ (fun _ _ => (show (3 : Nat) ≤ 3 from Nat.le_refl 3)) ?_
  · intro k _
    refine ⟨fun z hz => ?_, fun z hz => ?_⟩
    · simp only [List.mem_cons, List.not_mem_nil, or_false] at hz
      rcases hz with rfl | rfl | rfl <;> first | exact lowMo _ | rfl
    · simp only [List.cons_append, List.nil_append, List.mem_cons, List.not_mem_nil, or_false] at hz
      rcases hz with rfl | rfl | rfl | rfl | rfl | rfl <;> first | rfl | exact lowMo _ | exact lowBd b
  intro k hk
  have hl : (b.months.take k).length = k := by rw [List.length_take]; omega
  have hnx := fun h => take_next (xs := b.months) (i := k) h
  have hall : k = b.months.length → b.months.take k = b.months := fun h => by rw [h, List.take_length]
  generalize b.months.take k = ss at hl hnx hall
  conv => whnf
  repeat' first | ((with_reducible apply XBr.dec) <;> (intro h; first | (exfalso; omega) | ((try simp only [List.length_map] at h); first | (exfalso; omega) | (conv => whnf)))) | ((with_reducible refine XInt.i64 (by omega) (by omega) ?_); conv => whnf) | ((with_reducible refine XHold.mk ?_ ?_); (first | omega | rfl | decide | exact ⟨rfl, by decide, rfl⟩ | exact wideI _ | exact widePr _ | exact wideSk _ | (unfold Room; constructor <;> ((try simp) <;> omega)) | exact ⟨rfl, by simp only [List.length_map], by unfold Room; constructor <;> ((try simp) <;> omega)⟩ | exact ⟨by omega, by omega, by unfold Room; constructor <;> ((try simp) <;> omega)⟩); conv => whnf) | (((with_reducible refine XIx.nat ?_ ?_ ?_); omega; (intro _; rfl)); conv => whnf) | fail
  · refine XAgainG.go (k + 1) [.cells (moC (moB b k))] (by omega) (by omega) ?_ ⟨rfl, rfl, rfl, rfl, rfl, rfl, trivial⟩
    rw [hnx (by omega)]; simp only [List.map_append, isEmpty_app]; rfl
  have e := hall (by omega)
  subst e
  obtain rfl : k = b.months.length := by omega
  clear hl hnx hall hk
  refine Walk.nilcell 1 4 163 rfl rfl ?_
  refine Walk.loopGK tab_ok [] [(1, _), (2, _), (3, _), (30, _), (31, _)] ⟨rfl, rfl, rfl, rfl, rfl, trivial⟩ (fun k : Nat => k ≤ b.surveys.length) (fun k => [(32, natA k)]) (fun k => [.cells [.int .i64 0, .int .i64 0, .int .i64 0, .sl true [], .sl true []], .cells [.int .i64 b.room, .int .i64 b.first, .int .i64 b.unsure, .gr 2 b.months.length, .gr 3 k], .grow 162 b.months.isEmpty (b.months.map moA), .grow 163 (b.surveys.take k).isEmpty ((b.surveys.take k).map suA)]) (fun k => b.surveys.length - k) 0 (Nat.zero_le _) rfl ⟨rfl, trivial⟩ ?_ (fun _ _ => (show (4 : Nat) ≤ 4 from Nat.le_refl 4)) ?_
  · intro k _
    refine ⟨fun z hz => ?_, fun z hz => ?_⟩
    · simp only [List.mem_cons, List.not_mem_nil, or_false] at hz
      rcases hz with rfl | rfl | rfl | rfl <;> first | exact lowMo _ | exact lowSu _ | rfl
    · simp only [List.cons_append, List.nil_append, List.mem_cons, List.not_mem_nil, or_false] at hz
      rcases hz with rfl | rfl | rfl | rfl | rfl | rfl <;> first | rfl | exact lowSu _ | exact lowBd b
  intro k hk
  have hl : (b.surveys.take k).length = k := by rw [List.length_take]; omega
  have hnx := fun h => take_next (xs := b.surveys) (i := k) h
  have hall : k = b.surveys.length → b.surveys.take k = b.surveys := fun h => by rw [h, List.take_length]
  generalize b.surveys.take k = ss at hl hnx hall
  conv => whnf
  repeat' first | ((with_reducible apply XBr.dec) <;> (intro h; first | (exfalso; omega) | ((try simp only [List.length_map] at h); first | (exfalso; omega) | (conv => whnf)))) | ((with_reducible refine XInt.i64 (by omega) (by omega) ?_); conv => whnf) | ((with_reducible refine XHold.mk ?_ ?_); (first | omega | rfl | decide | exact ⟨rfl, by decide, rfl⟩ | exact wideI _ | exact widePr _ | exact wideSk _ | (unfold Room; constructor <;> ((try simp) <;> omega)) | exact ⟨rfl, by simp only [List.length_map], by unfold Room; constructor <;> ((try simp) <;> omega)⟩ | exact ⟨by omega, by omega, by unfold Room; constructor <;> ((try simp) <;> omega)⟩); conv => whnf) | (((with_reducible refine XIx.nat ?_ ?_ ?_); omega; (intro _; rfl)); conv => whnf) | fail
  · refine XAgainG.go (k + 1) [.cells (suA (b.surveys.getD k default)).cells] (by omega) (by omega) ?_ ⟨rfl, rfl, rfl, rfl, rfl, rfl, trivial⟩
    rw [hnx (by omega)]; simp only [List.map_append, isEmpty_app]; rfl
  have e := hall (by omega)
  subst e
  obtain rfl : k = b.surveys.length := by omega
  skip
  exact ⟨Froz.agg (rs' := bedC (thB b)) (bedOne _) (.cons (Froz.low rfl) (.cons (Froz.low rfl) (.cons (Froz.low rfl) (.cons (Froz.grow (i := 2) rfl (by rw [List.length_map]; rfl) (lowMo _)) (.cons (Froz.grow (i := 3) rfl (by rw [List.length_map]; rfl) (lowSu _)) .nil)))))⟩
theorem off04_c (n lo hi : Int) : Comp Try.prog 101 [.int .i64 n, .int .i64 lo, .int .i64 hi] (.bool (!inZ n lo hi)) := by
  refine Comp.body (T := tab) (res := [.tmp 6]) tab_ok [] Try.func101 rfl (by kernel_rfl) Try.ntmps101 rfl (by simp only [List.length_cons, List.length_nil]; decide) (by rfl) ?_; conv => whnf
  repeat' first | ((first | (with_reducible apply XBr.tt) | (with_reducible apply XBr.ff)); conv => whnf) | ((with_reducible apply XBr.dec) <;> (intro h; first | (exfalso; omega) | ((try simp only [List.length_map] at h); first | (exfalso; omega) | (conv => whnf)))) | fail
  all_goals (refine XOut.bool ?_; rw [Bool.eq_iff_iff]; simp [inZ]; try omega)
theorem bad04_c (l h hi : Int) : Comp Try.prog 108 [spA l h, .int .i64 hi] (.bool (!withinB l h 0 hi)) := by
  refine Comp.body (T := tab) (res := [.tmp 4]) tab_ok [] Try.func108 rfl (by kernel_rfl) Try.ntmps108 rfl (by simp only [List.length_cons, List.length_nil]; decide) (by rfl) ?_; conv => whnf
  repeat' first | ((first | (with_reducible apply XBr.tt) | (with_reducible apply XBr.ff)); conv => whnf) | (with_reducible apply XBr.not) | ((refine XCall.ret (off04_c _ _ _) ?_); conv => whnf) | ((with_reducible apply XBr.mk') <;> (intro h; conv => whnf)) | fail
  all_goals (refine XOut.bool ?_; rw [Bool.eq_iff_iff]; simp [inZ, withinB] at *; try omega)
theorem refGross_c (b : Bd) (m : Mo) (a sp st : Int) (h1 : 0 ≤ a) (h2 : a ≤ 1000) (h3 : 0 ≤ m.g) (h4 : m.g ≤ 100) (h5 : 0 ≤ b.room) (h6 : b.room ≤ 1000) (h7 : 0 ≤ sp) (h8 : sp ≤ 1000) (h9 : 0 ≤ st) (h10 : st ≤ 1000) :
    Comp Try.prog 102 [bedA b, moA m, .int .i64 a, chA sp st] (.int .i64 (grossR b.room m.g a sp st)) := by
  have q1 : 0 ≤ a * m.g := Int.mul_nonneg h1 h3
  have q2 : a * m.g ≤ 1000 * 100 := Int.mul_le_mul h2 h4 h3 (by omega)
  have q3 : (a * m.g).tdiv 100 = (a * m.g) / 100 := Int.tdiv_eq_ediv_of_nonneg q1
  refine Comp.body (T := tab) (res := [.tmp 8]) tab_ok [] Try.func102 rfl (by kernel_rfl) Try.ntmps102 rfl (by simp only [List.length_cons, List.length_nil]; decide) (by simp only [lowL, bedL, moL, AV.low]; rfl) ?_; conv => whnf
  repeat' first | ((with_reducible apply XBr.dec) <;> (intro h; first | (exfalso; omega) | ((try simp only [List.length_map] at h); first | (exfalso; omega) | (conv => whnf)))) | ((with_reducible refine XInt.i64 (by omega) (by omega) ?_); conv => whnf) | ((with_reducible refine XHold.mk ?_ ?_); (first | omega | rfl | decide | exact ⟨rfl, by decide, rfl⟩ | exact wideI _ | exact widePr _ | exact wideSk _ | (unfold Room; constructor <;> ((try simp) <;> omega)) | exact ⟨rfl, by simp only [List.length_map], by unfold Room; constructor <;> ((try simp) <;> omega)⟩ | exact ⟨by omega, by omega, by unfold Room; constructor <;> ((try simp) <;> omega)⟩); conv => whnf) | fail
  all_goals (refine XOut.int ?_; unfold grossR; omega)
end GA
end

section
namespace GA
open Go Go.RowKit Go.Proofs
set_option pp.deepTerms true
set_option maxRecDepth 8000
set_option linter.unusedVariables false
set_option linter.unusedSimpArgs false

theorem bedE_1 {b : Bd} (h : inZ b.room 1 120 = false) : bedE b = 3 := by unfold bedE; rw [if_pos h]
theorem bedE_2 {b : Bd} (h : inZ b.room 1 120 = true) (h2 : inZ b.months.length 1 10 = false ∨ (8 : Int) < b.surveys.length) : bedE b = 2 := by unfold bedE; rw [if_neg (by rw [h]; simp), if_pos h2]
theorem bedE_3 {b : Bd} (h : inZ b.room 1 120 = true) (h2 : ¬ (inZ b.months.length 1 10 = false ∨ (8 : Int) < b.surveys.length)) (h3 : inZ b.first 0 b.room = false ∨ inZ b.unsure 0 40 = false ∨ b.months.all (moR b) = false) : bedE b = 3 := by unfold bedE; rw [if_neg (by rw [h]; simp), if_neg h2, if_pos h3]
theorem bedE_4 {b : Bd} (h : inZ b.room 1 120 = true) (h2 : ¬ (inZ b.months.length 1 10 = false ∨ (8 : Int) < b.surveys.length)) (h3 : ¬ (inZ b.first 0 b.room = false ∨ inZ b.unsure 0 40 = false ∨ b.months.all (moR b) = false)) (h4 : b.surveys.all (suR1 b) = false) : bedE b = 3 := by unfold bedE; rw [if_neg (by rw [h]; simp), if_neg h2, if_neg h3, if_pos h4]
theorem bedE_5 {b : Bd} (h : inZ b.room 1 120 = true) (h2 : ¬ (inZ b.months.length 1 10 = false ∨ (8 : Int) < b.surveys.length)) (h3 : ¬ (inZ b.first 0 b.room = false ∨ inZ b.unsure 0 40 = false ∨ b.months.all (moR b) = false)) (h4 : b.surveys.all (suR1 b) = true) (h5 : b.surveys.all (suR2 b) = false) : bedE b = 1 := by unfold bedE; rw [if_neg (by rw [h]; simp), if_neg h2, if_neg h3, if_neg (by rw [h4]; simp), if_pos h5]
theorem bedE_6 {b : Bd} (h : inZ b.room 1 120 = true) (h2 : ¬ (inZ b.months.length 1 10 = false ∨ (8 : Int) < b.surveys.length)) (h3 : ¬ (inZ b.first 0 b.room = false ∨ inZ b.unsure 0 40 = false ∨ b.months.all (moR b) = false)) (h4 : b.surveys.all (suR1 b) = true) (h5 : b.surveys.all (suR2 b) = true) : bedE b = 0 := by unfold bedE; rw [if_neg (by rw [h]; simp), if_neg h2, if_neg h3, if_neg (by rw [h4]; simp), if_neg (by rw [h5]; simp)]
theorem allG_false {α : Type} {p : α → Bool} {xs : List α} {d : α} {i : Nat} (hi : i < xs.length) (h : p (xs.getD i d) = false) : xs.all p = false := by
  rw [List.all_eq_false]; exact ⟨_, getD_mem hi, by rw [h]; simp⟩
theorem allG_true {α : Type} {p : α → Bool} {xs : List α} {d : α} (h : ∀ j, j < xs.length → p (xs.getD j d) = true) : xs.all p = true := by
  rw [List.all_eq_true]; intro x hx
  obtain ⟨j, hj, rfl⟩ := List.mem_iff_getElem.1 hx
  have := h j hj
  rwa [List.getD_eq_getElem?_getD, List.getElem?_eq_getElem hj] at this
theorem upto_next {P : Nat → Prop} {k : Nat} (h : ∀ j, j < k → P j) (hk : P k) : ∀ j, j < k + 1 → P j := fun j hj => by
  by_cases e : j = k
  · exact e ▸ hk
  · exact h j (by omega)
theorem refCheck04_c (b : Bd) (h1 : b.months.length ≤ 100000) (h2 : b.surveys.length ≤ 100000) : Comp Try.prog 36 [bedA b] (.int .i64 (bedE b)) := by
  have e1 : ((b.months.map moA).length : Int) = b.months.length := by rw [List.length_map]
  have e2 : ((b.surveys.map suA).length : Int) = b.surveys.length := by rw [List.length_map]
  refine Comp.body (T := tab) (res := [.tmp 2]) tab_ok [] Try.func36 rfl (by kernel_rfl) Try.ntmps36 rfl (by simp only [List.length_cons, List.length_nil]; decide) (by simp only [lowL, bedL]; rfl) ?_; conv => whnf
  cases hA : inZ b.room 1 120
  · skip
    repeat' first | ((with_reducible apply XBr.ff); conv => whnf) | (with_reducible apply XBr.not) | (((refine XCall.ret (off04_c _ _ _) ?_); rw [hA]); conv => whnf) | fail
    exact XOut.int (bedE_1 hA).symm
  repeat' first | ((with_reducible apply XBr.tt); conv => whnf) | (with_reducible apply XBr.not) | (((refine XCall.ret (off04_c _ _ _) ?_); rw [hA]); conv => whnf) | fail
  by_cases hB : inZ b.months.length 1 10 = false ∨ (8 : Int) < b.surveys.length
  · skip
    repeat' first | ((first | (with_reducible apply XBr.tt) | (with_reducible apply XBr.ff)); conv => whnf) | (with_reducible apply XBr.not) | ((with_reducible apply XBr.dec) <;> (intro h; first | (exfalso; omega) | ((try simp only [List.length_map] at h); first | (exfalso; omega) | (conv => whnf)))) | ((refine XCall.ret (off04_c _ _ _) ?_); conv => whnf) | ((with_reducible apply XBr.mk') <;> (intro h; conv => whnf)) | fail
    all_goals first | exact XOut.int (bedE_2 hA hB).symm | skip
    all_goals (exfalso; simp [e1] at *; rcases hB with hB | hB <;> first | omega | (simp_all; done))
  have hB1 : inZ ((b.months.map moA).length : Int) 1 10 = true := by rw [e1]; cases h : inZ b.months.length 1 10 with | true => rfl | false => exact absurd (.inl h) hB
  have hB2 : ¬ (8 : Int) < b.surveys.length := fun h => hB (.inr h)
  repeat' first | ((first | (with_reducible apply XBr.tt) | (with_reducible apply XBr.ff)); conv => whnf) | (with_reducible apply XBr.not) | ((with_reducible apply XBr.dec) <;> (intro h; first | (exfalso; omega) | ((try simp only [List.length_map] at h); first | (exfalso; omega) | (conv => whnf)))) | (((refine XCall.ret (off04_c _ _ _) ?_); rw [hB1]); conv => whnf) | fail
  cases hC1 : inZ b.first 0 b.room
  · skip
    repeat' first | ((first | (with_reducible apply XBr.tt) | (with_reducible apply XBr.ff)); conv => whnf) | (with_reducible apply XBr.not) | (((refine XCall.ret (off04_c _ _ _) ?_); rw [hC1]); conv => whnf) | fail
    exact XOut.int (bedE_3 hA hB (.inl hC1)).symm
  cases hC2 : inZ b.unsure 0 40
  · skip
    repeat' first | ((first | (with_reducible apply XBr.tt) | (with_reducible apply XBr.ff)); conv => whnf) | (with_reducible apply XBr.not) | (((refine XCall.ret (off04_c _ _ _) ?_); (first | rw [hC1] | rw [hC2])); conv => whnf) | fail
    exact XOut.int (bedE_3 hA hB (.inr (.inl hC2))).symm
  repeat' first | ((first | (with_reducible apply XBr.tt) | (with_reducible apply XBr.ff)); conv => whnf) | (with_reducible apply XBr.not) | (((refine XCall.ret (off04_c _ _ _) ?_); (first | rw [hC1] | rw [hC2])); conv => whnf) | fail
  refine Walk.loopGK tab_ok [] [(1, _)] ⟨rfl, trivial⟩ (fun k : Nat => k ≤ b.months.length ∧ ∀ j, j < k → moR b (b.months.getD j default) = true) (fun k => [(3, natA k)]) (fun _ => []) (fun k => b.months.length - k) 0 ⟨Nat.zero_le _, fun j hj => by omega⟩ rfl ⟨rfl, trivial⟩ ?_ (fun _ _ => Nat.le_refl _) ?_
  · intro k _
    refine ⟨by simp, fun z hz => ?_⟩
    simp only [List.cons_append, List.nil_append, List.mem_cons, List.not_mem_nil, or_false] at hz
    rcases hz with rfl | rfl <;> first | rfl | exact lowBd b
  rintro k ⟨hk, hks⟩
  conv => whnf
  by_cases hlt : k < b.months.length
  · have hC3 : ∀ h : moR b (b.months.getD k default) = false, bedE b = 3 := fun h => bedE_3 hA hB (.inr (.inr (allG_false hlt h)))
    have hmr : moR b (b.months.getD k default) = (inZ (b.months.getD k default).g 0 100 && inZ (b.months.getD k default).r 0 b.room && withinB (b.months.getD k default).pl (b.months.getD k default).ph 0 60 && withinB (b.months.getD k default).tl (b.months.getD k default).th 0 60) := rfl
    rw [hmr] at hC3
    have hgo : (inZ (b.months.getD k default).g 0 100 && inZ (b.months.getD k default).r 0 b.room && withinB (b.months.getD k default).pl (b.months.getD k default).ph 0 60 && withinB (b.months.getD k default).tl (b.months.getD k default).th 0 60) = true → ∀ j, j < k + 1 → moR b (b.months.getD j default) = true := fun h => upto_next hks (by rw [hmr]; exact h)
    clear hmr
    repeat' first | ((first | (with_reducible apply XBr.tt) | (with_reducible apply XBr.ff)); conv => whnf) | (with_reducible apply XBr.not) | ((with_reducible apply XBr.dec) <;> (intro h; first | (exfalso; omega) | ((try simp only [List.length_map] at h); first | (exfalso; omega) | (conv => whnf)))) | ((first | (with_reducible refine XInt.i64 (by omega) (by omega) ?_) | ((with_reducible refine XIx.nat ?_ ?_ ?_); omega; (intro _; rfl)) | (refine XCall.ret (off04_c _ _ _) ?_) | (refine XCall.ret (bad04_c _ _ _) ?_)); conv => whnf) | ((with_reducible apply XBr.mk') <;> (intro h; conv => whnf)) | fail
    all_goals first | exact XOut.int (hC3 (by simp_all)).symm | exact XAgainG.go (k + 1) [.cells (moC (moB b k))] ⟨by omega, hgo (by simp_all)⟩ (by omega) rfl ⟨rfl, rfl, trivial⟩
  obtain rfl : k = b.months.length := by omega
  have hC : ¬ (inZ b.first 0 b.room = false ∨ inZ b.unsure 0 40 = false ∨ b.months.all (moR b) = false) := by
    rw [hC1, hC2, allG_true (d := default) hks]; simp
  clear hks
  repeat' first | ((with_reducible apply XBr.dec) <;> (intro h; first | (exfalso; omega) | ((try simp only [List.length_map] at h); first | (exfalso; omega) | (conv => whnf)))) | fail
  refine Walk.loopK tab_ok [] [(1, _)] ⟨rfl, trivial⟩ (fun k : Nat => k ≤ b.surveys.length ∧ ∀ j, j < k → suR1 b (b.surveys.getD j default) = true) (fun k => [(5, natA k)]) (fun _ => []) (fun k => b.surveys.length - k) 0 ⟨Nat.zero_le _, fun j hj => by omega⟩ rfl ⟨rfl, trivial⟩ ?_
  rintro k ⟨hk2, hks⟩
  conv => whnf
  by_cases hlt2 : k < b.surveys.length
  · have hD : ∀ h : suR1 b (b.surveys.getD k default) = false, bedE b = 3 := fun h => bedE_4 hA hB hC (allG_false hlt2 h)
    have hgo : suR1 b (b.surveys.getD k default) = true → ∀ j, j < k + 1 → suR1 b (b.surveys.getD j default) = true := fun h => upto_next hks h
    have hs : suR1 b (b.surveys.getD k default) = withinB (b.surveys.getD k default).lo (b.surveys.getD k default).hi 0 b.room := rfl
    rw [hs] at hD hgo
    clear hs
    have hbad := bad04_c (b.surveys.getD k default).lo (b.surveys.getD k default).hi b.room
    generalize withinB (b.surveys.getD k default).lo (b.surveys.getD k default).hi 0 b.room = r at hD hgo hbad
    repeat' first | (with_reducible apply XBr.not) | ((with_reducible apply XBr.dec) <;> (intro h; first | (exfalso; omega) | ((try simp only [List.length_map] at h); first | (exfalso; omega) | (conv => whnf)))) | ((first | (with_reducible refine XInt.i64 (by omega) (by omega) ?_) | ((with_reducible refine XIx.nat ?_ ?_ ?_); omega; (intro _; rfl))); conv => whnf) | (with_reducible apply XAnd.mk) | ((first | (with_reducible apply Chk.go) | (with_reducible apply ChkA.go) | (with_reducible apply ChkF.go) | (with_reducible apply ChkB.go)); conv => whnf) | (exact XSame.mk rfl rfl) | (with_reducible exact trivial) | (apply Walk.drawN (id := 16) tab_ok mixed_ok [] [] (hsU _) [_, _, _, _, _, _, _, _, _] (by kernel_rfl) rfl) | ((first | (with_reducible apply XNext.mk) | (refine XCall.ret hbad ?_)); conv => whnf) | ((with_reducible apply XBr.mk') <;> (intro h; conv => whnf)) | fail
    · exact XAgain.go (k + 1) ⟨by omega, hgo h⟩ (by omega) rfl ⟨rfl, rfl, trivial⟩
    · exact XOut.int (hD h).symm
  obtain rfl : k = b.surveys.length := by omega
  have hD := allG_true (d := default) hks
  clear hks
  repeat' first | ((with_reducible apply XBr.dec) <;> (intro h; first | (exfalso; omega) | ((try simp only [List.length_map] at h); first | (exfalso; omega) | (conv => whnf)))) | fail
  refine Walk.loopK tab_ok [] [(1, _)] ⟨rfl, trivial⟩ (fun k : Nat => k ≤ b.surveys.length ∧ ∀ j, j < k → suR2 b (b.surveys.getD j default) = true) (fun k => [(6, natA k)]) (fun _ => []) (fun k => b.surveys.length - k) 0 ⟨Nat.zero_le _, fun j hj => by omega⟩ rfl ⟨rfl, trivial⟩ ?_
  rintro k ⟨hk3, hks⟩
  conv => whnf
  by_cases hlt3 : k < b.surveys.length
  · have hF : ∀ h : suR2 b (b.surveys.getD k default) = false, bedE b = 1 := fun h => bedE_5 hA hB hC hD (allG_false hlt3 h)
    have hgo : suR2 b (b.surveys.getD k default) = true → ∀ j, j < k + 1 → suR2 b (b.surveys.getD j default) = true := fun h => upto_next hks h
    have hs : suR2 b (b.surveys.getD k default) = inZ (b.surveys.getD k default).m 0 ((b.months.map moA).length : Int) := by rw [e1]; rfl
    rw [hs] at hF hgo
    clear hs
    have hbad := off04_c (b.surveys.getD k default).m 0 ((b.months.map moA).length : Int)
    generalize inZ (b.surveys.getD k default).m 0 ((b.months.map moA).length : Int) = r at hF hgo hbad
    repeat' first | (with_reducible apply XBr.not) | ((with_reducible apply XBr.dec) <;> (intro h; first | (exfalso; omega) | ((try simp only [List.length_map] at h); first | (exfalso; omega) | (conv => whnf)))) | ((first | (with_reducible refine XInt.i64 (by omega) (by omega) ?_) | ((with_reducible refine XIx.nat ?_ ?_ ?_); omega; (intro _; rfl))); conv => whnf) | (with_reducible apply XAnd.mk) | ((first | (with_reducible apply Chk.go) | (with_reducible apply ChkA.go) | (with_reducible apply ChkF.go) | (with_reducible apply ChkB.go)); conv => whnf) | (exact XSame.mk rfl rfl) | (with_reducible exact trivial) | (apply Walk.drawN (id := 21) tab_ok mixed_ok [] [] (hsU _) [_, _, _, _, _, _, _, _, _, _] (by kernel_rfl) rfl) | ((first | (with_reducible apply XNext.mk) | (refine XCall.ret hbad ?_)); conv => whnf) | ((with_reducible apply XBr.mk') <;> (intro h; conv => whnf)) | fail
    · exact XAgain.go (k + 1) ⟨by omega, hgo h⟩ (by omega) rfl ⟨rfl, rfl, trivial⟩
    · exact XOut.int (hF h).symm
  obtain rfl : k = b.surveys.length := by omega
  repeat' first | ((with_reducible apply XBr.dec) <;> (intro h; first | (exfalso; omega) | ((try simp only [List.length_map] at h); first | (exfalso; omega) | (conv => whnf)))) | fail
  exact XOut.int (bedE_6 hA hB hC hD (allG_true (d := default) hks)).symm
end GA
end

section
namespace GA
open Go Go.RowKit Go.Proofs
set_option pp.deepTerms true
set_option maxRecDepth 8000
set_option linter.unusedVariables false
set_option linter.unusedSimpArgs false

def befF (b : Bd) (m k n : Nat) : Bool := decide (k ∈ lvL b m n)
end GA
end

section
namespace GA
open Go Go.RowKit Go.Proofs
set_option maxRecDepth 8000
set_option linter.unusedVariables false
set_option linter.unusedSimpArgs false

theorem ivt {f : Int → Int} (hf : ∀ x, f (x + 1) ≤ f x + 1) : ∀ (d : Nat) (a v : Int), f a ≤ v → v ≤ f (a + d) → ∃ x, a ≤ x ∧ x ≤ a + d ∧ f x = v
  | 0, a, v, h1, h2 => ⟨a, Int.le_refl _, by omega, by simp at h2; omega⟩
  | d + 1, a, v, h1, h2 => by
    by_cases h : f a = v
    · exact ⟨a, Int.le_refl _, by omega, h⟩
    · have h3 := hf a
      obtain ⟨x, q1, q2, q3⟩ := ivt hf d (a + 1) v (by omega) (by rw [show a + 1 + (d : Int) = a + ((d + 1 : Nat) : Int) by omega]; exact h2)
      exact ⟨x, by omega, by omega, q3⟩
theorem boxR {room g a pl ph tl th v : Int} (h1 : pl ≤ ph) (h2 : tl ≤ th) (lo : grossR room g a pl th ≤ v) (hi : v ≤ grossR room g a ph tl) : ∃ sp st, pl ≤ sp ∧ sp ≤ ph ∧ tl ≤ st ∧ st ≤ th ∧ grossR room g a sp st = v := by
  by_cases h : v ≤ grossR room g a ph th
  · obtain ⟨x, q1, q2, q3⟩ := ivt (f := fun sp => grossR room g a sp th) (fun x => by unfold grossR; omega) (ph - pl).toNat pl v lo (by rw [show pl + ((ph - pl).toNat : Int) = ph by omega]; exact h)
    exact ⟨x, th, q1, by omega, h2, Int.le_refl _, q3⟩
  · obtain ⟨x, q1, q2, q3⟩ := ivt (f := fun x => grossR room g a ph (th - x)) (fun x => by unfold grossR; omega) (th - tl).toNat 0 v (by rw [Int.sub_zero]; omega) (by rw [show th - (0 + ((th - tl).toNat : Int)) = tl by omega]; exact hi)
    exact ⟨ph, th - x, h1, Int.le_refl _, by omega, by omega, q3⟩
def InC (b : Bd) (m : Nat) (sp st : Int) : Prop := (moB b m).pl ≤ sp ∧ sp ≤ (moB b m).ph ∧ (moB b m).tl ≤ st ∧ st ≤ (moB b m).th
def grC (b : Bd) (m : Nat) (n sp st : Int) : Int := grossR b.room (moB b m).g n sp st
theorem grC_b {b : Bd} (ok : BedOk b) {m : Nat} (hm : m < b.months.length) {n : Nat} {sp st : Int} (h : InC b m sp st) : lieR b m n ≤ grC b m n sp st ∧ grC b m n sp st ≤ hiR b m n + (moB b m).r ∧ 0 ≤ grC b m n sp st ∧ grC b m n sp st ≤ b.room := by
  have hmo := ok.mo' hm
  obtain ⟨h1, h2, h3, h4⟩ := h
  have := grossR_le (room := b.room) (g := (moB b m).g) (a := n) (sp := sp) (st := st) (by have := ok.r1; omega) (by omega)
  refine ⟨grossR_mono hmo.1 (Int.le_refl _) h1 h4, ?_, this.1, this.2⟩
  have : grC b m n sp st ≤ grossR b.room (moB b m).g n (moB b m).ph (moB b m).tl := grossR_mono hmo.1 (Int.le_refl _) h2 h3
  unfold hiR; omega
theorem mem_lv {b : Bd} (ok : BedOk b) {m : Nat} (hm : m < b.months.length) {n k : Nat} : k ∈ lvL b m n ↔ ∃ sp st, InC b m sp st ∧ grC b m n sp st - (moB b m).r = k := by
  have hmo := ok.mo' hm
  have hlo := lieR_b ok (j := m) (n := n) hm
  unfold lvL
  rw [mem_lvF]
  constructor
  · rintro ⟨h1, h2⟩
    unfold loR at h1
    unfold hiR at h2
    obtain ⟨sp, st, q1, q2, q3, q4, q5⟩ := boxR (room := b.room) (g := (moB b m).g) (a := n) (v := k + (moB b m).r) (show (moB b m).pl ≤ (moB b m).ph by omega) (show (moB b m).tl ≤ (moB b m).th by omega) (by show lieR b m n ≤ _; omega) (by omega)
    exact ⟨sp, st, ⟨q1, q2, q3, q4⟩, by unfold grC; omega⟩
  · rintro ⟨sp, st, h1, h2⟩
    have := grC_b ok hm (n := n) h1
    unfold loR
    constructor <;> omega
theorem inC_worst {b : Bd} (ok : BedOk b) {m : Nat} (hm : m < b.months.length) : InC b m (moB b m).pl (moB b m).th := by
  have hmo := ok.mo' hm
  exact ⟨Int.le_refl _, by omega, by omega, Int.le_refl _⟩
end GA
end

section
namespace GA
open Go Go.RowKit Go.Proofs
set_option pp.deepTerms true
set_option maxRecDepth 8000
set_option linter.unusedVariables false
set_option linter.unusedSimpArgs false

structure EI (c : Int) (G : Nat → Bool) (d : Prop) : Prop where
  lo : ∀ k : Nat, G k = true → c ≤ k
  dn : d → 0 ≤ c ∧ G c.toNat = true
theorem EI.put {c : Int} {G : Nat → Bool} {d d' : Prop} (h : EI c G d) {v : Nat} (hv : c ≤ v) (hd : d' → d ∨ (v : Int) = c) : EI c (updV G v true) d' := by
  refine ⟨fun k hk => ?_, fun x => ?_⟩
  · unfold updV at hk
    split at hk
    · rename_i e; subst e; exact hv
    · exact h.lo k hk
  · unfold updV
    rcases hd x with h1 | h1
    · obtain ⟨h2, h3⟩ := h.dn h1
      refine ⟨h2, ?_⟩
      split <;> first | rfl | exact h3
    · exact ⟨by omega, by rw [if_pos (by omega)]⟩
end GA
end

section
namespace GA
open Go Go.RowKit Go.Proofs
set_option pp.deepTerms true
set_option maxRecDepth 8000
set_option linter.unusedVariables false
set_option linter.unusedSimpArgs false

theorem dupC (nl : Bool) (xs : List Int) (hx : xs.length ≤ 100000) : Comp Try.prog 27 [.sl nl (ints xs)] (.sl false (ints xs)) := (dup_g nl xs hx).comp (Froz.grow rfl (ints_len _) (lowI _))
theorem great_iff {b : Bd} : great04 b = false ↔ b.months.length ≤ 14 ∧ b.surveys.length ≤ 12 := by
  unfold great04
  rw [Bool.or_eq_false_iff, decide_eq_false_iff_not, decide_eq_false_iff_not]; omega
def bzero : List AV := [.int .i64 0, .int .i64 0, .int .i64 0, .sl true [], .sl true []]
end GA
end

section
namespace GA
open Go Go.RowKit Go.Proofs
set_option pp.deepTerms true
set_option maxRecDepth 8000
set_option linter.unusedVariables false
set_option linter.unusedSimpArgs false

def lsA (xs : List Int) : AV := .sl false (ints xs)
theorem wide04_c (b : Bd) (r m s : Int) : Comp Try.prog 47 [bedA b, .int .i64 r, .int .i64 m, .int .i64 s] (.bool (decide (r < b.room ∧ b.room ≤ 120 ∨ m < b.months.length ∧ (b.months.length : Int) ≤ 10 ∨ s < b.surveys.length ∧ (b.surveys.length : Int) ≤ 8))) := by
  have e1 : ((b.months.map moA).length : Int) = b.months.length := by rw [List.length_map]
  have e2 : ((b.surveys.map suA).length : Int) = b.surveys.length := by rw [List.length_map]
  refine Comp.body (T := tab) (res := [.tmp 8]) tab_ok [] Try.func47 rfl (by kernel_rfl) Try.ntmps47 rfl (by simp only [List.length_cons, List.length_nil]; decide) (by simp only [lowL, bedL, AV.low]; rfl) ?_; conv => whnf
  refine Walk.norm tab_ok [] [(1, _), (2, _), (3, _), (4, _), (8, _)] ⟨rfl, rfl, rfl, rfl, rfl, trivial⟩ ?_
  conv => whnf
  repeat' first | ((first | (with_reducible apply XBr.tt) | (with_reducible apply XBr.ff)); conv => whnf) | ((with_reducible apply XBr.dec) <;> (intro h; first | (exfalso; omega) | ((try simp only [List.length_map] at h); first | (exfalso; omega) | (conv => whnf)))) | fail
  all_goals
    refine XOut.bool ?_
    rw [Bool.eq_iff_iff]
    simp only [decide_eq_true_eq, Bool.true_eq_false, Bool.false_eq_true, true_iff, false_iff, iff_true, iff_false]
    omega
end GA
end

section
namespace GA
open Go Go.RowKit
set_option linter.unusedVariables false
section
variable {P : Program} {N : Nat} {ρ : Option Nat} {H : List Blk} {σ : St} {D : List Nat}

theorem flat_one : ∀ {els : List AV}, (∀ x ∈ els, x.one = true) → flat els = els
  | [], _ => rfl
  | x :: l, h => by
    have h1 := h x List.mem_cons_self
    have h2 := flat_one (els := l) fun y hy => h y (List.mem_cons_of_mem _ hy)
    have h3 : x.cells = [x] := by cases x <;> first | rfl | cases h1
    show x.cells ++ flat l = _
    rw [h3, h2]; rfl
theorem cells_one {x : AV} (h : x.one = true) : x.cells = [x] := by cases x <;> first | rfl | cases h

theorem Walk.freezeRow {c : Code} {Q : Post} (j e i n : Nat) {t t' : TypeId} {nl nl' : Bool} {els ys : List AV} (hj : lget H j = some (.grow t nl els)) (hone : ∀ x ∈ els, x.one = true) (he : els[e]? = some (.gr i n)) (hi : lget H i = some (.grow t' nl' ys)) (hij : i ≠ j) (hn : ys.length = n)
    (x : Walk P N ρ c Q D σ ((H.set i .dead).set j (.grow t nl (els.set e (.sl nl' ys))))) : Walk P N ρ c Q D σ H := by
  constructor
  intro E h β a w s
  rw [lget_eq] at hi hj
  obtain ⟨h', s1, X1, hfz⟩ := s.sr.freeze hi
  have hj1 : (H.set i .dead)[j]? = some (.grow t nl els) := by rw [List.getElem?_set_ne hij]; exact hj
  have hlt := (List.getElem?_eq_some_iff.1 he).1
  have hone' : ∀ x ∈ els.set e (.sl nl' ys), x.one = true := fun x hx => by
    rcases List.mem_or_eq_of_mem_set hx with hx | rfl
    · exact hone x hx
    · rfl
  obtain ⟨s2, X2⟩ := s1.modify (β' := β) (w' := w) (x' := .grow t nl (els.set e (.sl nl' ys))) hj1 (fun _ _ => rfl) (.inr ⟨_, _, rfl, by rw [List.length_set]; exact Nat.le_refl _, fun _ => rfl⟩) s1.env (fun _ _ _ => rfl) (fun b e => .inl (by unfold blkOf; rw [hj1]; exact e)) (fun X => by
    rcases s.sr.blk j _ hj with ⟨_, h0, _⟩ | ⟨_, h0, _⟩ | ⟨h0, b, cap, c, h1, h2, h3, h4, h5, h6, h7, h8, h9, us, h10, h11⟩
    · subst h0; simp at hlt
    · subst h0; simp at hlt
    · refine .inr (.inr ⟨h0, b, cap, c, by rw [List.length_set]; exact h1, h2, h3, by rw [List.length_set]; exact h4, h5, h6, h7, fun y hy => ?_, fun y hy => ?_, us, fun k y ek => ?_, fun k y ek => ?_⟩)
      · rw [cells_one (hone' y hy)]
        have := h8 _ (List.mem_of_getElem? he)
        exact this
      · rw [flat_one hone'] at hy; exact hone' y hy
      · rw [flat_one hone'] at ek
        rw [flat_one hone] at h10
        by_cases hke : e = k
        · subst hke; exact h10 e _ he
        · rw [List.getElem?_set_ne hke] at ek; exact h10 k y ek
      · rw [flat_one hone'] at ek
        rw [flat_one hone] at h11
        by_cases hke : e = k
        · subst hke
          rw [List.getElem?_set_self hlt] at ek; cases ek
          exact gr_frz s.sr hi hn (h11 e _ he) (X1.trans X) hfz
        · rw [List.getElem?_set_ne hke] at ek; exact (X1.trans X).rep (h11 k y ek))
  exact wpIn_mono (x.o E h' _ a w ⟨s2, fun u r e => let ⟨v, h1, h2⟩ := s.fits u r e; ⟨v, h1, (X1.trans X2).rep h2⟩, s.size, s.df.ext (X1.trans X2)⟩) fun _ _ _ => Conc.ext (X1.trans X2)
theorem Walk.nilRowIn {c : Code} {Q : Post} (j e : Nat) (te : TypeId) {t : TypeId} {nl : Bool} {els : List AV} (hj : lget H j = some (.grow t nl els)) (hone : ∀ x ∈ els, x.one = true) (he : els[e]? = some (.sl true []))
    (x : Walk P N ρ c Q D σ (H.set j (.grow t nl (els.set e (.gr H.length 0))) ++ [.grow te true []])) : Walk P N ρ c Q D σ H := by
  constructor
  intro E h β a w s
  rw [lget_eq] at hj
  have hjl := (List.getElem?_eq_some_iff.1 hj).1
  have hlt := (List.getElem?_eq_some_iff.1 he).1
  obtain ⟨s1, X1⟩ := s.sr.push (w' := w) s.sr.env (fun _ _ => rfl) (.slice none 0 0) (.grow te true []) (by intro b hb; simp [anchor] at hb) (fun _ => .inl ⟨rfl, rfl, by simp [upb]⟩)
  have hj1 : (H ++ [Blk.grow te true []])[j]? = some (.grow t nl els) := by rw [List.getElem?_append_left hjl]; exact hj
  have hone' : ∀ x ∈ els.set e (.gr H.length 0), x.one = true := fun x hx => by
    rcases List.mem_or_eq_of_mem_set hx with hx | rfl
    · exact hone x hx
    · rfl
  obtain ⟨s2, X2⟩ := s1.modify (β' := upb β H.length (.slice none 0 0)) (w' := w) (x' := .grow t nl (els.set e (.gr H.length 0))) hj1 (fun _ _ => rfl) (.inr ⟨_, _, rfl, by rw [List.length_set]; exact Nat.le_refl _, fun _ => rfl⟩) s1.env (fun _ _ _ => rfl) (fun b e => .inl (by unfold blkOf; rw [hj1]; exact e)) (fun X => by
    rcases s1.blk j _ hj1 with ⟨_, h0, _⟩ | ⟨_, h0, _⟩ | ⟨h0, b, cap, c, h1, h2, h3, h4, h5, h6, h7, h8, h9, us, h10, h11⟩
    · subst h0; simp at hlt
    · subst h0; simp at hlt
    · refine .inr (.inr ⟨h0, b, cap, c, by rw [List.length_set]; exact h1, h2, h3, by rw [List.length_set]; exact h4, h5, h6, h7, fun y hy => ?_, fun y hy => ?_, us, fun k y ek => ?_, fun k y ek => ?_⟩)
      · rw [cells_one (hone' y hy)]
        have := h8 _ (List.mem_of_getElem? he)
        exact this
      · rw [flat_one hone'] at hy; exact hone' y hy
      · rw [flat_one hone'] at ek
        rw [flat_one hone] at h10
        by_cases hke : e = k
        · subst hke; exact h10 e _ he
        · rw [List.getElem?_set_ne hke] at ek; exact h10 k y ek
      · rw [flat_one hone'] at ek
        rw [flat_one hone] at h11
        by_cases hke : e = k
        · subst hke
          rw [List.getElem?_set_self hlt] at ek; cases ek
          have h12 := h11 e _ he
          cases hu : us e <;> rw [hu] at h12 <;> cases h12
          refine .gr rfl ⟨_, by rw [List.getElem?_set_ne (by omega), List.getElem?_append_right (Nat.le_refl _), Nat.sub_self]; rfl, rfl⟩ fun t' nl els e => ?_
          rw [List.getElem?_set_ne (by omega), List.getElem?_append_right (Nat.le_refl _), Nat.sub_self] at e
          simp at e; obtain ⟨_, _, rfl⟩ := e
          exact ⟨Nat.le_refl _, fun _ => by simp [upb]⟩
        · rw [List.getElem?_set_ne hke] at ek; exact X.rep (h11 k y ek))
  rw [List.set_append_left _ _ hjl] at s2 X2
  exact wpIn_mono (x.o E h _ a w ⟨s2, fun u r e => let ⟨v, h1, h2⟩ := s.fits u r e; ⟨v, h1, (X1.trans X2).rep h2⟩, s.size, s.df.ext (X1.trans X2)⟩) fun _ _ _ => Conc.ext (X1.trans X2)

theorem Walk.run {T : Tab} {c : Code} {Q : Post} (ok : TabOk P T) (own : List Nat) (x : XRun P T N ρ own c Q D σ H) : Walk P N ρ c Q D σ H := ⟨XRun.sound ok x⟩
theorem Walk.loopKW {c : Code} {Q : Post} {G : Type} (K : List (Nat × AV)) (hK : SubX K σ) (I : G → Prop) (L : G → List (Nat × AV)) (hp : G → List Blk) (μ : G → Nat) (g0 : G) (h0 : I g0) (hH : hp g0 = H) (hs : SubX (L g0) σ)
    (round : ∀ g, I g → Walk P N ρ c (thenQ (XAgain I (fun g => K ++ L g) hp μ g D) Q) D (stX (K ++ L g)) (hp g)) : Walk P N ρ (.loop c) Q D σ H := by
  constructor
  refine AWp.loop (G := {g : G // I g}) (fun g => stX (K ++ L g.1)) (fun g => hp g.1) (fun g => μ g.1) ⟨g0, h0⟩ (stX_sub (hK.app hs)) hH fun g => ?_
  refine (round g.1 g.2).o.mono fun e D' σ' H' q => ?_
  cases e with
  | normal => obtain ⟨h1, g', h2, h3, h4, h5⟩ := q; exact ⟨h1, ⟨g', h2⟩, h3, h4, stX_sub h5⟩
  | _ => exact q
theorem XGet.set {els : List AV} {n e m : Nat} {x : AV} {k : List AV → Prop} (he : e = m) (hm : m < els.length) (hn : n = els.length) (h : k x.cells) : XGet (els.set m x) n e k := by
  subst he
  refine ⟨by rw [List.length_set]; exact hn, by omega, ?_⟩
  have : (els.set e x).getD e default = x := by rw [List.getD_eq_getElem?_getD, List.getElem?_set_self hm]; rfl
  rw [this]; exact h
theorem XPut.set {els : List AV} {n e m : Nat} {x v : AV} {k : List AV → Prop} (he : e = m) (hm : m < els.length) (hn : n = els.length) (h : k (els.set m v)) : XPut (els.set m x) n e v k := by
  subst he
  exact ⟨by rw [List.length_set]; exact hn, by omega, by rw [List.set_set]; exact h⟩
theorem FrozN.sl {n : Nat} {nl : Bool} {els els' : List AV} (hone : ∀ x ∈ els, x.one = true) (hone' : ∀ x ∈ els', x.one = true) (hs : FrozNL P n H els els') : FrozN P n H (.sl nl els) (.sl nl els') := by
  intro E h β w s v hr H1
  cases hr with
  | slnil =>
    have : els' = [] := List.eq_nil_of_length_eq_zero hs.1
    subst this; exact .slnil
  | slemp =>
    have : els' = [] := List.eq_nil_of_length_eq_zero hs.1
    subst this; exact .slemp
  | sl us hn hne hb hw hw0 ho hcap hc h3 =>
    rw [flat_one hone] at hc h3
    obtain ⟨e0, he0⟩ := List.exists_mem_of_ne_nil _ hne
    have hw1 := hw e0 he0
    rw [cells_one (hone e0 he0)] at hw1
    refine .sl us (by rw [hn, hs.1]) (fun e => hne (List.eq_nil_of_length_eq_zero (by rw [← hs.1, e]; rfl))) (hallN_imm s hb) (fun e he => by rw [cells_one (hone' e he)]; exact hw1) hw0 (fun x hx => ?_) (by rw [hs.1]; exact hcap) (fun j x e => ?_) (fun j x e => ?_)
    · rw [flat_one hone'] at hx; exact hone' x hx
    · rw [flat_one hone'] at e
      obtain ⟨y, e1, _⟩ := hs.2 j x e; exact hc j y e1
    · rw [flat_one hone'] at e
      obtain ⟨y, e1, e2⟩ := hs.2 j x e; exact e2 E h β w s _ (h3 j y e1) H1
end
end GA
end

section
namespace GA
open Go Go.RowKit
set_option linter.unusedVariables false
section
variable {P : Program} {N : Nat} {ρ : Option Nat} {H : List Blk} {σ : St} {D : List Nat} {Q : Post}

structure XFrz (u i n : Nat) (σ : St) (H : List Blk) (k : St → List Blk → Prop) : Prop where
  o : ∃ t nl els, σ u = some (.gr i n) ∧ lget H i = some (.grow t nl els) ∧ els.length = n ∧ k (updX σ u (.sl nl els)) (H.set i .dead)
theorem XFrz.go {u i n : Nat} {k : St → List Blk → Prop} {t : TypeId} {nl : Bool} {els : List AV} (hu : σ u = some (.gr i n)) (hi : lget H i = some (.grow t nl els)) (hn : els.length = n) (x : k (updX σ u (.sl nl els)) (H.set i .dead)) : XFrz u i n σ H k := ⟨t, nl, els, hu, hi, hn, x⟩
def frzQ (u i n : Nat) (Q : Post) : Post
  | .exit id, D, σ, H => XFrz u i n σ H (Q (.exit id) D)
  | e, D, σ, H => Q e D σ H
theorem Walk.thenFreeze {c : Code} (u i n : Nat) (x : Walk P N ρ c (frzQ u i n Q) D σ H) : Walk P N ρ c Q D σ H := by
  constructor
  intro E h β a w s
  refine wpIn_mono (x.o E h β a w s) fun e a' w' hc => ?_
  obtain ⟨D', σ', H', h', β', q, X, s'⟩ := hc
  cases e with
  | exit id =>
    obtain ⟨t, nl, els, hu, hi, hn, q⟩ := q.o
    rw [lget_eq] at hi
    obtain ⟨h'', s1, X1, hfz⟩ := s'.sr.freeze hi
    refine ⟨D', _, _, h'', β', q, X.trans X1, ⟨s1, fun t' r e => ?_, s'.size, s'.df.ext X1⟩⟩
    rw [updX_eq] at e; unfold upd at e
    split at e
    · rename_i hh; subst hh; cases e
      obtain ⟨v, h1, h2⟩ := s'.fits _ _ hu
      exact ⟨v, h1, gr_frz s'.sr hi hn h2 X1 hfz⟩
    · obtain ⟨v, h1, h2⟩ := s'.fits t' r e
      exact ⟨v, h1, X1.rep h2⟩
  | _ => exact ⟨D', σ', H', h', β', q, X, s'⟩
end
end GA
end

section
namespace GA
open Go Go.RowKit Go.Proofs
set_option pp.deepTerms true
set_option maxRecDepth 8000
set_option linter.unusedVariables false
set_option linter.unusedSimpArgs false

theorem vecF_succ {α : Type} (F : Nat → α) (n : Nat) : vecF (n + 1) F = vecF n F ++ [F n] := by rw [vecF_eq, vecF_eq, List.range_succ, List.map_append]; rfl
theorem vecF_low {n W : Nat} {F : Nat → AV} (h : ∀ i, i < W → (F i).low n = true) : lowL n (vecF W F) = true := by
  rw [lowL_iff]; intro x hx
  obtain ⟨i, hi, rfl⟩ := vecF_mem.1 hx
  exact h i hi
structure NI (b : Bd) (m n : Nat) (G : Nat → Bool) (D : Int → Int → Prop) : Prop where
  o : ∀ k : Nat, G k = true ↔ ∃ sp st, InC b m sp st ∧ D sp st ∧ grC b m n sp st - (moB b m).r = k
theorem NI.to {b : Bd} {m n : Nat} {G : Nat → Bool} {D D' : Int → Int → Prop} (h : NI b m n G D) (hd : ∀ x y, InC b m x y → (D' x y ↔ D x y)) : NI b m n G D' :=
  ⟨fun k => (h.o k).trans ⟨fun ⟨x, y, h1, h2, h3⟩ => ⟨x, y, h1, (hd x y h1).2 h2, h3⟩, fun ⟨x, y, h1, h2, h3⟩ => ⟨x, y, h1, (hd x y h1).1 h2, h3⟩⟩⟩
theorem NI.skip {b : Bd} {m n : Nat} {G : Nat → Bool} {D D' : Int → Int → Prop} {sp st : Int} (h : NI b m n G D) (hd : ∀ x y, InC b m x y → (D' x y ↔ D x y ∨ (x = sp ∧ y = st))) (hv : grC b m n sp st - (moB b m).r < 0) : NI b m n G D' := by
  refine ⟨fun k => (h.o k).trans ⟨fun ⟨x, y, h1, h2, h3⟩ => ⟨x, y, h1, (hd x y h1).2 (.inl h2), h3⟩, fun ⟨x, y, h1, h2, h3⟩ => ⟨x, y, h1, ?_, h3⟩⟩⟩
  rcases (hd x y h1).1 h2 with h4 | ⟨rfl, rfl⟩
  · exact h4
  · omega
theorem NI.put {b : Bd} {m n : Nat} {G : Nat → Bool} {D D' : Int → Int → Prop} {sp st : Int} (h : NI b m n G D) (hin : InC b m sp st) (hd : ∀ x y, InC b m x y → (D' x y ↔ D x y ∨ (x = sp ∧ y = st))) (hv : 0 ≤ grC b m n sp st - (moB b m).r) : NI b m n (updV G (grC b m n sp st - (moB b m).r).toNat true) D' := by
  refine ⟨fun k => ?_⟩
  unfold updV
  by_cases e : k = (grC b m n sp st - (moB b m).r).toNat
  · rw [if_pos e]
    exact ⟨fun _ => ⟨sp, st, hin, (hd sp st hin).2 (.inr ⟨rfl, rfl⟩), by omega⟩, fun _ => rfl⟩
  · rw [if_neg e]
    refine (h.o k).trans ⟨fun ⟨x, y, h1, h2, h3⟩ => ⟨x, y, h1, (hd x y h1).2 (.inl h2), h3⟩, fun ⟨x, y, h1, h2, h3⟩ => ⟨x, y, h1, ?_, h3⟩⟩
    rcases (hd x y h1).1 h2 with h4 | ⟨rfl, rfl⟩
    · exact h4
    · omega
def nxF (b : Bd) (m n k : Nat) : Bool := befF b m k n
theorem NI.all {b : Bd} (ok : BedOk b) {m n : Nat} (hm : m < b.months.length) {G : Nat → Bool} {D : Int → Int → Prop} (h : NI b m n G D) (hd : ∀ x y, InC b m x y → D x y) (k : Nat) : G k = nxF b m n k := by
  unfold nxF befF
  rw [Bool.eq_iff_iff, decide_eq_true_iff, h.o k, mem_lv ok hm]
  exact ⟨fun ⟨x, y, h1, h2, h3⟩ => ⟨x, y, h1, h3⟩, fun ⟨x, y, h1, h3⟩ => ⟨x, y, h1, hd x y h1, h3⟩⟩
end GA
end

section
namespace GA
open Go Go.RowKit Go.Proofs
set_option pp.deepTerms true
set_option maxRecDepth 8000
set_option linter.unusedVariables false
set_option linter.unusedSimpArgs false

def rkR (b : Bd) (l : List Int) (m n : Nat) : Int := max 0 (lieR b m n - l.getD (m + 1) default)
def gbR (b : Bd) (m n : Nat) : Int := grossR b.room (moB b m).g n (moB b m).ph (moB b m).tl
def mnS (F : Nat → Int) (s : Int) (c : Nat) : Int := if s < 0 ∨ F c < s then F c else s
def mnP (F : Nat → Int) (lo c : Nat) : Int := (List.range' lo (c - lo)).foldl (mnS F) (-1)
theorem mnP_succ {F : Nat → Int} {lo c : Nat} (h : lo ≤ c) : mnP F lo (c + 1) = mnS F (mnP F lo c) c := by
  unfold mnP
  rw [show c + 1 - lo = (c - lo) + 1 by omega, List.range'_1_concat, List.foldl_append, show lo + (c - lo) = c by omega]; rfl
theorem mnP_nil (F : Nat → Int) (lo : Nat) : mnP F lo lo = -1 := by unfold mnP; rw [Nat.sub_self]; rfl
theorem mnP_b {F : Nat → Int} {B : Int} (hB : 0 ≤ B) {lo : Nat} : ∀ c, lo ≤ c → (∀ q, lo ≤ q → q < c → 0 ≤ F q ∧ F q ≤ B) → -1 ≤ mnP F lo c ∧ mnP F lo c ≤ B ∧ (lo < c → 0 ≤ mnP F lo c) ∧ ∀ q, lo ≤ q → q < c → mnP F lo c ≤ F q
  | 0, h, hF => by
    obtain rfl : lo = 0 := by omega
    rw [mnP_nil]; exact ⟨by omega, by omega, by omega, by omega⟩
  | c + 1, h, hF => by
    by_cases hl : lo = c + 1
    · subst hl; rw [mnP_nil]; exact ⟨by omega, by omega, by omega, by omega⟩
    · obtain ⟨h1, h2, h3, h4⟩ := mnP_b hB c (by omega) fun q a b => hF q a (by omega)
      have h5 := hF c (by omega) (by omega)
      rw [mnP_succ (by omega)]
      unfold mnS
      split
      · rename_i h6
        refine ⟨by omega, by omega, by omega, fun q a b => ?_⟩
        by_cases hq : q = c
        · rw [hq]; exact Int.le_refl _
        · have := h4 q a (by omega)
          have := h3 (by omega)
          omega
      · rename_i h6
        refine ⟨by omega, by omega, by omega, fun q a b => ?_⟩
        by_cases hq : q = c
        · rw [hq]; omega
        · exact h4 q a (by omega)
def smF (b : Bd) (l : List Int) : Nat → Nat → Int
  | 0, _ => 0
  | k + 1, n => if l.getD (b.months.length - (k + 1)) default ≤ n ∧ (n : Int) ≤ b.room then
      rkR b l (b.months.length - (k + 1)) n + mnP (smF b l k) (lieR b (b.months.length - (k + 1)) n - rkR b l (b.months.length - (k + 1)) n).toNat (gbR b (b.months.length - (k + 1)) n - rkR b l (b.months.length - (k + 1)) n + 1).toNat else 0
theorem gbR_b {b : Bd} (ok : BedOk b) {m n : Nat} (hm : m < b.months.length) : lieR b m n ≤ gbR b m n ∧ gbR b m n ≤ b.room := by
  have hmo := ok.mo' hm
  have r1 := ok.r1
  exact ⟨grossR_mono hmo.1 (Int.le_refl _) (by show (moB b m).pl ≤ _; omega) (by show _ ≤ (moB b m).th; omega), (grossR_le (by omega) (by omega)).2⟩
theorem rkR_b {b : Bd} (ok : BedOk b) {l : List Int} (hl : ∀ j, j ≤ b.months.length → 0 ≤ l.getD j default ∧ l.getD j default ≤ b.room) {m n : Nat} (hm : m < b.months.length) : 0 ≤ rkR b l m n ∧ rkR b l m n ≤ lieR b m n ∧ (l.getD (m + 1) default ≤ lieR b m n → l.getD (m + 1) default ≤ lieR b m n - rkR b l m n) := by
  have := lieR_b ok (n := n) hm
  have := hl (m + 1) (by omega)
  unfold rkR; omega
theorem smF_b {b : Bd} (ok : BedOk b) {l : List Int} (hl : ∀ j, j ≤ b.months.length → 0 ≤ l.getD j default ∧ l.getD j default ≤ b.room) : ∀ k, k ≤ b.months.length → ∀ n, 0 ≤ smF b l k n ∧ smF b l k n ≤ 120 * k
  | 0, _, n => by unfold smF; omega
  | k + 1, hk, n => by
    have r2 := ok.r2
    by_cases h0 : 0 < b.months.length
    · have hm : b.months.length - (k + 1) < b.months.length := by omega
      have h1 := rkR_b ok hl (n := n) hm
      have h2 := gbR_b ok (n := n) hm
      have h3 := lieR_b ok (n := n) hm
      unfold smF
      split
      · have h4 := mnP_b (F := smF b l k) (B := 120 * (k : Int)) (by omega) (lo := (lieR b (b.months.length - (k + 1)) n - rkR b l (b.months.length - (k + 1)) n).toNat) (gbR b (b.months.length - (k + 1)) n - rkR b l (b.months.length - (k + 1)) n + 1).toNat (by omega) fun q _ _ => by have := smF_b ok hl k (by omega) q; omega
        have := h4.2.2.1 (by omega)
        omega
      · omega
    · omega
def ruleRow (b : Bd) (l : List Int) (m : Nat) : List Int := vecF (b.room.toNat + 1) (rkR b l m)
def ruleAs (b : Bd) (l : List Int) : List AV := vecF b.months.length fun m => .sl false (ints (ruleRow b l m))
def ruleN (b : Bd) : Nat := (min b.room (b.first + b.unsure) + 1).toNat
def ruleA (b : Bd) (share : Int) : AV :=
  if bShareE b share ≠ 0 then .tup [.sl true [], .int .i64 0, .int .i64 (bShareE b share)]
  else match flrL b share b.months.length with
  | none => .tup [.sl true [], .int .i64 0, .int .i64 6]
  | some l => if leastR b < l.getD 0 default then .tup [.sl true [], .int .i64 0, .int .i64 6] else .tup [.sl false (ruleAs b l), .int .i64 (mnP (smF b l b.months.length) (leastR b).toNat (ruleN b)), .int .i64 0]
def rowV (b : Bd) (l : List Int) (m i : Nat) : AV := if i < m then .sl false (ints (ruleRow b l i)) else .sl true []
theorem rowV_one (b : Bd) (l : List Int) (m N : Nat) : ∀ x ∈ vecF N (rowV b l m), x.one = true := fun x hx => by
  obtain ⟨i, _, rfl⟩ := vecF_mem.1 hx
  unfold rowV; split <;> rfl
theorem vecF_set' {α : Type} (N : Nat) (F : Nat → α) (m : Nat) (v : α) {G : Nat → α} (h : ∀ i, i < N → (if i = m then v else F i) = G i) : (vecF N F).set m v = vecF N G := by
  rw [vecF_set]; exact vecF_congr fun i hi => h i hi
theorem rowsV_low {n : Nat} (b : Bd) (l : List Int) (m N : Nat) : lowL n (vecF N (rowV b l m)) = true := by
  rw [lowL_iff]; intro x hx
  obtain ⟨i, _, rfl⟩ := vecF_mem.1 hx
  unfold rowV; split
  · exact lowI _
  · rfl
theorem vec_zero : (vecF 121 fun _ => (0 : Int)).map (AV.int .i64) = List.replicate 121 (.int .i64 0) := by rw [vecF_replicate, List.map_replicate]
theorem XGet.vec {W n e : Nat} {F : Nat → AV} {k : List AV → Prop} (m : Nat) (h1 : n = W) (he : e = m) (h2 : m < W) (h : k (F m).cells) : XGet (vecF W F) n e k := by
  subst he
  refine ⟨by rw [vecF_len, h1], by omega, ?_⟩
  rw [vecF_get _ h2]; exact h
set_option maxHeartbeats 2000000 in
theorem rule_c (b : Bd) (share : Int) (hm : b.months.length ≤ 100000) (hs : b.surveys.length ≤ 100000) : Comp Try.prog 51 [bedA b, .int .i64 share] (ruleA b share) := by
  have hsh := bShared_c b share hm hs
  unfold ruleA
  by_cases hE : bShareE b share = 0
  · obtain ⟨ok, h1, h2⟩ := bShareE_iff.1 hE
    have hf := bFloor_c b ok.toBedOk share
    have hle := least_c b ok.f1 (by have := ok.f2; have := ok.r2; omega) ok.u1 (by have := ok.u2; omega)
    have m1 := ok.m1
    have m2 := ok.m2
    have r1 := ok.r1
    have r2 := ok.r2
    have f1 := ok.f1
    have f2 := ok.f2
    have u1 := ok.u1
    have u2 := ok.u2
    have e1 : ((b.months.map moA).length : Int) = b.months.length := by rw [List.length_map]
    have hlb : 0 ≤ leastR b ∧ leastR b ≤ b.room := by unfold leastR; omega
    rw [bSharedA_ok hE] at hsh
    rw [if_neg (fun h => h hE)]
    cases hfl : flrL b share b.months.length with
    | none =>
      rw [hfl] at hf
      refine Comp.body (T := tab) (res := [.tmp 4, .tmp 5, .tmp 6]) tab_ok [] Try.func51 rfl (by kernel_rfl) Try.ntmps51 rfl (by simp only [List.length_cons, List.length_nil]; decide) (by simp only [lowL, bedL, AV.low]; rfl) ?_; conv => whnf
      repeat' first | ((with_reducible first | apply XBr.tt | apply XBr.ff | apply Chk.go | apply ChkA.go | apply ChkF.go | apply ChkB.go | apply XArr.pim0 | apply XArr.pim1); conv => whnf) | (with_reducible apply XBr.not) | ((with_reducible apply XBr.dec) <;> (intro h; first | (exfalso; omega) | ((try simp only [List.length_map] at h); first | (exfalso; omega) | (conv => whnf)))) | ((with_reducible first | apply XBr.beq | apply XBr.bne) <;> (intro h; first | (exfalso; omega) | (conv => whnf))) | ((with_reducible refine XInt.i64 (by omega) (by omega) ?_); conv => whnf) | ((with_reducible refine XHold.mk ?_ ?_); (first | omega | rfl | decide | exact ⟨rfl, by decide, rfl⟩ | exact wideI _ | exact widePr _ | exact wideSk _ | (unfold Room; constructor <;> ((try simp) <;> omega)) | exact ⟨rfl, by simp only [List.length_map], by unfold Room; constructor <;> ((try simp) <;> omega)⟩ | exact ⟨by omega, by omega, by unfold Room; constructor <;> ((try simp) <;> omega)⟩); conv => whnf) | ((first | ((with_reducible refine XIx.nat ?_ ?_ ?_); omega; (intro _; rfl)) | ((with_reducible refine XIx.map ?_ ?_ ?_ ?_); omega; omega; (intro _; rfl))); conv => whnf) | (with_reducible apply XAnd.mk) | (exact XSame.mk rfl rfl) | (exact XSame.mk (by first | rfl | (simp only [List.map_append, List.length_append, List.length_map]; done) | (simp only [List.map_append, List.length_append, List.length_map]; rfl)) (by first | rfl | (simp only [List.map_append]; done) | (simp only [List.map_append]; rfl))) | (with_reducible exact trivial) | ((first | (with_reducible refine xdrop_app (by rw [List.length_map]; omega) ?_) | (with_reducible refine XDrop.desk (by assumption) ?_) | (with_reducible first | refine XArr.ints (by omega) (by omega) (by omega) ?_ | refine XArr.intsA (by omega) (by omega) (by omega) ?_) | ((with_reducible first | refine XArr.nats ?_ ?_ ?_ | refine XArr.natsA ?_ ?_ ?_ | refine XArr.ptr ?_ ?_ ?_); omega; omega)); conv => whnf) | (apply Walk.drawN (id := 5) tab_ok mixed_ok [] [] (hsU _) [_, _, _, _, _, _, _, _, _, _] (by kernel_rfl) rfl) | (apply Walk.drawN (id := 14) tab_ok mixed_ok [] [28, 30] (hsC [_, _, _]) [_, _, _, _, _, _, _, _, _, _, _, _, _, _, _, _, _, _, _, _, _, _, _, _, _, _, _, _, _, _, _] (by kernel_rfl) rfl) | (apply Walk.drawN (id := 28) tab_ok mixed_ok [] [] (hsU _) [_, _, _, _, _, _, _, _, _, _, _, _] (by kernel_rfl) rfl) | (apply Walk.drawN (id := 29) tab_ok mixed_ok [] [] (hsU _) [_, _, _, _, _, _, _, _, _, _, _, _, _] (by kernel_rfl) rfl) | ((first | (with_reducible apply XNext.mk) | (refine XCall.ret hsh ?_) | (refine XCall.ret hf ?_)); conv => whnf) | ((with_reducible apply XBr.mk') <;> (intro h; conv => whnf))
      exact ⟨.low rfl⟩
    | some l =>
      rw [hfl] at hf
      obtain ⟨g1, g2, g3⟩ := flrL_spec ok.toBedOk ⟨h1, h2⟩ _ l (Nat.le_refl _) hfl
      have hlen := flrL_len hfl
      have hll : ((ints l).length : Int) = b.months.length + 1 := by rw [ints_len]; omega
      have hl : ∀ j, j ≤ b.months.length → 0 ≤ l.getD j default ∧ l.getD j default ≤ b.room := fun j hj => g2 _ (getD_mem (by omega))
      dsimp only
      by_cases hlt : leastR b < l.getD 0 default
      · rw [if_pos hlt]
        generalize leastR b = z at hle hlt
        have hlt' : decide (z < l.getD (Int.toNat 0) default) = true := decide_eq_true hlt
        refine Comp.body (T := tab) (res := [.tmp 4, .tmp 5, .tmp 6]) tab_ok [] Try.func51 rfl (by kernel_rfl) Try.ntmps51 rfl (by simp only [List.length_cons, List.length_nil]; decide) (by simp only [lowL, bedL, AV.low]; rfl) ?_; conv => whnf
        repeat' first | ((with_reducible first | apply XBr.tt | apply XBr.ff | apply Chk.go | apply ChkA.go | apply ChkF.go | apply ChkB.go | apply XArr.pim0 | apply XArr.pim1); conv => whnf) | (with_reducible apply XBr.not) | ((with_reducible apply XBr.dec) <;> (intro h; first | (exfalso; omega) | ((try simp only [List.length_map] at h); first | (exfalso; omega) | (conv => whnf)))) | ((with_reducible first | apply XBr.beq | apply XBr.bne) <;> (intro h; first | (exfalso; omega) | (conv => whnf))) | ((with_reducible refine XInt.i64 (by omega) (by omega) ?_); conv => whnf) | ((with_reducible refine XHold.mk ?_ ?_); (first | omega | rfl | decide | exact ⟨rfl, by decide, rfl⟩ | exact wideI _ | exact widePr _ | exact wideSk _ | (unfold Room; constructor <;> ((try simp) <;> omega)) | exact ⟨rfl, by simp only [List.length_map], by unfold Room; constructor <;> ((try simp) <;> omega)⟩ | exact ⟨by omega, by omega, by unfold Room; constructor <;> ((try simp) <;> omega)⟩); conv => whnf) | ((first | ((with_reducible refine XIx.nat ?_ ?_ ?_); omega; (intro _; rfl)) | ((with_reducible refine XIx.map ?_ ?_ ?_ ?_); omega; omega; (intro _; rfl))); conv => whnf) | (with_reducible apply XAnd.mk) | (exact XSame.mk rfl rfl) | (exact XSame.mk (by first | rfl | (simp only [List.map_append, List.length_append, List.length_map]; done) | (simp only [List.map_append, List.length_append, List.length_map]; rfl)) (by first | rfl | (simp only [List.map_append]; done) | (simp only [List.map_append]; rfl))) | (with_reducible exact trivial) | ((first | (with_reducible refine xdrop_app (by rw [List.length_map]; omega) ?_) | (with_reducible refine XDrop.desk (by assumption) ?_) | (with_reducible first | refine XArr.ints (by omega) (by omega) (by omega) ?_ | refine XArr.intsA (by omega) (by omega) (by omega) ?_) | ((with_reducible first | refine XArr.nats ?_ ?_ ?_ | refine XArr.natsA ?_ ?_ ?_ | refine XArr.ptr ?_ ?_ ?_); omega; omega)); conv => whnf) | (apply Walk.drawN (id := 5) tab_ok mixed_ok [] [] (hsU _) [_, _, _, _, _, _, _, _, _, _] (by kernel_rfl) rfl) | (apply Walk.drawN (id := 14) tab_ok mixed_ok [] [28, 30] (hsC [_, _, _]) [_, _, _, _, _, _, _, _, _, _, _, _, _, _, _, _, _, _, _, _, _, _, _, _, _, _, _, _, _, _, _] (by kernel_rfl) rfl) | (apply Walk.drawN (id := 28) tab_ok mixed_ok [] [] (hsU _) [_, _, _, _, _, _, _, _, _, _, _, _] (by kernel_rfl) rfl) | (apply Walk.drawN (id := 29) tab_ok mixed_ok [] [] (hsU _) [_, _, _, _, _, _, _, _, _, _, _, _, _] (by kernel_rfl) rfl) | ((first | (with_reducible apply XNext.mk) | (refine XCall.ret hsh ?_) | (refine XCall.ret hf ?_) | (refine XCall.ret hle ?_) | (with_reducible refine XBr.yes hlt' ?_)); conv => whnf) | ((with_reducible apply XBr.mk') <;> (intro h; conv => whnf))
        · exact ⟨.low rfl⟩
        · rename_i h; exact absurd hlt h
      · rw [if_neg hlt]
        have hlt' : decide (leastR b < l.getD (Int.toNat 0) default) = false := decide_eq_false hlt
        refine Comp.body (T := tab) (res := [.tmp 4, .tmp 5, .tmp 6]) tab_ok [] Try.func51 rfl (by kernel_rfl) Try.ntmps51 rfl (by simp only [List.length_cons, List.length_nil]; decide) (by simp only [lowL, bedL, AV.low]; rfl) ?_; conv => whnf
        repeat' first | ((with_reducible first | apply XBr.tt | apply XBr.ff | apply Chk.go | apply ChkA.go | apply ChkF.go | apply ChkB.go | apply XArr.pim0 | apply XArr.pim1); conv => whnf) | (with_reducible apply XBr.not) | ((with_reducible apply XBr.dec) <;> (intro h; first | (exfalso; omega) | ((try simp only [List.length_map] at h); first | (exfalso; omega) | (conv => whnf)))) | ((with_reducible first | apply XBr.beq | apply XBr.bne) <;> (intro h; first | (exfalso; omega) | (conv => whnf))) | ((with_reducible refine XInt.i64 (by omega) (by omega) ?_); conv => whnf) | ((with_reducible refine XHold.mk ?_ ?_); (first | omega | rfl | decide | exact ⟨rfl, by decide, rfl⟩ | exact wideI _ | exact widePr _ | exact wideSk _ | (unfold Room; constructor <;> ((try simp) <;> omega)) | exact ⟨rfl, by simp only [List.length_map], by unfold Room; constructor <;> ((try simp) <;> omega)⟩ | exact ⟨by omega, by omega, by unfold Room; constructor <;> ((try simp) <;> omega)⟩); conv => whnf) | ((first | ((with_reducible refine XIx.nat ?_ ?_ ?_); omega; (intro _; rfl)) | ((with_reducible refine XIx.map ?_ ?_ ?_ ?_); omega; omega; (intro _; rfl))); conv => whnf) | (with_reducible apply XAnd.mk) | (exact XSame.mk rfl rfl) | (exact XSame.mk (by first | rfl | (simp only [List.map_append, List.length_append, List.length_map]; done) | (simp only [List.map_append, List.length_append, List.length_map]; rfl)) (by first | rfl | (simp only [List.map_append]; done) | (simp only [List.map_append]; rfl))) | (with_reducible exact trivial) | ((first | (with_reducible refine xdrop_app (by rw [List.length_map]; omega) ?_) | (with_reducible refine XDrop.desk (by assumption) ?_) | (with_reducible first | refine XArr.ints (by omega) (by omega) (by omega) ?_ | refine XArr.intsA (by omega) (by omega) (by omega) ?_) | ((with_reducible first | refine XArr.nats ?_ ?_ ?_ | refine XArr.natsA ?_ ?_ ?_ | refine XArr.ptr ?_ ?_ ?_); omega; omega)); conv => whnf) | (apply Walk.drawN (id := 5) tab_ok mixed_ok [] [] (hsU _) [_, _, _, _, _, _, _, _, _, _] (by kernel_rfl) rfl) | (apply Walk.drawN (id := 14) tab_ok mixed_ok [] [28, 30] (hsC [_, _, _]) [_, _, _, _, _, _, _, _, _, _, _, _, _, _, _, _, _, _, _, _, _, _, _, _, _, _, _, _, _, _, _] (by kernel_rfl) rfl) | (apply Walk.drawN (id := 28) tab_ok mixed_ok [] [] (hsU _) [_, _, _, _, _, _, _, _, _, _, _, _] (by kernel_rfl) rfl) | (apply Walk.drawN (id := 29) tab_ok mixed_ok [] [] (hsU _) [_, _, _, _, _, _, _, _, _, _, _, _, _] (by kernel_rfl) rfl) | ((first | (with_reducible apply XNext.mk) | (refine XCall.ret hsh ?_) | (refine XCall.ret hf ?_) | (refine XCall.ret hle ?_) | (with_reducible refine XBr.no hlt' ?_)); conv => whnf) | ((refine XHold.mk ⟨by omega, by omega, by unfold Room; constructor <;> omega⟩ ?_); conv => whnf) | ((refine XHold.mk (by rw [List.length_replicate]) ?_); conv => whnf) | ((with_reducible apply XBr.mk') <;> (intro h; conv => whnf))
        · rename_i h; exact absurd h hlt
        refine Walk.loopGK tab_ok [] [(2, _), (4, _), (5, _), (6, _), (7, _), (9, _), (10, .gr 0 b.months.length), (50, .int .i64 b.months.length)] ⟨rfl, rfl, rfl, rfl, rfl, rfl, ?_, ?_, trivial⟩ (fun m : Nat => m ≤ b.months.length) (fun m => [(51, natA m)]) (fun m => [.grow 27 false (vecF b.months.length (rowV b l m))]) (fun m => b.months.length - m) 0 (Nat.zero_le _) ?_ ⟨rfl, trivial⟩ ?_ (fun _ _ => (show (1 : Nat) ≤ 1 from Nat.le_refl 1)) ?_
        · show some (AV.gr 0 (((b.months.map moA).length : Int)).toNat) = _
          rw [e1, Int.toNat_natCast]
        · show some (AV.int .i64 ((((b.months.map moA).length : Int)).toNat : Nat)) = _
          rw [e1, Int.toNat_natCast]
        · show _ = [Blk.grow _ false (List.replicate (((b.months.map moA).length : Int)).toNat (AV.sl true []))]
          rw [e1, Int.toNat_natCast, ← vecF_replicate]
          refine congrArg (fun x => [Blk.grow _ false x]) (vecF_congr fun i _ => ?_)
          unfold rowV; rw [if_neg (by omega)]
        · intro m _
          refine ⟨fun z hz => ?_, fun z hz => ?_⟩
          · rw [List.mem_singleton] at hz; subst hz; exact rowsV_low b l m _
          · simp only [List.cons_append, List.nil_append, List.mem_cons, List.not_mem_nil, or_false] at hz
            rcases hz with rfl | rfl | rfl | rfl | rfl | rfl | rfl | rfl | rfl <;> first | rfl | exact dskL b | exact lowBd b | exact lowI _
        · intro m hm
          have hvl : (vecF b.months.length (rowV b l m)).length = b.months.length := vecF_len _ _
          conv => whnf
          by_cases hmM : m < b.months.length
          · have hmo := ok.mo' hmM
            repeat' first | ((with_reducible first | apply XBr.tt | apply XBr.ff | apply Chk.go | apply ChkA.go | apply ChkF.go | apply ChkB.go | apply XArr.pim0 | apply XArr.pim1); conv => whnf) | (with_reducible apply XBr.not) | ((with_reducible apply XBr.dec) <;> (intro h; first | (exfalso; omega) | ((try simp only [List.length_map] at h); first | (exfalso; omega) | (conv => whnf)))) | ((with_reducible first | apply XBr.beq | apply XBr.bne) <;> (intro h; first | (exfalso; omega) | (conv => whnf))) | ((with_reducible refine XInt.i64 (by omega) (by omega) ?_); conv => whnf) | ((with_reducible refine XHold.mk ?_ ?_); (first | omega | rfl | decide | exact ⟨rfl, by decide, rfl⟩ | exact wideI _ | exact widePr _ | exact wideSk _ | (unfold Room; constructor <;> ((try simp) <;> omega)) | exact ⟨rfl, by simp only [List.length_map], by unfold Room; constructor <;> ((try simp) <;> omega)⟩ | exact ⟨by omega, by omega, by unfold Room; constructor <;> ((try simp) <;> omega)⟩); conv => whnf) | ((first | ((with_reducible refine XIx.nat ?_ ?_ ?_); omega; (intro _; rfl)) | ((with_reducible refine XIx.map ?_ ?_ ?_ ?_); omega; omega; (intro _; rfl))); conv => whnf) | (with_reducible apply XAnd.mk) | (exact XSame.mk rfl rfl) | (exact XSame.mk (by first | rfl | (simp only [List.map_append, List.length_append, List.length_map]; done) | (simp only [List.map_append, List.length_append, List.length_map]; rfl)) (by first | rfl | (simp only [List.map_append]; done) | (simp only [List.map_append]; rfl))) | (with_reducible exact trivial) | ((first | (with_reducible refine xdrop_app (by rw [List.length_map]; omega) ?_) | (with_reducible refine XDrop.desk (by assumption) ?_) | (with_reducible first | refine XArr.ints (by omega) (by omega) (by omega) ?_ | refine XArr.intsA (by omega) (by omega) (by omega) ?_) | ((with_reducible first | refine XArr.nats ?_ ?_ ?_ | refine XArr.natsA ?_ ?_ ?_ | refine XArr.ptr ?_ ?_ ?_); omega; omega)); conv => whnf) | (apply Walk.drawN (id := 5) tab_ok mixed_ok [] [] (hsU _) [_, _, _, _, _, _, _, _, _, _] (by kernel_rfl) rfl) | (apply Walk.drawN (id := 14) tab_ok mixed_ok [] [28, 30] (hsC [_, _, _]) [_, _, _, _, _, _, _, _, _, _, _, _, _, _, _, _, _, _, _, _, _, _, _, _, _, _, _, _, _, _, _] (by kernel_rfl) rfl) | (apply Walk.drawN (id := 28) tab_ok mixed_ok [] [] (hsU _) [_, _, _, _, _, _, _, _, _, _, _, _] (by kernel_rfl) rfl) | (apply Walk.drawN (id := 29) tab_ok mixed_ok [] [] (hsU _) [_, _, _, _, _, _, _, _, _, _, _, _, _] (by kernel_rfl) rfl) | ((with_reducible apply XNext.mk); conv => whnf) | ((with_reducible apply XBr.mk') <;> (intro h; conv => whnf))
            refine Walk.nilRowIn 0 m 3 rfl (rowV_one b l m _) ?_ ?_
            · rw [vecF_get?, if_pos hmM]; unfold rowV; rw [if_neg (by omega)]
            have hone : ∀ n, ∀ x ∈ (vecF b.months.length (rowV b l m)).set m (.gr 1 n), x.one = true := fun n x hx => by
              rcases List.mem_or_eq_of_mem_set hx with hx | rfl
              · exact rowV_one b l m _ x hx
              · rfl
            refine Walk.loopKW [(2, _), (4, _), (5, _), (6, _), (7, _), (9, _), (10, _), (11, _), (50, _), (51, _), (56, _)] ⟨rfl, rfl, rfl, rfl, rfl, rfl, rfl, rfl, rfl, rfl, rfl, trivial⟩ (fun n : Nat => (n : Int) ≤ b.room + 1) (fun n => [(57, natA n)]) (fun n => [.grow 27 false ((vecF b.months.length (rowV b l m)).set m (.gr 1 (vecF n (rkR b l m)).length)), .grow 3 (vecF n (rkR b l m)).isEmpty (ints (vecF n (rkR b l m)))]) (fun n => (b.room + 1).toNat - n) 0 (by omega) ?_ ⟨rfl, trivial⟩ ?_
            · have e0 : vecF 0 (rkR b l m) = [] := by rw [vecF_eq]; rfl
              rw [e0]; rfl
            intro n hn
            have hvn : (ints (vecF n (rkR b l m))).length = (vecF n (rkR b l m)).length := ints_len _
            have hvn2 : (vecF n (rkR b l m)).length = n := vecF_len _ _
            have hsl : ((vecF b.months.length (rowV b l m)).set m (.gr 1 (vecF n (rkR b l m)).length)).length = b.months.length := by rw [List.length_set, vecF_len]
            by_cases hnr : (n : Int) ≤ b.room
            · have hgc := gross_c b m n (moB b m).pl (moB b m).th hmM (by omega) (by omega) hmo.1 hmo.2.1 (by omega) (by omega) (by omega) (by omega) (by omega) (by omega)
              change Comp Try.prog _ _ (.int .i64 (lieR b m n)) at hgc
              have hlb2 := lieR_b ok.toBedOk (j := m) (n := n) hmM
              have hlm := hl (m + 1) (by omega)
              have hlx : l.getD ((m : Int) + 1).toNat default = l.getD (m + 1) default := by rw [show ((m : Int) + 1).toNat = m + 1 by omega]
              have hgr := bedGreatest_c 0 false [lieR b m n - l.getD ((m : Int) + 1).toNat default] (by simp)
              refine Walk.run tab_ok [] ?_
              conv => whnf
              repeat' first | ((with_reducible first | apply XBr.tt | apply XBr.ff | apply Chk.go | apply ChkA.go | apply ChkF.go | apply ChkB.go | apply XArr.pim0 | apply XArr.pim1); conv => whnf) | (with_reducible apply XBr.not) | ((with_reducible apply XBr.dec) <;> (intro h; first | (exfalso; omega) | ((try simp only [List.length_map] at h); first | (exfalso; omega) | (conv => whnf)))) | ((with_reducible first | apply XBr.beq | apply XBr.bne) <;> (intro h; first | (exfalso; omega) | (conv => whnf))) | ((with_reducible refine XInt.i64 (by omega) (by omega) ?_); conv => whnf) | ((with_reducible refine XHold.mk ?_ ?_); (first | omega | rfl | decide | exact ⟨rfl, by decide, rfl⟩ | exact wideI _ | exact widePr _ | exact wideSk _ | (unfold Room; constructor <;> ((try simp) <;> omega)) | exact ⟨rfl, by simp only [List.length_map], by unfold Room; constructor <;> ((try simp) <;> omega)⟩ | exact ⟨by omega, by omega, by unfold Room; constructor <;> ((try simp) <;> omega)⟩); conv => whnf) | ((first | ((with_reducible refine XIx.nat ?_ ?_ ?_); omega; (intro _; rfl)) | ((with_reducible refine XIx.map ?_ ?_ ?_ ?_); omega; omega; (intro _; rfl))); conv => whnf) | (with_reducible apply XAnd.mk) | (exact XSame.mk rfl rfl) | (exact XSame.mk (by first | rfl | (simp only [List.map_append, List.length_append, List.length_map]; done) | (simp only [List.map_append, List.length_append, List.length_map]; rfl)) (by first | rfl | (simp only [List.map_append]; done) | (simp only [List.map_append]; rfl))) | (with_reducible exact trivial) | ((first | (with_reducible refine xdrop_app (by rw [List.length_map]; omega) ?_) | (with_reducible refine XDrop.desk (by assumption) ?_) | (with_reducible first | refine XArr.ints (by omega) (by omega) (by omega) ?_ | refine XArr.intsA (by omega) (by omega) (by omega) ?_) | ((with_reducible first | refine XArr.nats ?_ ?_ ?_ | refine XArr.natsA ?_ ?_ ?_ | refine XArr.ptr ?_ ?_ ?_); omega; omega)); conv => whnf) | (apply Walk.drawN (id := 5) tab_ok mixed_ok [] [] (hsU _) [_, _, _, _, _, _, _, _, _, _] (by kernel_rfl) rfl) | (apply Walk.drawN (id := 14) tab_ok mixed_ok [] [28, 30] (hsC [_, _, _]) [_, _, _, _, _, _, _, _, _, _, _, _, _, _, _, _, _, _, _, _, _, _, _, _, _, _, _, _, _, _, _] (by kernel_rfl) rfl) | (apply Walk.drawN (id := 28) tab_ok mixed_ok [] [] (hsU _) [_, _, _, _, _, _, _, _, _, _, _, _] (by kernel_rfl) rfl) | (apply Walk.drawN (id := 29) tab_ok mixed_ok [] [] (hsU _) [_, _, _, _, _, _, _, _, _, _, _, _, _] (by kernel_rfl) rfl) | ((first | (with_reducible apply XNext.mk) | (refine XHold.mk ⟨hsl, rfl, by omega, by omega⟩ ?_) | (refine XGet.set (by omega) (by omega) (by rw [vecF_len]) ?_) | (refine XCall.ret (worst_c (moB b m)) ?_) | (refine XCall.ret hgc ?_) | (refine XCall.ret hgr ?_)); conv => whnf) | ((refine XHold.mk ⟨rfl, hvn, by unfold Room; constructor <;> (simp only [List.length_cons, List.length_nil]; omega)⟩ ?_); conv => whnf) | ((refine XPut.set (by omega) (by omega) (by rw [vecF_len]) ?_); conv => whnf) | ((with_reducible apply XBr.mk') <;> (intro h; conv => whnf))
              have hrk : [lieR b m n - l.getD ((m : Int) + 1).toNat default].foldl max 0 = rkR b l m n := by rw [hlx]; rfl
              have hvs : vecF (n + 1) (rkR b l m) = vecF n (rkR b l m) ++ [rkR b l m n] := by rw [vecF, dif_neg (by omega), Nat.add_sub_cancel]
              refine XAgain.go (n + 1) (by omega) (by omega) ?_ ⟨rfl, rfl, rfl, rfl, rfl, rfl, rfl, rfl, rfl, rfl, rfl, rfl, trivial⟩
              rw [hvs, ← hrk]
              show [Blk.grow _ false (List.set _ m (.gr 1 (vecF n (rkR b l m) ++ [_]).length)), Blk.grow _ (vecF n (rkR b l m) ++ [_]).isEmpty ((vecF n (rkR b l m) ++ [_]).map (AV.int .i64))] = _
              rw [isEmpty_app, List.map_append, List.length_append]
              rfl
            · obtain rfl : n = b.room.toNat + 1 := by omega
              refine Walk.freezeRow 0 m 1 (vecF (b.room.toNat + 1) (rkR b l m)).length rfl (hone _) (by rw [List.getElem?_set_self (by rw [vecF_len]; exact hmM)]) rfl (by decide) hvn ?_
              refine Walk.run tab_ok [] ?_
              conv => whnf
              repeat' first | ((with_reducible first | apply XBr.tt | apply XBr.ff | apply Chk.go | apply ChkA.go | apply ChkF.go | apply ChkB.go | apply XArr.pim0 | apply XArr.pim1); conv => whnf) | (with_reducible apply XBr.not) | ((with_reducible apply XBr.dec) <;> (intro h; first | (exfalso; omega) | ((try simp only [List.length_map] at h); first | (exfalso; omega) | (conv => whnf)))) | ((with_reducible first | apply XBr.beq | apply XBr.bne) <;> (intro h; first | (exfalso; omega) | (conv => whnf))) | ((with_reducible refine XInt.i64 (by omega) (by omega) ?_); conv => whnf) | ((with_reducible refine XHold.mk ?_ ?_); (first | omega | rfl | decide | exact ⟨rfl, by decide, rfl⟩ | exact wideI _ | exact widePr _ | exact wideSk _ | (unfold Room; constructor <;> ((try simp) <;> omega)) | exact ⟨rfl, by simp only [List.length_map], by unfold Room; constructor <;> ((try simp) <;> omega)⟩ | exact ⟨by omega, by omega, by unfold Room; constructor <;> ((try simp) <;> omega)⟩); conv => whnf) | ((first | ((with_reducible refine XIx.nat ?_ ?_ ?_); omega; (intro _; rfl)) | ((with_reducible refine XIx.map ?_ ?_ ?_ ?_); omega; omega; (intro _; rfl))); conv => whnf) | (with_reducible apply XAnd.mk) | (exact XSame.mk rfl rfl) | (exact XSame.mk (by first | rfl | (simp only [List.map_append, List.length_append, List.length_map]; done) | (simp only [List.map_append, List.length_append, List.length_map]; rfl)) (by first | rfl | (simp only [List.map_append]; done) | (simp only [List.map_append]; rfl))) | (with_reducible exact trivial) | ((first | (with_reducible refine xdrop_app (by rw [List.length_map]; omega) ?_) | (with_reducible refine XDrop.desk (by assumption) ?_) | (with_reducible first | refine XArr.ints (by omega) (by omega) (by omega) ?_ | refine XArr.intsA (by omega) (by omega) (by omega) ?_) | ((with_reducible first | refine XArr.nats ?_ ?_ ?_ | refine XArr.natsA ?_ ?_ ?_ | refine XArr.ptr ?_ ?_ ?_); omega; omega)); conv => whnf) | (apply Walk.drawN (id := 5) tab_ok mixed_ok [] [] (hsU _) [_, _, _, _, _, _, _, _, _, _] (by kernel_rfl) rfl) | (apply Walk.drawN (id := 14) tab_ok mixed_ok [] [28, 30] (hsC [_, _, _]) [_, _, _, _, _, _, _, _, _, _, _, _, _, _, _, _, _, _, _, _, _, _, _, _, _, _, _, _, _, _, _] (by kernel_rfl) rfl) | (apply Walk.drawN (id := 28) tab_ok mixed_ok [] [] (hsU _) [_, _, _, _, _, _, _, _, _, _, _, _] (by kernel_rfl) rfl) | (apply Walk.drawN (id := 29) tab_ok mixed_ok [] [] (hsU _) [_, _, _, _, _, _, _, _, _, _, _, _, _] (by kernel_rfl) rfl) | ((with_reducible apply XNext.mk); conv => whnf) | ((with_reducible apply XBr.mk') <;> (intro h; conv => whnf))
              refine XAgainG.go (m + 1) [.dead] (by omega) (by omega) ?_ ⟨rfl, rfl, rfl, rfl, rfl, rfl, rfl, rfl, rfl, trivial⟩
              show [Blk.grow _ false (vecF b.months.length (rowV b l (m + 1))), Blk.dead] = [Blk.grow _ false (((vecF b.months.length (rowV b l m)).set m _).set m (.sl (vecF (b.room.toNat + 1) (rkR b l m)).isEmpty (ints (vecF (b.room.toNat + 1) (rkR b l m))))), Blk.dead]
              rw [List.set_set, vecF_set']
              intro i _
              unfold rowV
              by_cases hi : i = m
              · subst hi
                have e5 : (vecF (b.room.toNat + 1) (rkR b l i)).isEmpty = false := by
                  cases h : vecF (b.room.toNat + 1) (rkR b l i) with
                  | nil => rw [h] at hvn2; simp at hvn2
                  | cons x y => rfl
                rw [if_pos rfl, if_pos (by omega), e5]; rfl
              · rw [if_neg hi]
                by_cases hi2 : i < m
                · rw [if_pos hi2, if_pos (by omega)]
                · rw [if_neg hi2, if_neg (by omega)]
          · obtain rfl : m = b.months.length := by omega
            have hrA : vecF b.months.length (rowV b l b.months.length) = ruleAs b l := vecF_congr fun i hi => by unfold rowV; rw [if_pos hi]
            rw [hrA]
            have hrl : (ruleAs b l).length = b.months.length := vecF_len _ _
            have hsm := smF_b ok.toBedOk hl
            repeat' first | ((with_reducible first | apply XBr.tt | apply XBr.ff | apply Chk.go | apply ChkA.go | apply ChkF.go | apply ChkB.go | apply XArr.pim0 | apply XArr.pim1); conv => whnf) | (with_reducible apply XBr.not) | ((with_reducible apply XBr.dec) <;> (intro h; first | (exfalso; omega) | ((try simp only [List.length_map] at h); first | (exfalso; omega) | (conv => whnf)))) | ((with_reducible first | apply XBr.beq | apply XBr.bne) <;> (intro h; first | (exfalso; omega) | (conv => whnf))) | ((with_reducible refine XInt.i64 (by omega) (by omega) ?_); conv => whnf) | ((with_reducible refine XHold.mk ?_ ?_); (first | omega | rfl | decide | exact ⟨rfl, by decide, rfl⟩ | exact wideI _ | exact widePr _ | exact wideSk _ | (unfold Room; constructor <;> ((try simp) <;> omega)) | exact ⟨rfl, by simp only [List.length_map], by unfold Room; constructor <;> ((try simp) <;> omega)⟩ | exact ⟨by omega, by omega, by unfold Room; constructor <;> ((try simp) <;> omega)⟩); conv => whnf) | ((first | ((with_reducible refine XIx.nat ?_ ?_ ?_); omega; (intro _; rfl)) | ((with_reducible refine XIx.map ?_ ?_ ?_ ?_); omega; omega; (intro _; rfl))); conv => whnf) | (with_reducible apply XAnd.mk) | (exact XSame.mk rfl rfl) | (exact XSame.mk (by first | rfl | (simp only [List.map_append, List.length_append, List.length_map]; done) | (simp only [List.map_append, List.length_append, List.length_map]; rfl)) (by first | rfl | (simp only [List.map_append]; done) | (simp only [List.map_append]; rfl))) | (with_reducible exact trivial) | ((first | (with_reducible refine xdrop_app (by rw [List.length_map]; omega) ?_) | (with_reducible refine XDrop.desk (by assumption) ?_) | (with_reducible first | refine XArr.ints (by omega) (by omega) (by omega) ?_ | refine XArr.intsA (by omega) (by omega) (by omega) ?_) | ((with_reducible first | refine XArr.nats ?_ ?_ ?_ | refine XArr.natsA ?_ ?_ ?_ | refine XArr.ptr ?_ ?_ ?_); omega; omega)); conv => whnf) | (apply Walk.drawN (id := 5) tab_ok mixed_ok [] [] (hsU _) [_, _, _, _, _, _, _, _, _, _] (by kernel_rfl) rfl) | (apply Walk.drawN (id := 14) tab_ok mixed_ok [] [28, 30] (hsC [_, _, _]) [_, _, _, _, _, _, _, _, _, _, _, _, _, _, _, _, _, _, _, _, _, _, _, _, _, _, _, _, _, _, _] (by kernel_rfl) rfl) | (apply Walk.drawN (id := 28) tab_ok mixed_ok [] [] (hsU _) [_, _, _, _, _, _, _, _, _, _, _, _] (by kernel_rfl) rfl) | (apply Walk.drawN (id := 29) tab_ok mixed_ok [] [] (hsU _) [_, _, _, _, _, _, _, _, _, _, _, _, _] (by kernel_rfl) rfl) | ((with_reducible apply XNext.mk); conv => whnf) | ((with_reducible apply XBr.mk') <;> (intro h; conv => whnf))
            refine Walk.loopGK tab_ok [] [(2, _), (4, _), (5, _), (6, _), (7, _), (9, _), (10, _), (13, _)] ⟨rfl, rfl, rfl, rfl, rfl, rfl, rfl, rfl, trivial⟩ (fun k : Nat => k ≤ b.months.length) (fun k => [(14, .int .i64 ((b.months.length : Int) - 1 - k))]) (fun k => [.grow 27 false (ruleAs b l), .cells ((vecF 121 (smF b l k)).map (.int .i64))]) (fun k => b.months.length - k) 0 (Nat.zero_le _) ?_ ⟨?_, trivial⟩ ?_ (fun _ _ => (show (2 : Nat) ≤ 2 from Nat.le_refl 2)) ?_
            · have e0 : vecF 121 (smF b l 0) = vecF 121 fun _ => 0 := rfl
              rw [e0, vec_zero]
            · show some (AV.int .i64 (((b.months.map moA).length : Int) - 1)) = _
              refine congrArg (fun z => some (AV.int .i64 z)) (by omega)
            · intro k _
              refine ⟨fun z hz => ?_, fun z hz => ?_⟩
              · simp only [List.mem_cons, List.not_mem_nil, or_false] at hz
                rcases hz with rfl | rfl
                · rw [← hrA]; exact rowsV_low b l _ _
                · exact vec_low fun _ => rfl
              · simp only [List.cons_append, List.nil_append, List.mem_cons, List.not_mem_nil, or_false] at hz
                rcases hz with rfl | rfl | rfl | rfl | rfl | rfl | rfl | rfl | rfl <;> first | rfl | exact dskL b | exact lowBd b | exact lowI _
            · intro k hk
              conv => whnf
              by_cases hkM : k < b.months.length
              · obtain ⟨m, hmk⟩ : ∃ m : Nat, (b.months.length : Int) - 1 - k = m := ⟨b.months.length - 1 - k, by omega⟩
                have hm1 : m < b.months.length := by omega
                have hmo := ok.mo' hm1
                have hlm := hl m (by omega)
                have hrr : (ruleRow b l m).length = b.room.toNat + 1 := vecF_len _ _
                have hsk : ∀ n, smF b l (k + 1) n = if l.getD m default ≤ n ∧ (n : Int) ≤ b.room then rkR b l m n + mnP (smF b l k) (lieR b m n - rkR b l m n).toNat (gbR b m n - rkR b l m n + 1).toNat else 0 := fun n => by
                  rw [smF, show b.months.length - (k + 1) = m by omega]
                rw [hmk]
                repeat' first | ((with_reducible first | apply XBr.tt | apply XBr.ff | apply Chk.go | apply ChkA.go | apply ChkF.go | apply ChkB.go | apply XArr.pim0 | apply XArr.pim1); conv => whnf) | (with_reducible apply XBr.not) | ((with_reducible apply XBr.dec) <;> (intro h; first | (exfalso; omega) | ((try simp only [List.length_map] at h); first | (exfalso; omega) | (conv => whnf)))) | ((with_reducible first | apply XBr.beq | apply XBr.bne) <;> (intro h; first | (exfalso; omega) | (conv => whnf))) | ((with_reducible refine XInt.i64 (by omega) (by omega) ?_); conv => whnf) | ((with_reducible refine XHold.mk ?_ ?_); (first | omega | rfl | decide | exact ⟨rfl, by decide, rfl⟩ | exact wideI _ | exact widePr _ | exact wideSk _ | (unfold Room; constructor <;> ((try simp) <;> omega)) | exact ⟨rfl, by simp only [List.length_map], by unfold Room; constructor <;> ((try simp) <;> omega)⟩ | exact ⟨by omega, by omega, by unfold Room; constructor <;> ((try simp) <;> omega)⟩); conv => whnf) | ((first | ((with_reducible refine XIx.nat ?_ ?_ ?_); omega; (intro _; rfl)) | ((with_reducible refine XIx.map ?_ ?_ ?_ ?_); omega; omega; (intro _; rfl))); conv => whnf) | (with_reducible apply XAnd.mk) | (exact XSame.mk rfl rfl) | (exact XSame.mk (by first | rfl | (simp only [List.map_append, List.length_append, List.length_map]; done) | (simp only [List.map_append, List.length_append, List.length_map]; rfl)) (by first | rfl | (simp only [List.map_append]; done) | (simp only [List.map_append]; rfl))) | (with_reducible exact trivial) | ((first | (with_reducible refine xdrop_app (by rw [List.length_map]; omega) ?_) | (with_reducible refine XDrop.desk (by assumption) ?_) | (with_reducible first | refine XArr.ints (by omega) (by omega) (by omega) ?_ | refine XArr.intsA (by omega) (by omega) (by omega) ?_) | ((with_reducible first | refine XArr.nats ?_ ?_ ?_ | refine XArr.natsA ?_ ?_ ?_ | refine XArr.ptr ?_ ?_ ?_); omega; omega)); conv => whnf) | (apply Walk.drawN (id := 5) tab_ok mixed_ok [] [] (hsU _) [_, _, _, _, _, _, _, _, _, _] (by kernel_rfl) rfl) | (apply Walk.drawN (id := 14) tab_ok mixed_ok [] [28, 30] (hsC [_, _, _]) [_, _, _, _, _, _, _, _, _, _, _, _, _, _, _, _, _, _, _, _, _, _, _, _, _, _, _, _, _, _, _] (by kernel_rfl) rfl) | (apply Walk.drawN (id := 28) tab_ok mixed_ok [] [] (hsU _) [_, _, _, _, _, _, _, _, _, _, _, _] (by kernel_rfl) rfl) | (apply Walk.drawN (id := 29) tab_ok mixed_ok [] [] (hsU _) [_, _, _, _, _, _, _, _, _, _, _, _, _] (by kernel_rfl) rfl) | ((with_reducible apply XNext.mk); conv => whnf) | ((with_reducible apply XBr.mk') <;> (intro h; conv => whnf))
                refine Walk.loopK tab_ok [] [(2, _), (4, _), (5, _), (6, _), (7, _), (9, _), (10, _), (13, _), (14, _), (15, _), (16, _)] ⟨rfl, rfl, rfl, rfl, rfl, rfl, rfl, rfl, rfl, rfl, rfl, trivial⟩ (fun n : Nat => l.getD m default ≤ n ∧ (n : Int) ≤ b.room + 1) (fun n => [(17, natA n)]) (fun n => [.grow 27 false (ruleAs b l), .cells ((vecF 121 (smF b l k)).map (.int .i64)), .cells ((vecF 121 fun q => if q < n then smF b l (k + 1) q else 0).map (.int .i64)), .cells (moC (moB b m))]) (fun n => (b.room + 1).toNat - n) (l.getD m default).toNat ⟨by omega, by omega⟩ ?_ ⟨?_, trivial⟩ ?_
                · rw [show (vecF 121 fun q => if q < (l.getD m default).toNat then smF b l (k + 1) q else 0) = vecF 121 fun _ => 0 from vecF_congr fun q _ => by
                    by_cases hq : q < (l.getD m default).toNat
                    · rw [if_pos hq, hsk, if_neg (by omega)]
                    · rw [if_neg hq], vec_zero]
                  rfl
                · exact congrArg (fun z => some (AV.int .i64 z)) (show l.getD ((m : Int)).toNat default = (((l.getD m default).toNat : Nat) : Int) by rw [Int.toNat_natCast]; omega)
                rintro n ⟨hn1, hn2⟩
                conv => whnf
                by_cases hnr : (n : Int) ≤ b.room
                · have hgc := gross_c b m n (moB b m).pl (moB b m).th hm1 (by omega) (by omega) hmo.1 hmo.2.1 (by omega) (by omega) (by omega) (by omega) (by omega) (by omega)
                  change Comp Try.prog _ _ (.int .i64 (lieR b m n)) at hgc
                  have hgx := gross_c b m n (moB b m).ph (moB b m).tl hm1 (by omega) (by omega) hmo.1 hmo.2.1 (by omega) (by omega) (by omega) (by omega) (by omega) (by omega)
                  change Comp Try.prog _ _ (.int .i64 (gbR b m n)) at hgx
                  have hlb2 := lieR_b ok.toBedOk (j := m) (n := n) hm1
                  have hgb := gbR_b ok.toBedOk (n := n) hm1
                  have hrb := rkR_b ok.toBedOk hl (n := n) hm1
                  have hrv : (ruleRow b l m).getD n default = rkR b l m n := vecF_get _ (by omega)
                  have hskn := hsk n
                  obtain ⟨lo0, hlo0⟩ : ∃ lo0, lo0 = (lieR b m n - rkR b l m n).toNat := ⟨_, rfl⟩
                  rw [← hlo0] at hskn
                  rw [if_pos ⟨hn1, hnr⟩] at hskn
                  repeat' first | ((with_reducible first | apply XBr.tt | apply XBr.ff | apply Chk.go | apply ChkA.go | apply ChkF.go | apply ChkB.go | apply XArr.pim0 | apply XArr.pim1); conv => whnf) | (with_reducible apply XBr.not) | ((with_reducible apply XBr.dec) <;> (intro h; first | (exfalso; omega) | ((try simp only [List.length_map] at h); first | (exfalso; omega) | (conv => whnf)))) | ((with_reducible first | apply XBr.beq | apply XBr.bne) <;> (intro h; first | (exfalso; omega) | (conv => whnf))) | ((with_reducible refine XInt.i64 (by omega) (by omega) ?_); conv => whnf) | ((with_reducible refine XHold.mk ?_ ?_); (first | omega | rfl | decide | exact ⟨rfl, by decide, rfl⟩ | exact wideI _ | exact widePr _ | exact wideSk _ | (unfold Room; constructor <;> ((try simp) <;> omega)) | exact ⟨rfl, by simp only [List.length_map], by unfold Room; constructor <;> ((try simp) <;> omega)⟩ | exact ⟨by omega, by omega, by unfold Room; constructor <;> ((try simp) <;> omega)⟩); conv => whnf) | ((first | ((with_reducible refine XIx.nat ?_ ?_ ?_); omega; (intro _; rfl)) | ((with_reducible refine XIx.map ?_ ?_ ?_ ?_); omega; omega; (intro _; rfl))); conv => whnf) | (with_reducible apply XAnd.mk) | (exact XSame.mk rfl rfl) | (exact XSame.mk (by first | rfl | (simp only [List.map_append, List.length_append, List.length_map]; done) | (simp only [List.map_append, List.length_append, List.length_map]; rfl)) (by first | rfl | (simp only [List.map_append]; done) | (simp only [List.map_append]; rfl))) | (with_reducible exact trivial) | ((first | (with_reducible refine xdrop_app (by rw [List.length_map]; omega) ?_) | (with_reducible refine XDrop.desk (by assumption) ?_) | (with_reducible first | refine XArr.ints (by omega) (by omega) (by omega) ?_ | refine XArr.intsA (by omega) (by omega) (by omega) ?_) | ((with_reducible first | refine XArr.nats ?_ ?_ ?_ | refine XArr.natsA ?_ ?_ ?_ | refine XArr.ptr ?_ ?_ ?_); omega; omega)); conv => whnf) | (apply Walk.drawN (id := 5) tab_ok mixed_ok [] [] (hsU _) [_, _, _, _, _, _, _, _, _, _] (by kernel_rfl) rfl) | (apply Walk.drawN (id := 14) tab_ok mixed_ok [] [28, 30] (hsC [_, _, _]) [_, _, _, _, _, _, _, _, _, _, _, _, _, _, _, _, _, _, _, _, _, _, _, _, _, _, _, _, _, _, _] (by kernel_rfl) rfl) | (apply Walk.drawN (id := 28) tab_ok mixed_ok [] [] (hsU _) [_, _, _, _, _, _, _, _, _, _, _, _] (by kernel_rfl) rfl) | (apply Walk.drawN (id := 29) tab_ok mixed_ok [] [] (hsU _) [_, _, _, _, _, _, _, _, _, _, _, _, _] (by kernel_rfl) rfl) | ((first | (with_reducible apply XNext.mk) | (refine XHold.mk ⟨hrl, rfl, by omega, by omega⟩ ?_) | (refine XGet.vec (W := b.months.length) m rfl (by omega) (by omega) ?_) | (refine XCall.ret (worst_c (moB b m)) ?_) | (refine XCall.ret hgc ?_) | (refine XInt.i64 (show _ ≤ lieR b m n - (ruleRow b l m).getD n default by omega) (show lieR b m n - (ruleRow b l m).getD n default ≤ _ by omega) ?_)); conv => whnf) | ((with_reducible apply XBr.mk') <;> (intro h; conv => whnf))
                  have hml := fun (c : Nat) (hc : lo0 ≤ c) => mnP_b (F := smF b l k) (B := 120 * (k : Int)) (by omega) (lo := lo0) c hc fun q _ _ => by have := hsm k (by omega) q; omega
                  refine Walk.loopK tab_ok [] [(2, _), (4, _), (5, _), (6, _), (7, _), (9, _), (10, _), (13, _), (14, _), (15, _), (16, _), (17, _), (18, .int .i64 (rkR b l m n))] ⟨rfl, rfl, rfl, rfl, rfl, rfl, rfl, rfl, rfl, rfl, rfl, rfl, congrArg (fun z => some (AV.int .i64 z)) hrv, trivial⟩ (fun c : Nat => lo0 ≤ c ∧ (c : Int) ≤ gbR b m n - rkR b l m n + 1) (fun c => [(19, .int .i64 (mnP (smF b l k) lo0 c)), (20, natA c)]) (fun _ => [.grow 27 false (ruleAs b l), .cells ((vecF 121 (smF b l k)).map (.int .i64)), .cells ((vecF 121 fun q => if q < n then smF b l (k + 1) q else 0).map (.int .i64)), .cells (moC (moB b m))]) (fun c => (gbR b m n - rkR b l m n + 1).toNat - c) lo0 ⟨Nat.le_refl _, by omega⟩ rfl ⟨congrArg (fun z => some (AV.int .i64 z)) (mnP_nil _ _).symm, congrArg (fun z => some (AV.int .i64 z)) (show lieR b m n - (ruleRow b l m).getD n default = (lo0 : Int) by rw [hrv]; omega), trivial⟩ ?_
                  rintro c ⟨hc1, hc2⟩
                  have hmc := hml c hc1
                  have hsc := hsm k (by omega) c
                  have hmn := mnP_succ (F := smF b l k) hc1
                  unfold mnS at hmn
                  generalize hz : mnP (smF b l k) lo0 c = z at hmc hmn
                  conv => whnf
                  by_cases hcl : (c : Int) ≤ gbR b m n - rkR b l m n
                  · skip
                    repeat' first | ((with_reducible first | apply XBr.tt | apply XBr.ff | apply Chk.go | apply ChkA.go | apply ChkF.go | apply ChkB.go | apply XArr.pim0 | apply XArr.pim1); conv => whnf) | (with_reducible apply XBr.not) | ((with_reducible apply XBr.dec) <;> (intro h; first | (exfalso; omega) | ((try simp only [List.length_map] at h); first | (exfalso; omega) | (conv => whnf)))) | ((with_reducible first | apply XBr.beq | apply XBr.bne) <;> (intro h; first | (exfalso; omega) | (conv => whnf))) | ((with_reducible refine XInt.i64 (by omega) (by omega) ?_); conv => whnf) | ((with_reducible refine XHold.mk ?_ ?_); (first | omega | rfl | decide | exact ⟨rfl, by decide, rfl⟩ | exact wideI _ | exact widePr _ | exact wideSk _ | (unfold Room; constructor <;> ((try simp) <;> omega)) | exact ⟨rfl, by simp only [List.length_map], by unfold Room; constructor <;> ((try simp) <;> omega)⟩ | exact ⟨by omega, by omega, by unfold Room; constructor <;> ((try simp) <;> omega)⟩); conv => whnf) | ((first | ((with_reducible refine XIx.nat ?_ ?_ ?_); omega; (intro _; rfl)) | ((with_reducible refine XIx.map ?_ ?_ ?_ ?_); omega; omega; (intro _; rfl))); conv => whnf) | (with_reducible apply XAnd.mk) | (exact XSame.mk rfl rfl) | (exact XSame.mk (by first | rfl | (simp only [List.map_append, List.length_append, List.length_map]; done) | (simp only [List.map_append, List.length_append, List.length_map]; rfl)) (by first | rfl | (simp only [List.map_append]; done) | (simp only [List.map_append]; rfl))) | (with_reducible exact trivial) | ((first | (with_reducible refine xdrop_app (by rw [List.length_map]; omega) ?_) | (with_reducible refine XDrop.desk (by assumption) ?_) | (with_reducible first | refine XArr.ints (by omega) (by omega) (by omega) ?_ | refine XArr.intsA (by omega) (by omega) (by omega) ?_) | ((with_reducible first | refine XArr.nats ?_ ?_ ?_ | refine XArr.natsA ?_ ?_ ?_ | refine XArr.ptr ?_ ?_ ?_); omega; omega)); conv => whnf) | (apply Walk.drawN (id := 5) tab_ok mixed_ok [] [] (hsU _) [_, _, _, _, _, _, _, _, _, _] (by kernel_rfl) rfl) | (apply Walk.drawN (id := 14) tab_ok mixed_ok [] [28, 30] (hsC [_, _, _]) [_, _, _, _, _, _, _, _, _, _, _, _, _, _, _, _, _, _, _, _, _, _, _, _, _, _, _, _, _, _, _] (by kernel_rfl) rfl) | (apply Walk.drawN (id := 28) tab_ok mixed_ok [] [] (hsU _) [_, _, _, _, _, _, _, _, _, _, _, _] (by kernel_rfl) rfl) | (apply Walk.drawN (id := 29) tab_ok mixed_ok [] [] (hsU _) [_, _, _, _, _, _, _, _, _, _, _, _, _] (by kernel_rfl) rfl) | ((first | (with_reducible apply XNext.mk) | (refine XCall.ret (bBest_c (moB b m)) ?_) | (refine XCall.ret hgx ?_) | (refine xdrop_vec c (by omega) (by omega) ?_)); conv => whnf) | ((with_reducible apply XBr.mk') <;> (intro h; conv => whnf))
                    all_goals refine XAgain.go (c + 1) ⟨by omega, by omega⟩ (by omega) rfl ⟨rfl, rfl, rfl, rfl, rfl, rfl, rfl, rfl, rfl, rfl, rfl, rfl, rfl, congrArg (fun z => some (AV.int .i64 z)) ?_, rfl, trivial⟩
                    all_goals (rw [hmn]; first | rw [if_pos (by omega)] | rw [if_neg (by omega)])
                  · obtain hcc : c = (gbR b m n - rkR b l m n + 1).toNat := by omega
                    repeat' first | ((with_reducible first | apply XBr.tt | apply XBr.ff | apply Chk.go | apply ChkA.go | apply ChkF.go | apply ChkB.go | apply XArr.pim0 | apply XArr.pim1); conv => whnf) | (with_reducible apply XBr.not) | ((with_reducible apply XBr.dec) <;> (intro h; first | (exfalso; omega) | ((try simp only [List.length_map] at h); first | (exfalso; omega) | (conv => whnf)))) | ((with_reducible first | apply XBr.beq | apply XBr.bne) <;> (intro h; first | (exfalso; omega) | (conv => whnf))) | ((with_reducible refine XInt.i64 (by omega) (by omega) ?_); conv => whnf) | ((with_reducible refine XHold.mk ?_ ?_); (first | omega | rfl | decide | exact ⟨rfl, by decide, rfl⟩ | exact wideI _ | exact widePr _ | exact wideSk _ | (unfold Room; constructor <;> ((try simp) <;> omega)) | exact ⟨rfl, by simp only [List.length_map], by unfold Room; constructor <;> ((try simp) <;> omega)⟩ | exact ⟨by omega, by omega, by unfold Room; constructor <;> ((try simp) <;> omega)⟩); conv => whnf) | ((first | ((with_reducible refine XIx.nat ?_ ?_ ?_); omega; (intro _; rfl)) | ((with_reducible refine XIx.map ?_ ?_ ?_ ?_); omega; omega; (intro _; rfl))); conv => whnf) | (with_reducible apply XAnd.mk) | (exact XSame.mk rfl rfl) | (exact XSame.mk (by first | rfl | (simp only [List.map_append, List.length_append, List.length_map]; done) | (simp only [List.map_append, List.length_append, List.length_map]; rfl)) (by first | rfl | (simp only [List.map_append]; done) | (simp only [List.map_append]; rfl))) | (with_reducible exact trivial) | ((first | (with_reducible refine xdrop_app (by rw [List.length_map]; omega) ?_) | (with_reducible refine XDrop.desk (by assumption) ?_) | (with_reducible first | refine XArr.ints (by omega) (by omega) (by omega) ?_ | refine XArr.intsA (by omega) (by omega) (by omega) ?_) | ((with_reducible first | refine XArr.nats ?_ ?_ ?_ | refine XArr.natsA ?_ ?_ ?_ | refine XArr.ptr ?_ ?_ ?_); omega; omega)); conv => whnf) | (apply Walk.drawN (id := 5) tab_ok mixed_ok [] [] (hsU _) [_, _, _, _, _, _, _, _, _, _] (by kernel_rfl) rfl) | (apply Walk.drawN (id := 14) tab_ok mixed_ok [] [28, 30] (hsC [_, _, _]) [_, _, _, _, _, _, _, _, _, _, _, _, _, _, _, _, _, _, _, _, _, _, _, _, _, _, _, _, _, _, _] (by kernel_rfl) rfl) | (apply Walk.drawN (id := 28) tab_ok mixed_ok [] [] (hsU _) [_, _, _, _, _, _, _, _, _, _, _, _] (by kernel_rfl) rfl) | (apply Walk.drawN (id := 29) tab_ok mixed_ok [] [] (hsU _) [_, _, _, _, _, _, _, _, _, _, _, _, _] (by kernel_rfl) rfl) | ((first | (with_reducible apply XNext.mk) | (refine XCall.ret (bBest_c (moB b m)) ?_) | (refine XCall.ret hgx ?_) | (refine xspl_vec _ n (by omega) (by omega) ?_)); conv => whnf) | ((with_reducible apply XBr.mk') <;> (intro h; conv => whnf))
                    rw [← hcc, hz] at hskn
                    refine XAgain.go (n + 1) ⟨by omega, by omega⟩ (by omega) ?_ ⟨rfl, rfl, rfl, rfl, rfl, rfl, rfl, rfl, rfl, rfl, rfl, rfl, trivial⟩
                    rw [show (vecF 121 fun q => if q < n + 1 then smF b l (k + 1) q else 0) = vecF 121 (updV (fun q => if q < n then smF b l (k + 1) q else 0) n (rkR b l m n + z)) from vecF_congr fun q _ => by
                      unfold updV
                      by_cases hq : q = n
                      · rw [if_pos hq, hq, if_pos (by omega), hskn]
                      · rw [if_neg hq]
                        dsimp only
                        by_cases hq2 : q < n
                        · rw [if_pos hq2, if_pos (by omega)]
                        · rw [if_neg hq2, if_neg (by omega)]]
                · obtain rfl : n = b.room.toNat + 1 := by omega
                  repeat' first | ((with_reducible first | apply XBr.tt | apply XBr.ff | apply Chk.go | apply ChkA.go | apply ChkF.go | apply ChkB.go | apply XArr.pim0 | apply XArr.pim1); conv => whnf) | (with_reducible apply XBr.not) | ((with_reducible apply XBr.dec) <;> (intro h; first | (exfalso; omega) | ((try simp only [List.length_map] at h); first | (exfalso; omega) | (conv => whnf)))) | ((with_reducible first | apply XBr.beq | apply XBr.bne) <;> (intro h; first | (exfalso; omega) | (conv => whnf))) | ((with_reducible refine XInt.i64 (by omega) (by omega) ?_); conv => whnf) | ((with_reducible refine XHold.mk ?_ ?_); (first | omega | rfl | decide | exact ⟨rfl, by decide, rfl⟩ | exact wideI _ | exact widePr _ | exact wideSk _ | (unfold Room; constructor <;> ((try simp) <;> omega)) | exact ⟨rfl, by simp only [List.length_map], by unfold Room; constructor <;> ((try simp) <;> omega)⟩ | exact ⟨by omega, by omega, by unfold Room; constructor <;> ((try simp) <;> omega)⟩); conv => whnf) | ((first | ((with_reducible refine XIx.nat ?_ ?_ ?_); omega; (intro _; rfl)) | ((with_reducible refine XIx.map ?_ ?_ ?_ ?_); omega; omega; (intro _; rfl))); conv => whnf) | (with_reducible apply XAnd.mk) | (exact XSame.mk rfl rfl) | (exact XSame.mk (by first | rfl | (simp only [List.map_append, List.length_append, List.length_map]; done) | (simp only [List.map_append, List.length_append, List.length_map]; rfl)) (by first | rfl | (simp only [List.map_append]; done) | (simp only [List.map_append]; rfl))) | (with_reducible exact trivial) | ((first | (with_reducible refine xdrop_app (by rw [List.length_map]; omega) ?_) | (with_reducible refine XDrop.desk (by assumption) ?_) | (with_reducible first | refine XArr.ints (by omega) (by omega) (by omega) ?_ | refine XArr.intsA (by omega) (by omega) (by omega) ?_) | ((with_reducible first | refine XArr.nats ?_ ?_ ?_ | refine XArr.natsA ?_ ?_ ?_ | refine XArr.ptr ?_ ?_ ?_); omega; omega)); conv => whnf) | (apply Walk.drawN (id := 5) tab_ok mixed_ok [] [] (hsU _) [_, _, _, _, _, _, _, _, _, _] (by kernel_rfl) rfl) | (apply Walk.drawN (id := 14) tab_ok mixed_ok [] [28, 30] (hsC [_, _, _]) [_, _, _, _, _, _, _, _, _, _, _, _, _, _, _, _, _, _, _, _, _, _, _, _, _, _, _, _, _, _, _] (by kernel_rfl) rfl) | (apply Walk.drawN (id := 28) tab_ok mixed_ok [] [] (hsU _) [_, _, _, _, _, _, _, _, _, _, _, _] (by kernel_rfl) rfl) | (apply Walk.drawN (id := 29) tab_ok mixed_ok [] [] (hsU _) [_, _, _, _, _, _, _, _, _, _, _, _, _] (by kernel_rfl) rfl) | ((first | (with_reducible apply XNext.mk) | (refine xtk_vec rfl ?_) | (refine xn_vec rfl ?_) | (refine xspl_vecA ?_)); conv => whnf) | ((with_reducible apply XBr.mk') <;> (intro h; conv => whnf))
                  refine XAgainG.go (k + 1) [.cells ((vecF 121 fun q => if q < b.room.toNat + 1 then smF b l (k + 1) q else 0).map (.int .i64)), .cells (moC (moB b m))] (by omega) (by omega) ?_ ⟨rfl, rfl, rfl, rfl, rfl, rfl, rfl, rfl, ?_, trivial⟩
                  · rw [show vecF 121 (smF b l (k + 1)) = vecF 121 fun q => if q < b.room.toNat + 1 then smF b l (k + 1) q else 0 from vecF_congr fun q _ => by
                      by_cases hq : q < b.room.toNat + 1
                      · rw [if_pos hq]
                      · rw [if_neg hq, hsk, if_neg (by omega)]]
                    rfl
                  · exact congrArg (fun z => some (AV.int .i64 z)) (by omega)
              · obtain rfl : k = b.months.length := by omega
                have hln : (((leastR b).toNat : Nat) : Int) = leastR b := by omega
                rw [← hln] at hle
                repeat' first | ((with_reducible first | apply XBr.tt | apply XBr.ff | apply Chk.go | apply ChkA.go | apply ChkF.go | apply ChkB.go | apply XArr.pim0 | apply XArr.pim1); conv => whnf) | (with_reducible apply XBr.not) | ((with_reducible apply XBr.dec) <;> (intro h; first | (exfalso; omega) | ((try simp only [List.length_map] at h); first | (exfalso; omega) | (conv => whnf)))) | ((with_reducible first | apply XBr.beq | apply XBr.bne) <;> (intro h; first | (exfalso; omega) | (conv => whnf))) | ((with_reducible refine XInt.i64 (by omega) (by omega) ?_); conv => whnf) | ((with_reducible refine XHold.mk ?_ ?_); (first | omega | rfl | decide | exact ⟨rfl, by decide, rfl⟩ | exact wideI _ | exact widePr _ | exact wideSk _ | (unfold Room; constructor <;> ((try simp) <;> omega)) | exact ⟨rfl, by simp only [List.length_map], by unfold Room; constructor <;> ((try simp) <;> omega)⟩ | exact ⟨by omega, by omega, by unfold Room; constructor <;> ((try simp) <;> omega)⟩); conv => whnf) | ((first | ((with_reducible refine XIx.nat ?_ ?_ ?_); omega; (intro _; rfl)) | ((with_reducible refine XIx.map ?_ ?_ ?_ ?_); omega; omega; (intro _; rfl))); conv => whnf) | (with_reducible apply XAnd.mk) | (exact XSame.mk rfl rfl) | (exact XSame.mk (by first | rfl | (simp only [List.map_append, List.length_append, List.length_map]; done) | (simp only [List.map_append, List.length_append, List.length_map]; rfl)) (by first | rfl | (simp only [List.map_append]; done) | (simp only [List.map_append]; rfl))) | (with_reducible exact trivial) | ((first | (with_reducible refine xdrop_app (by rw [List.length_map]; omega) ?_) | (with_reducible refine XDrop.desk (by assumption) ?_) | (with_reducible first | refine XArr.ints (by omega) (by omega) (by omega) ?_ | refine XArr.intsA (by omega) (by omega) (by omega) ?_) | ((with_reducible first | refine XArr.nats ?_ ?_ ?_ | refine XArr.natsA ?_ ?_ ?_ | refine XArr.ptr ?_ ?_ ?_); omega; omega)); conv => whnf) | (apply Walk.drawN (id := 5) tab_ok mixed_ok [] [] (hsU _) [_, _, _, _, _, _, _, _, _, _] (by kernel_rfl) rfl) | (apply Walk.drawN (id := 14) tab_ok mixed_ok [] [28, 30] (hsC [_, _, _]) [_, _, _, _, _, _, _, _, _, _, _, _, _, _, _, _, _, _, _, _, _, _, _, _, _, _, _, _, _, _, _] (by kernel_rfl) rfl) | (apply Walk.drawN (id := 28) tab_ok mixed_ok [] [] (hsU _) [_, _, _, _, _, _, _, _, _, _, _, _] (by kernel_rfl) rfl) | (apply Walk.drawN (id := 29) tab_ok mixed_ok [] [] (hsU _) [_, _, _, _, _, _, _, _, _, _, _, _, _] (by kernel_rfl) rfl) | ((first | (with_reducible apply XNext.mk) | (refine XCall.ret hle ?_)); conv => whnf) | ((with_reducible apply XBr.mk') <;> (intro h; conv => whnf))
                have hln2 : (ruleN b : Int) = min b.room (b.first + b.unsure) + 1 := by unfold ruleN; omega
                have hln3 : (leastR b).toNat < ruleN b := by
                  have : leastR b = max 0 (b.first - b.unsure) := rfl
                  omega
                have hml := fun (c : Nat) (hc : (leastR b).toNat ≤ c) => mnP_b (F := smF b l b.months.length) (B := 120 * (b.months.length : Int)) (by omega) (lo := (leastR b).toNat) c hc fun q _ _ => by have := hsm b.months.length (Nat.le_refl _) q; omega
                refine Walk.loopK tab_ok [] [(2, _), (4, _), (5, _), (6, _), (10, _), (13, _)] ⟨rfl, rfl, rfl, rfl, rfl, rfl, trivial⟩ (fun c : Nat => (leastR b).toNat ≤ c ∧ c ≤ ruleN b) (fun c => [(21, .int .i64 (mnP (smF b l b.months.length) (leastR b).toNat c)), (22, natA c)]) (fun _ => [.grow 27 false (ruleAs b l), .cells ((vecF 121 (smF b l b.months.length)).map (.int .i64))]) (fun c => ruleN b - c) (leastR b).toNat ⟨Nat.le_refl _, by omega⟩ rfl ⟨congrArg (fun z => some (AV.int .i64 z)) (mnP_nil _ _).symm, rfl, trivial⟩ ?_
                rintro c ⟨hc1, hc2⟩
                have hmc := hml c hc1
                have hsc := hsm b.months.length (Nat.le_refl _) c
                have hmn := mnP_succ (F := smF b l b.months.length) hc1
                unfold mnS at hmn
                generalize hz : mnP (smF b l b.months.length) (leastR b).toNat c = z at hmc hmn
                conv => whnf
                by_cases hcl : c < ruleN b
                · skip
                  repeat' first | ((with_reducible first | apply XBr.tt | apply XBr.ff | apply Chk.go | apply ChkA.go | apply ChkF.go | apply ChkB.go | apply XArr.pim0 | apply XArr.pim1); conv => whnf) | (with_reducible apply XBr.not) | ((with_reducible apply XBr.dec) <;> (intro h; first | (exfalso; omega) | ((try simp only [List.length_map] at h); first | (exfalso; omega) | (conv => whnf)))) | ((with_reducible first | apply XBr.beq | apply XBr.bne) <;> (intro h; first | (exfalso; omega) | (conv => whnf))) | ((with_reducible refine XInt.i64 (by omega) (by omega) ?_); conv => whnf) | ((with_reducible refine XHold.mk ?_ ?_); (first | omega | rfl | decide | exact ⟨rfl, by decide, rfl⟩ | exact wideI _ | exact widePr _ | exact wideSk _ | (unfold Room; constructor <;> ((try simp) <;> omega)) | exact ⟨rfl, by simp only [List.length_map], by unfold Room; constructor <;> ((try simp) <;> omega)⟩ | exact ⟨by omega, by omega, by unfold Room; constructor <;> ((try simp) <;> omega)⟩); conv => whnf) | ((first | ((with_reducible refine XIx.nat ?_ ?_ ?_); omega; (intro _; rfl)) | ((with_reducible refine XIx.map ?_ ?_ ?_ ?_); omega; omega; (intro _; rfl))); conv => whnf) | (with_reducible apply XAnd.mk) | (exact XSame.mk rfl rfl) | (exact XSame.mk (by first | rfl | (simp only [List.map_append, List.length_append, List.length_map]; done) | (simp only [List.map_append, List.length_append, List.length_map]; rfl)) (by first | rfl | (simp only [List.map_append]; done) | (simp only [List.map_append]; rfl))) | (with_reducible exact trivial) | ((first | (with_reducible refine xdrop_app (by rw [List.length_map]; omega) ?_) | (with_reducible refine XDrop.desk (by assumption) ?_) | (with_reducible first | refine XArr.ints (by omega) (by omega) (by omega) ?_ | refine XArr.intsA (by omega) (by omega) (by omega) ?_) | ((with_reducible first | refine XArr.nats ?_ ?_ ?_ | refine XArr.natsA ?_ ?_ ?_ | refine XArr.ptr ?_ ?_ ?_); omega; omega)); conv => whnf) | (apply Walk.drawN (id := 5) tab_ok mixed_ok [] [] (hsU _) [_, _, _, _, _, _, _, _, _, _] (by kernel_rfl) rfl) | (apply Walk.drawN (id := 14) tab_ok mixed_ok [] [28, 30] (hsC [_, _, _]) [_, _, _, _, _, _, _, _, _, _, _, _, _, _, _, _, _, _, _, _, _, _, _, _, _, _, _, _, _, _, _] (by kernel_rfl) rfl) | (apply Walk.drawN (id := 28) tab_ok mixed_ok [] [] (hsU _) [_, _, _, _, _, _, _, _, _, _, _, _] (by kernel_rfl) rfl) | (apply Walk.drawN (id := 29) tab_ok mixed_ok [] [] (hsU _) [_, _, _, _, _, _, _, _, _, _, _, _, _] (by kernel_rfl) rfl) | ((first | (with_reducible apply XNext.mk) | (refine xdrop_vec c (by omega) (by omega) ?_)); conv => whnf) | ((with_reducible apply XBr.mk') <;> (intro h; conv => whnf))
                  all_goals refine XAgain.go (c + 1) ⟨by omega, by omega⟩ (by omega) rfl ⟨rfl, rfl, rfl, rfl, rfl, rfl, congrArg (fun z => some (AV.int .i64 z)) ?_, rfl, trivial⟩
                  all_goals (rw [hmn]; first | rw [if_pos (by omega)] | rw [if_neg (by omega)])
                · obtain rfl : c = ruleN b := by omega
                  repeat' first | ((with_reducible first | apply XBr.tt | apply XBr.ff | apply Chk.go | apply ChkA.go | apply ChkF.go | apply ChkB.go | apply XArr.pim0 | apply XArr.pim1); conv => whnf) | (with_reducible apply XBr.not) | ((with_reducible apply XBr.dec) <;> (intro h; first | (exfalso; omega) | ((try simp only [List.length_map] at h); first | (exfalso; omega) | (conv => whnf)))) | ((with_reducible first | apply XBr.beq | apply XBr.bne) <;> (intro h; first | (exfalso; omega) | (conv => whnf))) | ((with_reducible refine XInt.i64 (by omega) (by omega) ?_); conv => whnf) | ((with_reducible refine XHold.mk ?_ ?_); (first | omega | rfl | decide | exact ⟨rfl, by decide, rfl⟩ | exact wideI _ | exact widePr _ | exact wideSk _ | (unfold Room; constructor <;> ((try simp) <;> omega)) | exact ⟨rfl, by simp only [List.length_map], by unfold Room; constructor <;> ((try simp) <;> omega)⟩ | exact ⟨by omega, by omega, by unfold Room; constructor <;> ((try simp) <;> omega)⟩); conv => whnf) | ((first | ((with_reducible refine XIx.nat ?_ ?_ ?_); omega; (intro _; rfl)) | ((with_reducible refine XIx.map ?_ ?_ ?_ ?_); omega; omega; (intro _; rfl))); conv => whnf) | (with_reducible apply XAnd.mk) | (exact XSame.mk rfl rfl) | (exact XSame.mk (by first | rfl | (simp only [List.map_append, List.length_append, List.length_map]; done) | (simp only [List.map_append, List.length_append, List.length_map]; rfl)) (by first | rfl | (simp only [List.map_append]; done) | (simp only [List.map_append]; rfl))) | (with_reducible exact trivial) | ((first | (with_reducible refine xdrop_app (by rw [List.length_map]; omega) ?_) | (with_reducible refine XDrop.desk (by assumption) ?_) | (with_reducible first | refine XArr.ints (by omega) (by omega) (by omega) ?_ | refine XArr.intsA (by omega) (by omega) (by omega) ?_) | ((with_reducible first | refine XArr.nats ?_ ?_ ?_ | refine XArr.natsA ?_ ?_ ?_ | refine XArr.ptr ?_ ?_ ?_); omega; omega)); conv => whnf) | (apply Walk.drawN (id := 5) tab_ok mixed_ok [] [] (hsU _) [_, _, _, _, _, _, _, _, _, _] (by kernel_rfl) rfl) | (apply Walk.drawN (id := 14) tab_ok mixed_ok [] [28, 30] (hsC [_, _, _]) [_, _, _, _, _, _, _, _, _, _, _, _, _, _, _, _, _, _, _, _, _, _, _, _, _, _, _, _, _, _, _] (by kernel_rfl) rfl) | (apply Walk.drawN (id := 28) tab_ok mixed_ok [] [] (hsU _) [_, _, _, _, _, _, _, _, _, _, _, _] (by kernel_rfl) rfl) | (apply Walk.drawN (id := 29) tab_ok mixed_ok [] [] (hsU _) [_, _, _, _, _, _, _, _, _, _, _, _, _] (by kernel_rfl) rfl) | ((with_reducible apply XNext.mk); conv => whnf) | ((with_reducible apply XBr.mk') <;> (intro h; conv => whnf))
                  rw [hz]
                  exact ⟨Froz.tup (.cons (Froz.grow rfl hrl (by rw [← hrA]; exact rowsV_low b l _ _)) (.cons (.low rfl) (.cons (.low rfl) .nil)))⟩
  · rw [if_pos hE]
    obtain ⟨d, hd, hd2⟩ := bSharedA_eq b share
    rw [hd] at hsh
    generalize bShareE b share = e at hsh hE
    refine Comp.body (T := tab) (res := [.tmp 4, .tmp 5, .tmp 6]) tab_ok [] Try.func51 rfl (by kernel_rfl) Try.ntmps51 rfl (by simp only [List.length_cons, List.length_nil]; decide) (by simp only [lowL, bedL, AV.low]; rfl) ?_; conv => whnf
    repeat' first | ((with_reducible first | apply XBr.tt | apply XBr.ff | apply Chk.go | apply ChkA.go | apply ChkF.go | apply ChkB.go | apply XArr.pim0 | apply XArr.pim1); conv => whnf) | (with_reducible apply XBr.not) | ((with_reducible apply XBr.dec) <;> (intro h; first | (exfalso; omega) | ((try simp only [List.length_map] at h); first | (exfalso; omega) | (conv => whnf)))) | ((with_reducible first | apply XBr.beq | apply XBr.bne) <;> (intro h; first | (exfalso; omega) | (conv => whnf))) | ((with_reducible refine XInt.i64 (by omega) (by omega) ?_); conv => whnf) | ((with_reducible refine XHold.mk ?_ ?_); (first | omega | rfl | decide | exact ⟨rfl, by decide, rfl⟩ | exact wideI _ | exact widePr _ | exact wideSk _ | (unfold Room; constructor <;> ((try simp) <;> omega)) | exact ⟨rfl, by simp only [List.length_map], by unfold Room; constructor <;> ((try simp) <;> omega)⟩ | exact ⟨by omega, by omega, by unfold Room; constructor <;> ((try simp) <;> omega)⟩); conv => whnf) | ((first | ((with_reducible refine XIx.nat ?_ ?_ ?_); omega; (intro _; rfl)) | ((with_reducible refine XIx.map ?_ ?_ ?_ ?_); omega; omega; (intro _; rfl))); conv => whnf) | (with_reducible apply XAnd.mk) | (exact XSame.mk rfl rfl) | (exact XSame.mk (by first | rfl | (simp only [List.map_append, List.length_append, List.length_map]; done) | (simp only [List.map_append, List.length_append, List.length_map]; rfl)) (by first | rfl | (simp only [List.map_append]; done) | (simp only [List.map_append]; rfl))) | (with_reducible exact trivial) | ((first | (with_reducible refine xdrop_app (by rw [List.length_map]; omega) ?_) | (with_reducible refine XDrop.desk (by assumption) ?_) | (with_reducible first | refine XArr.ints (by omega) (by omega) (by omega) ?_ | refine XArr.intsA (by omega) (by omega) (by omega) ?_) | ((with_reducible first | refine XArr.nats ?_ ?_ ?_ | refine XArr.natsA ?_ ?_ ?_ | refine XArr.ptr ?_ ?_ ?_); omega; omega)); conv => whnf) | (apply Walk.drawN (id := 5) tab_ok mixed_ok [] [] (hsU _) [_, _, _, _, _, _, _, _, _, _] (by kernel_rfl) rfl) | (apply Walk.drawN (id := 14) tab_ok mixed_ok [] [28, 30] (hsC [_, _, _]) [_, _, _, _, _, _, _, _, _, _, _, _, _, _, _, _, _, _, _, _, _, _, _, _, _, _, _, _, _, _, _] (by kernel_rfl) rfl) | (apply Walk.drawN (id := 28) tab_ok mixed_ok [] [] (hsU _) [_, _, _, _, _, _, _, _, _, _, _, _] (by kernel_rfl) rfl) | (apply Walk.drawN (id := 29) tab_ok mixed_ok [] [] (hsU _) [_, _, _, _, _, _, _, _, _, _, _, _, _] (by kernel_rfl) rfl) | ((first | (with_reducible apply XNext.mk) | (refine XCall.ret hsh ?_)); conv => whnf) | ((with_reducible apply XBr.mk') <;> (intro h; conv => whnf))
    exact ⟨.low rfl⟩
end GA
end

section
namespace GA
open Go Go.RowKit Go.Proofs
set_option pp.deepTerms true
set_option maxRecDepth 8000
set_option linter.unusedVariables false
set_option linter.unusedSimpArgs false

theorem spoilt_c (b : Bd) (ok : BedOk b) (m n : Nat) (hm : m < b.months.length) (hn : (n : Int) ≤ b.room) : Comp Try.prog 147 [bedA b, moA (moB b m), natA n] (.int .i64 (lieR b m n)) := by
  have r1 := ok.r1
  have r2 := ok.r2
  have hmo := ok.mo' hm
  have hgb := fun (sp st : Int) (q : InC b m sp st) => grC_b ok hm (n := n) q
  have hgr := fun (sp st : Int) (q : InC b m sp st) => refGross_c b (moB b m) n sp st (by omega) (by omega) hmo.1 hmo.2.1 (by omega) (by omega) (by have := q.1; omega) (by have := q.2.1; omega) (by have := q.2.2.1; omega) (by have := q.2.2.2; omega)
  change ∀ (sp st : Int) (q : InC b m sp st), Comp Try.prog _ _ (.int .i64 (grC b m n sp st)) at hgr
  have hgw : lieR b m n = grC b m n (moB b m).pl (moB b m).th := rfl
  have hlb := lieR_b ok (j := m) (n := n) hm
  refine Comp.body (T := tab) (res := [.tmp 6]) tab_ok [] Try.func147 rfl (by kernel_rfl) Try.ntmps147 rfl (by simp only [List.length_cons, List.length_nil]; decide) (by simp only [lowL, bedL, moL, AV.low]; rfl) ?_; conv => whnf
  repeat' first | ((with_reducible first | apply XBr.tt | apply XBr.ff | apply Chk.go | apply ChkA.go | apply ChkF.go | apply ChkB.go | apply XArr.pim0 | apply XArr.pim1); conv => whnf) | (with_reducible apply XBr.not) | ((with_reducible apply XBr.dec) <;> (intro h; first | (exfalso; omega) | ((try simp only [List.length_map] at h); first | (exfalso; omega) | (conv => whnf)))) | ((with_reducible first | apply XBr.beq | apply XBr.bne) <;> (intro h; first | (exfalso; omega) | (conv => whnf))) | ((with_reducible refine XInt.i64 (by omega) (by omega) ?_); conv => whnf) | ((with_reducible refine XHold.mk ?_ ?_); (first | omega | rfl | decide | exact ⟨rfl, by decide, rfl⟩ | exact wideI _ | exact widePr _ | exact wideSk _ | (unfold Room; constructor <;> ((try simp) <;> omega)) | exact ⟨rfl, by simp only [List.length_map], by unfold Room; constructor <;> ((try simp) <;> omega)⟩ | exact ⟨by omega, by omega, by unfold Room; constructor <;> ((try simp) <;> omega)⟩); conv => whnf) | ((first | ((with_reducible refine XIx.nat ?_ ?_ ?_); omega; (intro _; rfl)) | ((with_reducible refine XIx.map ?_ ?_ ?_ ?_); omega; omega; (intro _; rfl))); conv => whnf) | (with_reducible apply XAnd.mk) | (exact XSame.mk rfl rfl) | (exact XSame.mk (by first | rfl | (simp only [List.map_append, List.length_append, List.length_map]; done) | (simp only [List.map_append, List.length_append, List.length_map]; rfl)) (by first | rfl | (simp only [List.map_append]; done) | (simp only [List.map_append]; rfl))) | (with_reducible exact trivial) | ((first | (with_reducible refine xdrop_app (by rw [List.length_map]; omega) ?_) | (with_reducible refine XDrop.desk (by assumption) ?_) | (with_reducible first | refine XArr.ints (by omega) (by omega) (by omega) ?_ | refine XArr.intsA (by omega) (by omega) (by omega) ?_) | ((with_reducible first | refine XArr.nats ?_ ?_ ?_ | refine XArr.natsA ?_ ?_ ?_ | refine XArr.ptr ?_ ?_ ?_); omega; omega) | (with_reducible apply XNext.mk)); conv => whnf) | ((with_reducible apply XBr.mk') <;> (intro h; conv => whnf))
  refine Walk.loopK tab_ok [] [(2, _), (3, _), (4, _), (6, _)] ⟨rfl, rfl, rfl, rfl, trivial⟩ (fun q : Int × Int => (moB b m).pl ≤ q.1 ∧ q.1 ≤ (moB b m).ph + 1 ∧ lieR b m n ≤ q.2 ∧ q.2 ≤ b.room ∧ ((moB b m).pl < q.1 → q.2 = lieR b m n)) (fun q => [(7, .int .i64 q.2), (8, .int .i64 q.1)]) (fun _ => []) (fun q => ((moB b m).ph + 1 - q.1).toNat) ((moB b m).pl, b.room) ⟨Int.le_refl _, by dsimp only; omega, by dsimp only; omega, Int.le_refl _, fun h => absurd h (by dsimp only; omega)⟩ rfl ⟨rfl, rfl, trivial⟩ ?_
  rintro ⟨sp, v⟩ ⟨h1, h2, h3, h4, h5⟩
  dsimp only at h1 h2 h3 h4 h5 ⊢
  conv => whnf
  by_cases hlt : sp ≤ (moB b m).ph
  · skip
    repeat' first | ((with_reducible first | apply XBr.tt | apply XBr.ff | apply Chk.go | apply ChkA.go | apply ChkF.go | apply ChkB.go | apply XArr.pim0 | apply XArr.pim1); conv => whnf) | (with_reducible apply XBr.not) | ((with_reducible apply XBr.dec) <;> (intro h; first | (exfalso; omega) | ((try simp only [List.length_map] at h); first | (exfalso; omega) | (conv => whnf)))) | ((with_reducible first | apply XBr.beq | apply XBr.bne) <;> (intro h; first | (exfalso; omega) | (conv => whnf))) | ((with_reducible refine XInt.i64 (by omega) (by omega) ?_); conv => whnf) | ((with_reducible refine XHold.mk ?_ ?_); (first | omega | rfl | decide | exact ⟨rfl, by decide, rfl⟩ | exact wideI _ | exact widePr _ | exact wideSk _ | (unfold Room; constructor <;> ((try simp) <;> omega)) | exact ⟨rfl, by simp only [List.length_map], by unfold Room; constructor <;> ((try simp) <;> omega)⟩ | exact ⟨by omega, by omega, by unfold Room; constructor <;> ((try simp) <;> omega)⟩); conv => whnf) | ((first | ((with_reducible refine XIx.nat ?_ ?_ ?_); omega; (intro _; rfl)) | ((with_reducible refine XIx.map ?_ ?_ ?_ ?_); omega; omega; (intro _; rfl))); conv => whnf) | (with_reducible apply XAnd.mk) | (exact XSame.mk rfl rfl) | (exact XSame.mk (by first | rfl | (simp only [List.map_append, List.length_append, List.length_map]; done) | (simp only [List.map_append, List.length_append, List.length_map]; rfl)) (by first | rfl | (simp only [List.map_append]; done) | (simp only [List.map_append]; rfl))) | (with_reducible exact trivial) | ((first | (with_reducible refine xdrop_app (by rw [List.length_map]; omega) ?_) | (with_reducible refine XDrop.desk (by assumption) ?_) | (with_reducible first | refine XArr.ints (by omega) (by omega) (by omega) ?_ | refine XArr.intsA (by omega) (by omega) (by omega) ?_) | ((with_reducible first | refine XArr.nats ?_ ?_ ?_ | refine XArr.natsA ?_ ?_ ?_ | refine XArr.ptr ?_ ?_ ?_); omega; omega) | (with_reducible apply XNext.mk)); conv => whnf) | ((with_reducible apply XBr.mk') <;> (intro h; conv => whnf))
    refine Walk.loopK tab_ok [] [(2, _), (3, _), (4, _), (6, _), (8, _)] ⟨rfl, rfl, rfl, rfl, rfl, trivial⟩ (fun q : Int × Int => (moB b m).tl ≤ q.1 ∧ q.1 ≤ (moB b m).th + 1 ∧ lieR b m n ≤ q.2 ∧ q.2 ≤ b.room ∧ ((moB b m).pl < sp ∨ (moB b m).th < q.1 → q.2 = lieR b m n)) (fun q => [(7, .int .i64 q.2), (9, .int .i64 q.1)]) (fun _ => []) (fun q => ((moB b m).th + 1 - q.1).toNat) ((moB b m).tl, v) ⟨Int.le_refl _, by dsimp only; omega, h3, h4, fun h => h5 (by dsimp only at h; omega)⟩ rfl ⟨rfl, rfl, trivial⟩ ?_
    rintro ⟨st, w⟩ ⟨t1, t2, t3, t4, t5⟩
    dsimp only at t1 t2 t3 t4 t5 ⊢
    conv => whnf
    by_cases hltt : st ≤ (moB b m).th
    · have hin : InC b m sp st := ⟨h1, hlt, t1, hltt⟩
      have hg := hgr sp st hin
      have hb := hgb sp st hin
      have hcv : ¬ (moB b m).pl < sp → (moB b m).th < st + 1 → grC b m n sp st = lieR b m n := fun a1 a2 => by
        rw [hgw, show sp = (moB b m).pl by omega, show st = (moB b m).th by omega]
      generalize grC b m n sp st = g at hg hb hcv
      repeat' first | ((with_reducible first | apply XBr.tt | apply XBr.ff | apply Chk.go | apply ChkA.go | apply ChkF.go | apply ChkB.go | apply XArr.pim0 | apply XArr.pim1); conv => whnf) | (with_reducible apply XBr.not) | ((with_reducible apply XBr.dec) <;> (intro h; first | (exfalso; omega) | ((try simp only [List.length_map] at h); first | (exfalso; omega) | (conv => whnf)))) | ((with_reducible first | apply XBr.beq | apply XBr.bne) <;> (intro h; first | (exfalso; omega) | (conv => whnf))) | ((with_reducible refine XInt.i64 (by omega) (by omega) ?_); conv => whnf) | ((with_reducible refine XHold.mk ?_ ?_); (first | omega | rfl | decide | exact ⟨rfl, by decide, rfl⟩ | exact wideI _ | exact widePr _ | exact wideSk _ | (unfold Room; constructor <;> ((try simp) <;> omega)) | exact ⟨rfl, by simp only [List.length_map], by unfold Room; constructor <;> ((try simp) <;> omega)⟩ | exact ⟨by omega, by omega, by unfold Room; constructor <;> ((try simp) <;> omega)⟩); conv => whnf) | ((first | ((with_reducible refine XIx.nat ?_ ?_ ?_); omega; (intro _; rfl)) | ((with_reducible refine XIx.map ?_ ?_ ?_ ?_); omega; omega; (intro _; rfl))); conv => whnf) | (with_reducible apply XAnd.mk) | (exact XSame.mk rfl rfl) | (exact XSame.mk (by first | rfl | (simp only [List.map_append, List.length_append, List.length_map]; done) | (simp only [List.map_append, List.length_append, List.length_map]; rfl)) (by first | rfl | (simp only [List.map_append]; done) | (simp only [List.map_append]; rfl))) | (with_reducible exact trivial) | ((first | (with_reducible refine xdrop_app (by rw [List.length_map]; omega) ?_) | (with_reducible refine XDrop.desk (by assumption) ?_) | (with_reducible first | refine XArr.ints (by omega) (by omega) (by omega) ?_ | refine XArr.intsA (by omega) (by omega) (by omega) ?_) | ((with_reducible first | refine XArr.nats ?_ ?_ ?_ | refine XArr.natsA ?_ ?_ ?_ | refine XArr.ptr ?_ ?_ ?_); omega; omega) | (with_reducible apply XNext.mk) | (refine XCall.ret hg ?_)); conv => whnf) | ((with_reducible apply XBr.mk') <;> (intro h; conv => whnf))
      refine XAgain.go (st + 1, min w g) ⟨by dsimp only; omega, by dsimp only; omega, by dsimp only; omega, by dsimp only; omega, fun h => ?_⟩ (by dsimp only; omega) rfl ⟨rfl, rfl, rfl, rfl, rfl, rfl, rfl, trivial⟩
      dsimp only at h ⊢
      by_cases hp : (moB b m).pl < sp
      · have := t5 (.inl hp); omega
      · have := hcv hp (by omega); omega
    · skip
      repeat' first | ((with_reducible first | apply XBr.tt | apply XBr.ff | apply Chk.go | apply ChkA.go | apply ChkF.go | apply ChkB.go | apply XArr.pim0 | apply XArr.pim1); conv => whnf) | (with_reducible apply XBr.not) | ((with_reducible apply XBr.dec) <;> (intro h; first | (exfalso; omega) | ((try simp only [List.length_map] at h); first | (exfalso; omega) | (conv => whnf)))) | ((with_reducible first | apply XBr.beq | apply XBr.bne) <;> (intro h; first | (exfalso; omega) | (conv => whnf))) | ((with_reducible refine XInt.i64 (by omega) (by omega) ?_); conv => whnf) | ((with_reducible refine XHold.mk ?_ ?_); (first | omega | rfl | decide | exact ⟨rfl, by decide, rfl⟩ | exact wideI _ | exact widePr _ | exact wideSk _ | (unfold Room; constructor <;> ((try simp) <;> omega)) | exact ⟨rfl, by simp only [List.length_map], by unfold Room; constructor <;> ((try simp) <;> omega)⟩ | exact ⟨by omega, by omega, by unfold Room; constructor <;> ((try simp) <;> omega)⟩); conv => whnf) | ((first | ((with_reducible refine XIx.nat ?_ ?_ ?_); omega; (intro _; rfl)) | ((with_reducible refine XIx.map ?_ ?_ ?_ ?_); omega; omega; (intro _; rfl))); conv => whnf) | (with_reducible apply XAnd.mk) | (exact XSame.mk rfl rfl) | (exact XSame.mk (by first | rfl | (simp only [List.map_append, List.length_append, List.length_map]; done) | (simp only [List.map_append, List.length_append, List.length_map]; rfl)) (by first | rfl | (simp only [List.map_append]; done) | (simp only [List.map_append]; rfl))) | (with_reducible exact trivial) | ((first | (with_reducible refine xdrop_app (by rw [List.length_map]; omega) ?_) | (with_reducible refine XDrop.desk (by assumption) ?_) | (with_reducible first | refine XArr.ints (by omega) (by omega) (by omega) ?_ | refine XArr.intsA (by omega) (by omega) (by omega) ?_) | ((with_reducible first | refine XArr.nats ?_ ?_ ?_ | refine XArr.natsA ?_ ?_ ?_ | refine XArr.ptr ?_ ?_ ?_); omega; omega) | (with_reducible apply XNext.mk)); conv => whnf) | ((with_reducible apply XBr.mk') <;> (intro h; conv => whnf))
      exact XAgain.go (sp + 1, w) ⟨by dsimp only; omega, by dsimp only; omega, t3, t4, fun _ => t5 (.inr (by omega))⟩ (by dsimp only; omega) rfl ⟨rfl, rfl, rfl, rfl, rfl, rfl, trivial⟩
  · have := h5 (by omega)
    repeat' first | ((with_reducible first | apply XBr.tt | apply XBr.ff | apply Chk.go | apply ChkA.go | apply ChkF.go | apply ChkB.go | apply XArr.pim0 | apply XArr.pim1); conv => whnf) | (with_reducible apply XBr.not) | ((with_reducible apply XBr.dec) <;> (intro h; first | (exfalso; omega) | ((try simp only [List.length_map] at h); first | (exfalso; omega) | (conv => whnf)))) | ((with_reducible first | apply XBr.beq | apply XBr.bne) <;> (intro h; first | (exfalso; omega) | (conv => whnf))) | ((with_reducible refine XInt.i64 (by omega) (by omega) ?_); conv => whnf) | ((with_reducible refine XHold.mk ?_ ?_); (first | omega | rfl | decide | exact ⟨rfl, by decide, rfl⟩ | exact wideI _ | exact widePr _ | exact wideSk _ | (unfold Room; constructor <;> ((try simp) <;> omega)) | exact ⟨rfl, by simp only [List.length_map], by unfold Room; constructor <;> ((try simp) <;> omega)⟩ | exact ⟨by omega, by omega, by unfold Room; constructor <;> ((try simp) <;> omega)⟩); conv => whnf) | ((first | ((with_reducible refine XIx.nat ?_ ?_ ?_); omega; (intro _; rfl)) | ((with_reducible refine XIx.map ?_ ?_ ?_ ?_); omega; omega; (intro _; rfl))); conv => whnf) | (with_reducible apply XAnd.mk) | (exact XSame.mk rfl rfl) | (exact XSame.mk (by first | rfl | (simp only [List.map_append, List.length_append, List.length_map]; done) | (simp only [List.map_append, List.length_append, List.length_map]; rfl)) (by first | rfl | (simp only [List.map_append]; done) | (simp only [List.map_append]; rfl))) | (with_reducible exact trivial) | ((first | (with_reducible refine xdrop_app (by rw [List.length_map]; omega) ?_) | (with_reducible refine XDrop.desk (by assumption) ?_) | (with_reducible first | refine XArr.ints (by omega) (by omega) (by omega) ?_ | refine XArr.intsA (by omega) (by omega) (by omega) ?_) | ((with_reducible first | refine XArr.nats ?_ ?_ ?_ | refine XArr.natsA ?_ ?_ ?_ | refine XArr.ptr ?_ ?_ ?_); omega; omega) | (with_reducible apply XNext.mk)); conv => whnf) | ((with_reducible apply XBr.mk') <;> (intro h; conv => whnf))
    exact XOut.int this
theorem refKept_c (b : Bd) (ok : BedOk b) (nl : Bool) (l : List Int) (share : Int) (hl : l.length = b.months.length + 1) (hb : ∀ x ∈ l, 0 ≤ x ∧ x ≤ b.room) : Comp Try.prog 71 [bedA b, .sl nl (ints l), .int .i64 share] (.bool (decide (KeptP b l share))) := by
  have m1 := ok.m1
  have m2 := ok.m2
  have r1 := ok.r1
  have r2 := ok.r2
  have e1 : ((b.months.map moA).length : Int) = b.months.length := by rw [List.length_map]
  have e2 : ((ints l).length : Int) = b.months.length + 1 := by rw [ints_len]; omega
  have hlv : ∀ m, m ≤ b.months.length → 0 ≤ l.getD m default ∧ l.getD m default ≤ b.room := fun m hm => hb _ (getD_mem (by omega))
  refine Comp.body (T := tab) (res := [.tmp 6]) tab_ok [] Try.func71 rfl (by kernel_rfl) Try.ntmps71 rfl (by simp only [List.length_cons, List.length_nil]; decide) (by simp only [lowL, bedL, AV.low, lowI]; rfl) ?_; conv => whnf
  repeat' first | ((with_reducible first | apply XBr.tt | apply XBr.ff | apply Chk.go | apply ChkA.go | apply ChkF.go | apply ChkB.go | apply XArr.pim0 | apply XArr.pim1); conv => whnf) | (with_reducible apply XBr.not) | ((with_reducible apply XBr.dec) <;> (intro h; first | (exfalso; omega) | ((try simp only [List.length_map] at h); first | (exfalso; omega) | (conv => whnf)))) | ((with_reducible first | apply XBr.beq | apply XBr.bne) <;> (intro h; first | (exfalso; omega) | (conv => whnf))) | ((with_reducible refine XInt.i64 (by omega) (by omega) ?_); conv => whnf) | ((with_reducible refine XHold.mk ?_ ?_); (first | omega | rfl | decide | exact ⟨rfl, by decide, rfl⟩ | exact wideI _ | exact widePr _ | exact wideSk _ | (unfold Room; constructor <;> ((try simp) <;> omega)) | exact ⟨rfl, by simp only [List.length_map], by unfold Room; constructor <;> ((try simp) <;> omega)⟩ | exact ⟨by omega, by omega, by unfold Room; constructor <;> ((try simp) <;> omega)⟩); conv => whnf) | ((first | ((with_reducible refine XIx.nat ?_ ?_ ?_); omega; (intro _; rfl)) | ((with_reducible refine XIx.map ?_ ?_ ?_ ?_); omega; omega; (intro _; rfl))); conv => whnf) | (with_reducible apply XAnd.mk) | (exact XSame.mk rfl rfl) | (exact XSame.mk (by first | rfl | (simp only [List.map_append, List.length_append, List.length_map]; done) | (simp only [List.map_append, List.length_append, List.length_map]; rfl)) (by first | rfl | (simp only [List.map_append]; done) | (simp only [List.map_append]; rfl))) | (with_reducible exact trivial) | ((first | (with_reducible refine xdrop_app (by rw [List.length_map]; omega) ?_) | (with_reducible refine XDrop.desk (by assumption) ?_) | (with_reducible first | refine XArr.ints (by omega) (by omega) (by omega) ?_ | refine XArr.intsA (by omega) (by omega) (by omega) ?_) | ((with_reducible first | refine XArr.nats ?_ ?_ ?_ | refine XArr.natsA ?_ ?_ ?_ | refine XArr.ptr ?_ ?_ ?_); omega; omega)); conv => whnf) | (apply Walk.drawN (id := 7) tab_ok mixed_ok [] [] (hsU _) [_, _, _, _, _, _, _, _, _, _, _, _, _, _] (by kernel_rfl) rfl) | ((with_reducible apply XNext.mk); conv => whnf) | ((with_reducible apply XBr.mk') <;> (intro h; conv => whnf))
  refine Walk.loopK tab_ok [] [(1, _), (2, _), (3, _)] ⟨rfl, rfl, rfl, trivial⟩ (fun m : Nat => m ≤ b.months.length ∧ ∀ j, j < m → l.getD (j + 1) default ≤ lieR b j (l.getD j default).toNat) (fun m => [(7, natA m)]) (fun _ => []) (fun m => b.months.length - m) 0 ⟨Nat.zero_le _, fun j hj => by omega⟩ rfl ⟨rfl, trivial⟩ ?_
  rintro m ⟨hm, hq⟩
  conv => whnf
  by_cases hlt : m < b.months.length
  · have hv1 := hlv m (by omega)
    have hv2 := hlv (m + 1) (by omega)
    have hlx : l.getD ((m : Int) + 1).toNat default = l.getD (m + 1) default := congrArg (fun z => l.getD z default) (by omega : ((m : Int) + 1).toNat = m + 1)
    have hlm : (((l.getD m default).toNat : Nat) : Int) = l.getD m default := by omega
    repeat' first | ((with_reducible first | apply XBr.tt | apply XBr.ff | apply Chk.go | apply ChkA.go | apply ChkF.go | apply ChkB.go | apply XArr.pim0 | apply XArr.pim1); conv => whnf) | (with_reducible apply XBr.not) | ((with_reducible apply XBr.dec) <;> (intro h; first | (exfalso; omega) | ((try simp only [List.length_map] at h); first | (exfalso; omega) | (conv => whnf)))) | ((with_reducible first | apply XBr.beq | apply XBr.bne) <;> (intro h; first | (exfalso; omega) | (conv => whnf))) | ((with_reducible refine XInt.i64 (by omega) (by omega) ?_); conv => whnf) | ((with_reducible refine XHold.mk ?_ ?_); (first | omega | rfl | decide | exact ⟨rfl, by decide, rfl⟩ | exact wideI _ | exact widePr _ | exact wideSk _ | (unfold Room; constructor <;> ((try simp) <;> omega)) | exact ⟨rfl, by simp only [List.length_map], by unfold Room; constructor <;> ((try simp) <;> omega)⟩ | exact ⟨by omega, by omega, by unfold Room; constructor <;> ((try simp) <;> omega)⟩); conv => whnf) | ((first | ((with_reducible refine XIx.nat ?_ ?_ ?_); omega; (intro _; rfl)) | ((with_reducible refine XIx.map ?_ ?_ ?_ ?_); omega; omega; (intro _; rfl))); conv => whnf) | (with_reducible apply XAnd.mk) | (exact XSame.mk rfl rfl) | (exact XSame.mk (by first | rfl | (simp only [List.map_append, List.length_append, List.length_map]; done) | (simp only [List.map_append, List.length_append, List.length_map]; rfl)) (by first | rfl | (simp only [List.map_append]; done) | (simp only [List.map_append]; rfl))) | (with_reducible exact trivial) | ((first | (with_reducible refine xdrop_app (by rw [List.length_map]; omega) ?_) | (with_reducible refine XDrop.desk (by assumption) ?_) | (with_reducible first | refine XArr.ints (by omega) (by omega) (by omega) ?_ | refine XArr.intsA (by omega) (by omega) (by omega) ?_) | ((with_reducible first | refine XArr.nats ?_ ?_ ?_ | refine XArr.natsA ?_ ?_ ?_ | refine XArr.ptr ?_ ?_ ?_); omega; omega)); conv => whnf) | (apply Walk.drawN (id := 7) tab_ok mixed_ok [] [] (hsU _) [_, _, _, _, _, _, _, _, _, _, _, _, _, _] (by kernel_rfl) rfl) | ((with_reducible apply XNext.mk); conv => whnf) | ((with_reducible apply XBr.mk') <;> (intro h; conv => whnf))
    refine Walk.loopK tab_ok [] [(1, _), (2, _), (3, _), (7, _)] ⟨rfl, rfl, rfl, rfl, trivial⟩ (fun n : Nat => (l.getD m default).toNat ≤ n ∧ (n : Int) ≤ b.room + 1 ∧ ((l.getD m default).toNat < n → l.getD (m + 1) default ≤ lieR b m (l.getD m default).toNat)) (fun n => [(8, natA n)]) (fun _ => []) (fun n => (b.room + 1).toNat - n) (l.getD m default).toNat ⟨Nat.le_refl _, by omega, fun h => absurd h (Nat.lt_irrefl _)⟩ rfl ⟨congrArg (fun z => some (AV.int .i64 z)) hlm.symm, trivial⟩ ?_
    rintro n ⟨hn1, hn2, hn3⟩
    conv => whnf
    by_cases hltn : (n : Int) ≤ b.room
    · have hsp := spoilt_c b ok m n hlt hltn
      have hmn := lieR_mono ok hlt hn1
      have hlb := lieR_b ok (j := m) (n := n) hlt
      have hst : n = (l.getD m default).toNat → lieR b m n = lieR b m (l.getD m default).toNat := fun h => by rw [h]
      have hno : lieR b m (l.getD m default).toNat < l.getD (m + 1) default → decide (KeptP b l share) = false := fun h => decide_eq_false fun k => by
        have := k.1 m hlt; omega
      generalize lieR b m n = v at hsp hmn hlb hst
      generalize lieR b m (l.getD m default).toNat = v0 at hmn hn3 hst hno
      rw [← hlx] at hv2 hn3 hno
      repeat' first | ((with_reducible first | apply XBr.tt | apply XBr.ff | apply Chk.go | apply ChkA.go | apply ChkF.go | apply ChkB.go | apply XArr.pim0 | apply XArr.pim1); conv => whnf) | (with_reducible apply XBr.not) | ((with_reducible apply XBr.dec) <;> (intro h; first | (exfalso; omega) | ((try simp only [List.length_map] at h); first | (exfalso; omega) | (conv => whnf)))) | ((with_reducible first | apply XBr.beq | apply XBr.bne) <;> (intro h; first | (exfalso; omega) | (conv => whnf))) | ((with_reducible refine XInt.i64 (by omega) (by omega) ?_); conv => whnf) | ((with_reducible refine XHold.mk ?_ ?_); (first | omega | rfl | decide | exact ⟨rfl, by decide, rfl⟩ | exact wideI _ | exact widePr _ | exact wideSk _ | (unfold Room; constructor <;> ((try simp) <;> omega)) | exact ⟨rfl, by simp only [List.length_map], by unfold Room; constructor <;> ((try simp) <;> omega)⟩ | exact ⟨by omega, by omega, by unfold Room; constructor <;> ((try simp) <;> omega)⟩); conv => whnf) | ((first | ((with_reducible refine XIx.nat ?_ ?_ ?_); omega; (intro _; rfl)) | ((with_reducible refine XIx.map ?_ ?_ ?_ ?_); omega; omega; (intro _; rfl))); conv => whnf) | (with_reducible apply XAnd.mk) | (exact XSame.mk rfl rfl) | (exact XSame.mk (by first | rfl | (simp only [List.map_append, List.length_append, List.length_map]; done) | (simp only [List.map_append, List.length_append, List.length_map]; rfl)) (by first | rfl | (simp only [List.map_append]; done) | (simp only [List.map_append]; rfl))) | (with_reducible exact trivial) | ((first | (with_reducible refine xdrop_app (by rw [List.length_map]; omega) ?_) | (with_reducible refine XDrop.desk (by assumption) ?_) | (with_reducible first | refine XArr.ints (by omega) (by omega) (by omega) ?_ | refine XArr.intsA (by omega) (by omega) (by omega) ?_) | ((with_reducible first | refine XArr.nats ?_ ?_ ?_ | refine XArr.natsA ?_ ?_ ?_ | refine XArr.ptr ?_ ?_ ?_); omega; omega)); conv => whnf) | (apply Walk.drawN (id := 7) tab_ok mixed_ok [] [] (hsU _) [_, _, _, _, _, _, _, _, _, _, _, _, _, _] (by kernel_rfl) rfl) | ((first | (with_reducible apply XNext.mk) | (refine XCall.ret hsp ?_)); conv => whnf) | ((with_reducible apply XBr.mk') <;> (intro h; conv => whnf))
      · rw [hno (by omega)]; exact ⟨.low rfl⟩
      · refine XAgain.go (n + 1) ⟨by omega, by omega, fun _ => ?_⟩ (by omega) rfl ⟨rfl, rfl, rfl, rfl, rfl, trivial⟩
        rw [← hlx]
        by_cases he : n = (l.getD m default).toNat
        · have := hst he; omega
        · exact hn3 (by omega)
    · skip
      repeat' first | ((with_reducible first | apply XBr.tt | apply XBr.ff | apply Chk.go | apply ChkA.go | apply ChkF.go | apply ChkB.go | apply XArr.pim0 | apply XArr.pim1); conv => whnf) | (with_reducible apply XBr.not) | ((with_reducible apply XBr.dec) <;> (intro h; first | (exfalso; omega) | ((try simp only [List.length_map] at h); first | (exfalso; omega) | (conv => whnf)))) | ((with_reducible first | apply XBr.beq | apply XBr.bne) <;> (intro h; first | (exfalso; omega) | (conv => whnf))) | ((with_reducible refine XInt.i64 (by omega) (by omega) ?_); conv => whnf) | ((with_reducible refine XHold.mk ?_ ?_); (first | omega | rfl | decide | exact ⟨rfl, by decide, rfl⟩ | exact wideI _ | exact widePr _ | exact wideSk _ | (unfold Room; constructor <;> ((try simp) <;> omega)) | exact ⟨rfl, by simp only [List.length_map], by unfold Room; constructor <;> ((try simp) <;> omega)⟩ | exact ⟨by omega, by omega, by unfold Room; constructor <;> ((try simp) <;> omega)⟩); conv => whnf) | ((first | ((with_reducible refine XIx.nat ?_ ?_ ?_); omega; (intro _; rfl)) | ((with_reducible refine XIx.map ?_ ?_ ?_ ?_); omega; omega; (intro _; rfl))); conv => whnf) | (with_reducible apply XAnd.mk) | (exact XSame.mk rfl rfl) | (exact XSame.mk (by first | rfl | (simp only [List.map_append, List.length_append, List.length_map]; done) | (simp only [List.map_append, List.length_append, List.length_map]; rfl)) (by first | rfl | (simp only [List.map_append]; done) | (simp only [List.map_append]; rfl))) | (with_reducible exact trivial) | ((first | (with_reducible refine xdrop_app (by rw [List.length_map]; omega) ?_) | (with_reducible refine XDrop.desk (by assumption) ?_) | (with_reducible first | refine XArr.ints (by omega) (by omega) (by omega) ?_ | refine XArr.intsA (by omega) (by omega) (by omega) ?_) | ((with_reducible first | refine XArr.nats ?_ ?_ ?_ | refine XArr.natsA ?_ ?_ ?_ | refine XArr.ptr ?_ ?_ ?_); omega; omega)); conv => whnf) | (apply Walk.drawN (id := 7) tab_ok mixed_ok [] [] (hsU _) [_, _, _, _, _, _, _, _, _, _, _, _, _, _] (by kernel_rfl) rfl) | ((with_reducible apply XNext.mk); conv => whnf) | ((with_reducible apply XBr.mk') <;> (intro h; conv => whnf))
      exact XAgain.go (m + 1) ⟨by omega, upto_next hq (hn3 (by omega))⟩ (by omega) rfl ⟨rfl, rfl, rfl, rfl, trivial⟩
  · obtain rfl : m = b.months.length := by omega
    repeat' first | ((with_reducible first | apply XBr.tt | apply XBr.ff | apply Chk.go | apply ChkA.go | apply ChkF.go | apply ChkB.go | apply XArr.pim0 | apply XArr.pim1); conv => whnf) | (with_reducible apply XBr.not) | ((with_reducible apply XBr.dec) <;> (intro h; first | (exfalso; omega) | ((try simp only [List.length_map] at h); first | (exfalso; omega) | (conv => whnf)))) | ((with_reducible first | apply XBr.beq | apply XBr.bne) <;> (intro h; first | (exfalso; omega) | (conv => whnf))) | ((with_reducible refine XInt.i64 (by omega) (by omega) ?_); conv => whnf) | ((with_reducible refine XHold.mk ?_ ?_); (first | omega | rfl | decide | exact ⟨rfl, by decide, rfl⟩ | exact wideI _ | exact widePr _ | exact wideSk _ | (unfold Room; constructor <;> ((try simp) <;> omega)) | exact ⟨rfl, by simp only [List.length_map], by unfold Room; constructor <;> ((try simp) <;> omega)⟩ | exact ⟨by omega, by omega, by unfold Room; constructor <;> ((try simp) <;> omega)⟩); conv => whnf) | ((first | ((with_reducible refine XIx.nat ?_ ?_ ?_); omega; (intro _; rfl)) | ((with_reducible refine XIx.map ?_ ?_ ?_ ?_); omega; omega; (intro _; rfl))); conv => whnf) | (with_reducible apply XAnd.mk) | (exact XSame.mk rfl rfl) | (exact XSame.mk (by first | rfl | (simp only [List.map_append, List.length_append, List.length_map]; done) | (simp only [List.map_append, List.length_append, List.length_map]; rfl)) (by first | rfl | (simp only [List.map_append]; done) | (simp only [List.map_append]; rfl))) | (with_reducible exact trivial) | ((first | (with_reducible refine xdrop_app (by rw [List.length_map]; omega) ?_) | (with_reducible refine XDrop.desk (by assumption) ?_) | (with_reducible first | refine XArr.ints (by omega) (by omega) (by omega) ?_ | refine XArr.intsA (by omega) (by omega) (by omega) ?_) | ((with_reducible first | refine XArr.nats ?_ ?_ ?_ | refine XArr.natsA ?_ ?_ ?_ | refine XArr.ptr ?_ ?_ ?_); omega; omega)); conv => whnf) | (apply Walk.drawN (id := 7) tab_ok mixed_ok [] [] (hsU _) [_, _, _, _, _, _, _, _, _, _, _, _, _, _] (by kernel_rfl) rfl) | ((with_reducible apply XNext.mk); conv => whnf) | ((with_reducible apply XBr.mk') <;> (intro h; conv => whnf))
    have hx : (b.months.map moA).length = b.months.length := List.length_map _
    rw [hx]
    have he : decide (share ≤ l.getD b.months.length default) = decide (KeptP b l share) := by rw [decide_eq_decide]; exact ⟨fun h => ⟨hq, h⟩, fun h => h.2⟩
    rw [he]; exact ⟨.low rfl⟩
theorem rakes04_c (b : Bd) (ok : BedOk b) (nl : Bool) (l : List Int) (hl : l.length = b.months.length + 1) (hb : ∀ x ∈ l, 0 ≤ x ∧ x ≤ b.room) (m n : Nat) (hm : m < b.months.length) (hn : (n : Int) ≤ b.room) : Comp Try.prog 74 [bedA b, .sl nl (ints l), natA m, natA n] (.int .i64 (rkR b l m n)) := by
  have m2 := ok.m2
  have r2 := ok.r2
  have hsp := spoilt_c b ok m n hm hn
  have hlb := lieR_b ok (j := m) (n := n) hm
  have hv2 : 0 ≤ l.getD (m + 1) default ∧ l.getD (m + 1) default ≤ b.room := hb _ (getD_mem (by omega))
  have hlx : l.getD ((m : Int) + 1).toNat default = l.getD (m + 1) default := congrArg (fun z => l.getD z default) (by omega : ((m : Int) + 1).toNat = m + 1)
  have e2 : ((ints l).length : Int) = b.months.length + 1 := by rw [ints_len]; omega
  unfold rkR
  rw [← hlx] at hv2 ⊢
  refine Comp.body (T := tab) (res := [.tmp 8]) tab_ok [] Try.func74 rfl (by kernel_rfl) Try.ntmps74 rfl (by simp only [List.length_cons, List.length_nil]; decide) (by simp only [lowL, bedL, AV.low, lowI]; rfl) ?_; conv => whnf
  repeat' first | ((with_reducible first | apply XBr.tt | apply XBr.ff | apply Chk.go | apply ChkA.go | apply ChkF.go | apply ChkB.go | apply XArr.pim0 | apply XArr.pim1); conv => whnf) | (with_reducible apply XBr.not) | ((with_reducible apply XBr.dec) <;> (intro h; first | (exfalso; omega) | ((try simp only [List.length_map] at h); first | (exfalso; omega) | (conv => whnf)))) | ((with_reducible first | apply XBr.beq | apply XBr.bne) <;> (intro h; first | (exfalso; omega) | (conv => whnf))) | ((with_reducible refine XInt.i64 (by omega) (by omega) ?_); conv => whnf) | ((with_reducible refine XHold.mk ?_ ?_); (first | omega | rfl | decide | exact ⟨rfl, by decide, rfl⟩ | exact wideI _ | exact widePr _ | exact wideSk _ | (unfold Room; constructor <;> ((try simp) <;> omega)) | exact ⟨rfl, by simp only [List.length_map], by unfold Room; constructor <;> ((try simp) <;> omega)⟩ | exact ⟨by omega, by omega, by unfold Room; constructor <;> ((try simp) <;> omega)⟩); conv => whnf) | ((first | ((with_reducible refine XIx.nat ?_ ?_ ?_); omega; (intro _; rfl)) | ((with_reducible refine XIx.map ?_ ?_ ?_ ?_); omega; omega; (intro _; rfl))); conv => whnf) | (with_reducible apply XAnd.mk) | (exact XSame.mk rfl rfl) | (exact XSame.mk (by first | rfl | (simp only [List.map_append, List.length_append, List.length_map]; done) | (simp only [List.map_append, List.length_append, List.length_map]; rfl)) (by first | rfl | (simp only [List.map_append]; done) | (simp only [List.map_append]; rfl))) | (with_reducible exact trivial) | ((first | (with_reducible refine xdrop_app (by rw [List.length_map]; omega) ?_) | (with_reducible refine XDrop.desk (by assumption) ?_) | (with_reducible first | refine XArr.ints (by omega) (by omega) (by omega) ?_ | refine XArr.intsA (by omega) (by omega) (by omega) ?_) | ((with_reducible first | refine XArr.nats ?_ ?_ ?_ | refine XArr.natsA ?_ ?_ ?_ | refine XArr.ptr ?_ ?_ ?_); omega; omega)); conv => whnf) | (apply Walk.drawN (id := 1) tab_ok mixed_ok [] [] (hsU _) [_, _, _, _, _, _, _, _, _, _, _, _, _, _, _, _] (by kernel_rfl) rfl) | ((first | (with_reducible apply XNext.mk) | (refine XCall.ret hsp ?_) | (refine XInt.i64 (show _ ≤ lieR b m n - l.getD ((m : Int) + 1).toNat default by omega) (show lieR b m n - l.getD ((m : Int) + 1).toNat default ≤ _ by omega) ?_)); conv => whnf) | ((with_reducible apply XBr.mk') <;> (intro h; conv => whnf))
  exact ⟨.low rfl⟩
end GA
end

section
namespace GA
open Go Go.RowKit Go.Proofs
set_option pp.deepTerms true
set_option maxRecDepth 8000
set_option linter.unusedVariables false
set_option linter.unusedSimpArgs false

def ivs (W : Nat) (F : Nat → Int) : List AV := ints (vecF W F)
theorem ivs_len (W : Nat) (F : Nat → Int) : (ivs W F).length = W := by rw [ivs, ints_len, vecF_len]
theorem ivs_low {n : Nat} (W : Nat) (F : Nat → Int) : lowL n (ivs W F) = true := lowI _
theorem ivs_rep (W : Nat) (v : Int) : List.replicate W (AV.int .i64 v) = ivs W fun _ => v := by unfold ivs ints; rw [vecF_replicate, List.map_replicate]
theorem ivs_congr {W : Nat} {F G : Nat → Int} (h : ∀ i, i < W → F i = G i) : ivs W F = ivs W G := congrArg ints (vecF_congr h)
theorem XGet.ivs {W : Nat} {F : Nat → Int} {n e : Nat} {k : List AV → Prop} (j : Nat) (he : e = j) (h1 : n = W) (h2 : j < W) (h : k [.int .i64 (F j)]) : XGet (ivs W F) n e k := by
  subst he; subst h1
  refine XGet.mapF (f := AV.int .i64) default (by rw [vecF_len]) h2 ?_
  rw [vecF_get _ h2]; exact h
theorem XPut.ivs {W : Nat} {F : Nat → Int} {n e : Nat} {v : Int} {k : List AV → Prop} (j : Nat) (he : e = j) (h1 : n = W) (h2 : j < W) (h : k (ivs W (updV F j v))) : XPut (ivs W F) n e (.int .i64 v) k := by
  subst he; subst h1
  refine XPut.map (f := AV.int .i64) v rfl (by rw [vecF_len]) h2 ?_
  rw [vecF_set]; exact h
theorem XIx.ivs {W : Nat} {F : Nat → Int} {n : Int} {k : AV → Prop} (i : Nat) (hn : n = i) (h2 : i < W) (h : k (.pim [.int .i64 (F i)])) : XIx (ivs W F) n 1 k := by
  subst hn
  have e : nth (GA.ivs W F) (i : Int) = .int .i64 (F i) := by
    unfold nth
    rw [Int.toNat_natCast, List.getD_eq_getElem?_getD]; unfold GA.ivs; rw [vec_at h2]; rfl
  refine ⟨by omega, by rw [ivs_len]; omega, by rw [e]; rfl, ?_⟩
  rw [e]; exact h
theorem updV_same {α : Type} (F : Nat → α) (j : Nat) (v : α) : updV F j v j = v := by unfold updV; rw [if_pos rfl]
theorem updV_ne {α : Type} (F : Nat → α) {j i : Nat} (v : α) (h : i ≠ j) : updV F j v i = F i := by unfold updV; rw [if_neg h]
theorem updV_updV {α : Type} (F : Nat → α) (j : Nat) (v w : α) : updV (updV F j v) j w = updV F j w := by
  funext i; unfold updV; split <;> rfl
theorem flrStep_is {b : Bd} {m n : Nat} {v : Int} (h1 : v ≤ lieR b m n) (h2 : n ≤ b.room.toNat) (h3 : ∀ q, q < n → lieR b m q < v) : flrStep b m v = some n := by
  unfold flrStep
  rw [List.find?_range_eq_some]
  exact ⟨decide_eq_true h1, List.mem_range.2 (by omega), fun q hq => by have := h3 q hq; simp; omega⟩
theorem flrStep_no {b : Bd} {m : Nat} {v : Int} (h : ∀ q, q ≤ b.room.toNat → lieR b m q < v) : flrStep b m v = none := by
  unfold flrStep
  rw [List.find?_range_eq_none]
  exact fun q hq => by have := h q (by omega); simp; omega
theorem flrL_stop {b : Bd} {share : Int} {k : Nat} (h : flrL b share k = none) : ∀ d, flrL b share (k + d) = none
  | 0 => h
  | d + 1 => by rw [show k + (d + 1) = (k + d) + 1 by omega, flrL, flrL_stop h d]
def floorV (b : Bd) (share : Int) : AV := match flrL b share b.months.length with | none => .sl true [] | some l => .sl false (ints l)
set_option maxHeartbeats 1000000 in
theorem refFloor_c (b : Bd) (ok : BedOk b) (share : Int) (hsh : 0 ≤ share ∧ share ≤ b.room) : Comp Try.prog 72 [bedA b, .int .i64 share] (floorV b share) := by
  have m1 := ok.m1
  have m2 := ok.m2
  have r1 := ok.r1
  have r2 := ok.r2
  have e1 : ((b.months.map moA).length : Int) = b.months.length := by rw [List.length_map]
  have hrep : List.replicate (((b.months.map moA).length : Int) + 1).toNat (AV.int .i64 0) = ivs (b.months.length + 1) fun _ => 0 := by rw [show (((b.months.map moA).length : Int) + 1).toNat = b.months.length + 1 by omega, ivs_rep]
  refine Comp.body (T := tab) (res := [.tmp 4]) tab_ok [] Try.func72 rfl (by kernel_rfl) Try.ntmps72 rfl (by simp only [List.length_cons, List.length_nil]; decide) (by simp only [lowL, bedL, AV.low]; rfl) ?_; conv => whnf
  repeat' first | ((with_reducible first | apply XBr.tt | apply XBr.ff | apply Chk.go | apply ChkA.go | apply ChkF.go | apply ChkB.go | apply XArr.pim0 | apply XArr.pim1); conv => whnf) | (with_reducible apply XBr.not) | ((with_reducible apply XBr.dec) <;> (intro h; first | (exfalso; omega) | ((try simp only [List.length_map] at h); first | (exfalso; omega) | (conv => whnf)))) | ((with_reducible first | apply XBr.beq | apply XBr.bne) <;> (intro h; first | (exfalso; omega) | (conv => whnf))) | ((with_reducible refine XInt.i64 (by omega) (by omega) ?_); conv => whnf) | ((with_reducible refine XHold.mk ?_ ?_); (first | omega | rfl | decide | exact ⟨rfl, by decide, rfl⟩ | exact wideI _ | exact widePr _ | exact wideSk _ | (unfold Room; constructor <;> ((try simp) <;> omega)) | exact ⟨rfl, by simp only [List.length_map], by unfold Room; constructor <;> ((try simp) <;> omega)⟩ | exact ⟨by omega, by omega, by unfold Room; constructor <;> ((try simp) <;> omega)⟩); conv => whnf) | ((first | ((with_reducible refine XIx.nat ?_ ?_ ?_); omega; (intro _; rfl)) | ((with_reducible refine XIx.map ?_ ?_ ?_ ?_); omega; omega; (intro _; rfl))); conv => whnf) | (with_reducible apply XAnd.mk) | (exact XSame.mk rfl rfl) | (exact XSame.mk (by first | rfl | (simp only [List.map_append, List.length_append, List.length_map]; done) | (simp only [List.map_append, List.length_append, List.length_map]; rfl)) (by first | rfl | (simp only [List.map_append]; done) | (simp only [List.map_append]; rfl))) | (with_reducible exact trivial) | ((first | (with_reducible refine xdrop_app (by rw [List.length_map]; omega) ?_) | (with_reducible refine XDrop.desk (by assumption) ?_) | (with_reducible first | refine XArr.ints (by omega) (by omega) (by omega) ?_ | refine XArr.intsA (by omega) (by omega) (by omega) ?_) | ((with_reducible first | refine XArr.nats ?_ ?_ ?_ | refine XArr.natsA ?_ ?_ ?_ | refine XArr.ptr ?_ ?_ ?_); omega; omega)); conv => whnf) | (apply Walk.drawN (id := 11) tab_ok mixed_ok [] [] (hsU _) [_, _, _, _, _, _, _] (by kernel_rfl) rfl) | ((with_reducible apply XNext.mk); conv => whnf) | ((refine XHold.mk ⟨by omega, by omega, by unfold Room; constructor <;> omega⟩ ?_); conv => whnf) | ((first | (rw [hrep]; refine XHold.mk ⟨by rw [ivs_len]; omega, rfl, by omega, by omega⟩ ?_) | (refine XPut.ivs b.months.length (by omega) (by omega) (by omega) ?_)); conv => whnf) | ((with_reducible apply XBr.mk') <;> (intro h; conv => whnf))
  refine Walk.loopK tab_ok [] [(2, _), (5, .gr 0 (b.months.length + 1))] ⟨rfl, by rw [show b.months.length + 1 = (((b.months.map moA).length : Int) + 1).toNat by omega]; rfl, trivial⟩ (fun q : Nat × (Nat → Int) × List Int => q.1 ≤ b.months.length ∧ flrL b share q.1 = some q.2.2 ∧ ∀ j, j ≤ q.1 → q.2.2.getD j default = q.2.1 (b.months.length - q.1 + j)) (fun q => [(6, .int .i64 ((b.months.length : Int) - 1 - q.1))]) (fun q => [.grow 3 false (ivs (b.months.length + 1) q.2.1)]) (fun q => b.months.length - q.1) (0, updV (fun _ => 0) b.months.length share, [share]) ⟨Nat.zero_le _, rfl, fun j hj => ?_⟩ rfl ⟨congrArg (fun z => some (AV.int .i64 z)) (by dsimp only; omega), trivial⟩ ?_
  · dsimp only at hj ⊢
    obtain rfl : j = 0 := by omega
    rw [show b.months.length - 0 + 0 = b.months.length by omega, updV_same]; rfl
  rintro ⟨k, F, l⟩ ⟨hk, hl, hF⟩
  dsimp only at hk hl hF ⊢
  have hll := flrL_len hl
  have hhd : l.headD 0 = F (b.months.length - k) := by
    have := hF 0 (Nat.zero_le _)
    rw [Nat.add_zero] at this
    rw [← this]
    cases l with
    | nil => simp at hll
    | cons x l => rfl
  by_cases hlt : k < b.months.length
  · obtain ⟨m, hm⟩ : ∃ m : Nat, m + 1 + k = b.months.length := ⟨b.months.length - 1 - k, by omega⟩
    have hm6 : (b.months.length : Int) - 1 - k = (m : Int) := by omega
    rw [hm6]
    have hnx : flrL b share (k + 1) = match flrStep b m (F (m + 1)) with | none => none | some n => some ((n : Int) :: l) := by
      rw [flrL, hl]
      dsimp only
      rw [hhd, show b.months.length - (k + 1) = m by omega, show b.months.length - k = m + 1 by omega] <;> rfl
    conv => whnf
    repeat' first | ((with_reducible first | apply XBr.tt | apply XBr.ff | apply Chk.go | apply ChkA.go | apply ChkF.go | apply ChkB.go | apply XArr.pim0 | apply XArr.pim1); conv => whnf) | (with_reducible apply XBr.not) | ((with_reducible apply XBr.dec) <;> (intro h; first | (exfalso; omega) | ((try simp only [List.length_map] at h); first | (exfalso; omega) | (conv => whnf)))) | ((with_reducible first | apply XBr.beq | apply XBr.bne) <;> (intro h; first | (exfalso; omega) | (conv => whnf))) | ((with_reducible refine XInt.i64 (by omega) (by omega) ?_); conv => whnf) | ((with_reducible refine XHold.mk ?_ ?_); (first | omega | rfl | decide | exact ⟨rfl, by decide, rfl⟩ | exact wideI _ | exact widePr _ | exact wideSk _ | (unfold Room; constructor <;> ((try simp) <;> omega)) | exact ⟨rfl, by simp only [List.length_map], by unfold Room; constructor <;> ((try simp) <;> omega)⟩ | exact ⟨by omega, by omega, by unfold Room; constructor <;> ((try simp) <;> omega)⟩); conv => whnf) | ((first | ((with_reducible refine XIx.nat ?_ ?_ ?_); omega; (intro _; rfl)) | ((with_reducible refine XIx.map ?_ ?_ ?_ ?_); omega; omega; (intro _; rfl))); conv => whnf) | (with_reducible apply XAnd.mk) | (exact XSame.mk rfl rfl) | (exact XSame.mk (by first | rfl | (simp only [List.map_append, List.length_append, List.length_map]; done) | (simp only [List.map_append, List.length_append, List.length_map]; rfl)) (by first | rfl | (simp only [List.map_append]; done) | (simp only [List.map_append]; rfl))) | (with_reducible exact trivial) | ((first | (with_reducible refine xdrop_app (by rw [List.length_map]; omega) ?_) | (with_reducible refine XDrop.desk (by assumption) ?_) | (with_reducible first | refine XArr.ints (by omega) (by omega) (by omega) ?_ | refine XArr.intsA (by omega) (by omega) (by omega) ?_) | ((with_reducible first | refine XArr.nats ?_ ?_ ?_ | refine XArr.natsA ?_ ?_ ?_ | refine XArr.ptr ?_ ?_ ?_); omega; omega)); conv => whnf) | (apply Walk.drawN (id := 11) tab_ok mixed_ok [] [] (hsU _) [_, _, _, _, _, _, _] (by kernel_rfl) rfl) | ((first | (with_reducible apply XNext.mk) | (refine XHold.mk ⟨by rw [ivs_len], rfl, by omega, by omega⟩ ?_) | (refine XPut.ivs m (by omega) rfl (by omega) ?_)); conv => whnf) | ((with_reducible apply XBr.mk') <;> (intro h; conv => whnf))
    refine Walk.loopK tab_ok [] [(2, _), (5, _), (6, _)] ⟨rfl, rfl, rfl, trivial⟩ (fun n : Int => -1 ≤ n ∧ n ≤ b.room ∧ ∀ q : Nat, n < q → (q : Int) ≤ b.room → F (m + 1) ≤ lieR b m q) (fun n => [(7, .int .i64 n)]) (fun n => [.grow 3 false (ivs (b.months.length + 1) (updV F m (n + 1)))]) (fun n => (n + 1).toNat) b.room ⟨by omega, Int.le_refl _, fun q h1 h2 => by omega⟩ rfl ⟨rfl, trivial⟩ ?_
    rintro n ⟨hn1, hn2, hge⟩
    have hu : updV F m (n + 1) (m + 1) = F (m + 1) := updV_ne _ _ (by omega)
    conv => whnf
    by_cases hn0 : 0 ≤ n
    · obtain ⟨nn, rfl⟩ : ∃ nn : Nat, n = nn := ⟨n.toNat, by omega⟩
      have hsp := spoilt_c b ok m nn (by omega) hn2
      have hlb := lieR_b ok (j := m) (n := nn) (by omega)
      have hmn := fun (q : Nat) (h : q ≤ nn) => lieR_mono ok (m := m) (by omega) h
      have hbb : decide ((0 : Int) ≤ (nn : Int)) = true := decide_eq_true hn0
      apply Walk.drawX tab_ok mixed_ok [] [] (hsK _) [_, .bool true, .bool true, _, _, _, _, _, _, _, _, _, _, _, _, _, _, _] (by kernel_rfl) rfl
      · skip
        repeat' first | ((with_reducible first | apply XBr.tt | apply XBr.ff | apply Chk.go | apply ChkA.go | apply ChkF.go | apply ChkB.go | apply XArr.pim0 | apply XArr.pim1); conv => whnf) | (with_reducible apply XBr.not) | ((with_reducible apply XBr.dec) <;> (intro h; first | (exfalso; omega) | ((try simp only [List.length_map] at h); first | (exfalso; omega) | (conv => whnf)))) | ((with_reducible first | apply XBr.beq | apply XBr.bne) <;> (intro h; first | (exfalso; omega) | (conv => whnf))) | ((with_reducible refine XInt.i64 (by omega) (by omega) ?_); conv => whnf) | ((with_reducible refine XHold.mk ?_ ?_); (first | omega | rfl | decide | exact ⟨rfl, by decide, rfl⟩ | exact wideI _ | exact widePr _ | exact wideSk _ | (unfold Room; constructor <;> ((try simp) <;> omega)) | exact ⟨rfl, by simp only [List.length_map], by unfold Room; constructor <;> ((try simp) <;> omega)⟩ | exact ⟨by omega, by omega, by unfold Room; constructor <;> ((try simp) <;> omega)⟩); conv => whnf) | ((first | ((with_reducible refine XIx.nat ?_ ?_ ?_); omega; (intro _; rfl)) | ((with_reducible refine XIx.map ?_ ?_ ?_ ?_); omega; omega; (intro _; rfl))); conv => whnf) | (with_reducible apply XAnd.mk) | (exact XSame.mk rfl rfl) | (exact XSame.mk (by first | rfl | (simp only [List.map_append, List.length_append, List.length_map]; done) | (simp only [List.map_append, List.length_append, List.length_map]; rfl)) (by first | rfl | (simp only [List.map_append]; done) | (simp only [List.map_append]; rfl))) | (with_reducible exact trivial) | ((first | (with_reducible refine xdrop_app (by rw [List.length_map]; omega) ?_) | (with_reducible refine XDrop.desk (by assumption) ?_) | (with_reducible first | refine XArr.ints (by omega) (by omega) (by omega) ?_ | refine XArr.intsA (by omega) (by omega) (by omega) ?_) | ((with_reducible first | refine XArr.nats ?_ ?_ ?_ | refine XArr.natsA ?_ ?_ ?_ | refine XArr.ptr ?_ ?_ ?_); omega; omega)); conv => whnf) | (apply Walk.drawN (id := 11) tab_ok mixed_ok [] [] (hsU _) [_, _, _, _, _, _, _] (by kernel_rfl) rfl) | ((with_reducible apply XNext.mk); conv => whnf) | (exact XSame.mk (congrArg AV.bool hbb) rfl) | ((first | (refine XCall.ret hsp ?_) | (refine XHold.mk ⟨by rw [ivs_len], rfl, by omega, by omega⟩ ?_) | ((refine XGet.ivs (m + 1) (by omega) rfl (by omega) ?_); rw [hu])); conv => whnf) | ((with_reducible apply XBr.mk') <;> (intro h; conv => whnf))
      · skip
        repeat' first | ((with_reducible first | apply XBr.tt | apply XBr.ff | apply Chk.go | apply ChkA.go | apply ChkF.go | apply ChkB.go | apply XArr.pim0 | apply XArr.pim1); conv => whnf) | (with_reducible apply XBr.not) | ((with_reducible apply XBr.dec) <;> (intro h; first | (exfalso; omega) | ((try simp only [List.length_map] at h); first | (exfalso; omega) | (conv => whnf)))) | ((with_reducible first | apply XBr.beq | apply XBr.bne) <;> (intro h; first | (exfalso; omega) | (conv => whnf))) | ((with_reducible refine XInt.i64 (by omega) (by omega) ?_); conv => whnf) | ((with_reducible refine XHold.mk ?_ ?_); (first | omega | rfl | decide | exact ⟨rfl, by decide, rfl⟩ | exact wideI _ | exact widePr _ | exact wideSk _ | (unfold Room; constructor <;> ((try simp) <;> omega)) | exact ⟨rfl, by simp only [List.length_map], by unfold Room; constructor <;> ((try simp) <;> omega)⟩ | exact ⟨by omega, by omega, by unfold Room; constructor <;> ((try simp) <;> omega)⟩); conv => whnf) | ((first | ((with_reducible refine XIx.nat ?_ ?_ ?_); omega; (intro _; rfl)) | ((with_reducible refine XIx.map ?_ ?_ ?_ ?_); omega; omega; (intro _; rfl))); conv => whnf) | (with_reducible apply XAnd.mk) | (exact XSame.mk rfl rfl) | (exact XSame.mk (by first | rfl | (simp only [List.map_append, List.length_append, List.length_map]; done) | (simp only [List.map_append, List.length_append, List.length_map]; rfl)) (by first | rfl | (simp only [List.map_append]; done) | (simp only [List.map_append]; rfl))) | (with_reducible exact trivial) | ((first | (with_reducible refine xdrop_app (by rw [List.length_map]; omega) ?_) | (with_reducible refine XDrop.desk (by assumption) ?_) | (with_reducible first | refine XArr.ints (by omega) (by omega) (by omega) ?_ | refine XArr.intsA (by omega) (by omega) (by omega) ?_) | ((with_reducible first | refine XArr.nats ?_ ?_ ?_ | refine XArr.natsA ?_ ?_ ?_ | refine XArr.ptr ?_ ?_ ?_); omega; omega)); conv => whnf) | (apply Walk.drawN (id := 11) tab_ok mixed_ok [] [] (hsU _) [_, _, _, _, _, _, _] (by kernel_rfl) rfl) | ((with_reducible apply XNext.mk); conv => whnf) | (exact XSame.mk (congrArg AV.bool hbb) rfl) | ((first | (refine XCall.ret hsp ?_) | (refine XHold.mk ⟨by rw [ivs_len], rfl, by omega, by omega⟩ ?_) | ((refine XGet.ivs (m + 1) (by omega) rfl (by omega) ?_); rw [hu])); conv => whnf) | ((with_reducible apply XBr.mk') <;> (intro h; conv => whnf))
      conv => whnf
      refine XBr.dec ?_ ?_ <;> intro hh <;> (conv => whnf)
      · skip
        repeat' first | ((with_reducible first | apply XBr.tt | apply XBr.ff | apply Chk.go | apply ChkA.go | apply ChkF.go | apply ChkB.go | apply XArr.pim0 | apply XArr.pim1); conv => whnf) | (with_reducible apply XBr.not) | ((with_reducible apply XBr.dec) <;> (intro h; first | (exfalso; omega) | ((try simp only [List.length_map] at h); first | (exfalso; omega) | (conv => whnf)))) | ((with_reducible first | apply XBr.beq | apply XBr.bne) <;> (intro h; first | (exfalso; omega) | (conv => whnf))) | ((with_reducible refine XInt.i64 (by omega) (by omega) ?_); conv => whnf) | ((with_reducible refine XHold.mk ?_ ?_); (first | omega | rfl | decide | exact ⟨rfl, by decide, rfl⟩ | exact wideI _ | exact widePr _ | exact wideSk _ | (unfold Room; constructor <;> ((try simp) <;> omega)) | exact ⟨rfl, by simp only [List.length_map], by unfold Room; constructor <;> ((try simp) <;> omega)⟩ | exact ⟨by omega, by omega, by unfold Room; constructor <;> ((try simp) <;> omega)⟩); conv => whnf) | ((first | ((with_reducible refine XIx.nat ?_ ?_ ?_); omega; (intro _; rfl)) | ((with_reducible refine XIx.map ?_ ?_ ?_ ?_); omega; omega; (intro _; rfl))); conv => whnf) | (with_reducible apply XAnd.mk) | (exact XSame.mk rfl rfl) | (exact XSame.mk (by first | rfl | (simp only [List.map_append, List.length_append, List.length_map]; done) | (simp only [List.map_append, List.length_append, List.length_map]; rfl)) (by first | rfl | (simp only [List.map_append]; done) | (simp only [List.map_append]; rfl))) | (with_reducible exact trivial) | ((first | (with_reducible refine xdrop_app (by rw [List.length_map]; omega) ?_) | (with_reducible refine XDrop.desk (by assumption) ?_) | (with_reducible first | refine XArr.ints (by omega) (by omega) (by omega) ?_ | refine XArr.intsA (by omega) (by omega) (by omega) ?_) | ((with_reducible first | refine XArr.nats ?_ ?_ ?_ | refine XArr.natsA ?_ ?_ ?_ | refine XArr.ptr ?_ ?_ ?_); omega; omega)); conv => whnf) | (apply Walk.drawN (id := 11) tab_ok mixed_ok [] [] (hsU _) [_, _, _, _, _, _, _] (by kernel_rfl) rfl) | ((first | (with_reducible apply XNext.mk) | (refine XHold.mk ⟨by rw [ivs_len], rfl, by omega, by omega⟩ ?_) | ((refine XPut.ivs m (by omega) rfl (by omega) ?_); rw [updV_updV])); conv => whnf) | ((with_reducible apply XBr.mk') <;> (intro h; conv => whnf))
        refine XAgain.go ((nn : Int) - 1) ⟨by omega, by omega, fun q h1 h2 => ?_⟩ (by omega) ?_ ⟨rfl, rfl, rfl, rfl, trivial⟩
        · by_cases hq : q = nn
          · rw [hq]; exact hh
          · exact hge q (by omega) h2
        · rw [show (nn : Int) - 1 + 1 = nn by omega]
      · skip
        have hall : ∀ q : Nat, (q : Int) ≤ (nn : Int) → lieR b m q < F (m + 1) := fun q hq => by have := hmn q (by omega); have : ¬ F (m + 1) ≤ lieR b m nn := hh; omega
        repeat' first | ((with_reducible first | apply XBr.tt | apply XBr.ff | apply Chk.go | apply ChkA.go | apply ChkF.go | apply ChkB.go | apply XArr.pim0 | apply XArr.pim1); conv => whnf) | (with_reducible apply XBr.not) | ((with_reducible apply XBr.dec) <;> (intro h; first | (exfalso; omega) | ((try simp only [List.length_map] at h); first | (exfalso; omega) | (conv => whnf)))) | ((with_reducible first | apply XBr.beq | apply XBr.bne) <;> (intro h; first | (exfalso; omega) | (conv => whnf))) | ((with_reducible refine XInt.i64 (by omega) (by omega) ?_); conv => whnf) | ((with_reducible refine XHold.mk ?_ ?_); (first | omega | rfl | decide | exact ⟨rfl, by decide, rfl⟩ | exact wideI _ | exact widePr _ | exact wideSk _ | (unfold Room; constructor <;> ((try simp) <;> omega)) | exact ⟨rfl, by simp only [List.length_map], by unfold Room; constructor <;> ((try simp) <;> omega)⟩ | exact ⟨by omega, by omega, by unfold Room; constructor <;> ((try simp) <;> omega)⟩); conv => whnf) | ((first | ((with_reducible refine XIx.nat ?_ ?_ ?_); omega; (intro _; rfl)) | ((with_reducible refine XIx.map ?_ ?_ ?_ ?_); omega; omega; (intro _; rfl))); conv => whnf) | (with_reducible apply XAnd.mk) | (exact XSame.mk rfl rfl) | (exact XSame.mk (by first | rfl | (simp only [List.map_append, List.length_append, List.length_map]; done) | (simp only [List.map_append, List.length_append, List.length_map]; rfl)) (by first | rfl | (simp only [List.map_append]; done) | (simp only [List.map_append]; rfl))) | (with_reducible exact trivial) | ((first | (with_reducible refine xdrop_app (by rw [List.length_map]; omega) ?_) | (with_reducible refine XDrop.desk (by assumption) ?_) | (with_reducible first | refine XArr.ints (by omega) (by omega) (by omega) ?_ | refine XArr.intsA (by omega) (by omega) (by omega) ?_) | ((with_reducible first | refine XArr.nats ?_ ?_ ?_ | refine XArr.natsA ?_ ?_ ?_ | refine XArr.ptr ?_ ?_ ?_); omega; omega)); conv => whnf) | (apply Walk.drawN (id := 11) tab_ok mixed_ok [] [] (hsU _) [_, _, _, _, _, _, _] (by kernel_rfl) rfl) | ((first | (with_reducible apply XNext.mk) | (refine XHold.mk ⟨by rw [ivs_len], rfl, by omega, by omega⟩ ?_) | ((refine XGet.ivs m (by omega) rfl (by omega) ?_); rw [updV_same])); conv => whnf) | ((with_reducible apply XBr.mk') <;> (intro h; conv => whnf))
        · skip
          have hno : flrL b share (k + 1) = none := by rw [hnx, flrStep_no fun q hq => hall q (by omega)]
          have := flrL_stop hno m
          rw [show k + 1 + m = b.months.length by omega] at this
          unfold floorV
          rw [this]; exact ⟨.low rfl⟩
        · skip
          have hso : flrL b share (k + 1) = some (((((nn : Int) + 1).toNat : Nat) : Int) :: l) := by rw [hnx, flrStep_is (hge ((nn : Int) + 1).toNat (by omega) (by omega)) (by omega) fun q hq => hall q (by omega)]
          refine XAgain.go (k + 1, updV F m ((nn : Int) + 1), ((((nn : Int) + 1).toNat : Nat) : Int) :: l) ⟨by dsimp only; omega, hso, fun j hj => ?_⟩ (by dsimp only; omega) rfl ⟨rfl, rfl, congrArg (fun z => some (AV.int .i64 z)) (by dsimp only; omega), trivial⟩
          dsimp only at hj ⊢
          cases j with
          | zero =>
            rw [show b.months.length - (k + 1) + 0 = m by omega, updV_same]
            show ((((nn : Int) + 1).toNat : Nat) : Int) = (nn : Int) + 1
            omega
          | succ j =>
            have := hF j (by omega)
            rw [show b.months.length - (k + 1) + (j + 1) = b.months.length - k + j by omega, updV_ne _ _ (by omega)]
            exact this
    · obtain rfl : n = -1 := by omega
      have hbb : decide ((0 : Int) ≤ (-1 : Int)) = false := by decide
      apply Walk.drawX tab_ok mixed_ok [] [] (hsK _) [_, .bool false, .bool false, _, _, _, _, _, _, _, _, _, _, _, _, _, _, _] (by kernel_rfl) rfl
      · skip
        repeat' first | ((with_reducible first | apply XBr.tt | apply XBr.ff | apply Chk.go | apply ChkA.go | apply ChkF.go | apply ChkB.go | apply XArr.pim0 | apply XArr.pim1); conv => whnf) | (with_reducible apply XBr.not) | ((with_reducible apply XBr.dec) <;> (intro h; first | (exfalso; omega) | ((try simp only [List.length_map] at h); first | (exfalso; omega) | (conv => whnf)))) | ((with_reducible first | apply XBr.beq | apply XBr.bne) <;> (intro h; first | (exfalso; omega) | (conv => whnf))) | ((with_reducible refine XInt.i64 (by omega) (by omega) ?_); conv => whnf) | ((with_reducible refine XHold.mk ?_ ?_); (first | omega | rfl | decide | exact ⟨rfl, by decide, rfl⟩ | exact wideI _ | exact widePr _ | exact wideSk _ | (unfold Room; constructor <;> ((try simp) <;> omega)) | exact ⟨rfl, by simp only [List.length_map], by unfold Room; constructor <;> ((try simp) <;> omega)⟩ | exact ⟨by omega, by omega, by unfold Room; constructor <;> ((try simp) <;> omega)⟩); conv => whnf) | ((first | ((with_reducible refine XIx.nat ?_ ?_ ?_); omega; (intro _; rfl)) | ((with_reducible refine XIx.map ?_ ?_ ?_ ?_); omega; omega; (intro _; rfl))); conv => whnf) | (with_reducible apply XAnd.mk) | (exact XSame.mk rfl rfl) | (exact XSame.mk (by first | rfl | (simp only [List.map_append, List.length_append, List.length_map]; done) | (simp only [List.map_append, List.length_append, List.length_map]; rfl)) (by first | rfl | (simp only [List.map_append]; done) | (simp only [List.map_append]; rfl))) | (with_reducible exact trivial) | ((first | (with_reducible refine xdrop_app (by rw [List.length_map]; omega) ?_) | (with_reducible refine XDrop.desk (by assumption) ?_) | (with_reducible first | refine XArr.ints (by omega) (by omega) (by omega) ?_ | refine XArr.intsA (by omega) (by omega) (by omega) ?_) | ((with_reducible first | refine XArr.nats ?_ ?_ ?_ | refine XArr.natsA ?_ ?_ ?_ | refine XArr.ptr ?_ ?_ ?_); omega; omega)); conv => whnf) | (apply Walk.drawN (id := 11) tab_ok mixed_ok [] [] (hsU _) [_, _, _, _, _, _, _] (by kernel_rfl) rfl) | ((with_reducible apply XNext.mk); conv => whnf) | (exact XSame.mk (congrArg AV.bool hbb) rfl) | ((with_reducible apply XBr.mk') <;> (intro h; conv => whnf))
      · skip
        repeat' first | ((with_reducible first | apply XBr.tt | apply XBr.ff | apply Chk.go | apply ChkA.go | apply ChkF.go | apply ChkB.go | apply XArr.pim0 | apply XArr.pim1); conv => whnf) | (with_reducible apply XBr.not) | ((with_reducible apply XBr.dec) <;> (intro h; first | (exfalso; omega) | ((try simp only [List.length_map] at h); first | (exfalso; omega) | (conv => whnf)))) | ((with_reducible first | apply XBr.beq | apply XBr.bne) <;> (intro h; first | (exfalso; omega) | (conv => whnf))) | ((with_reducible refine XInt.i64 (by omega) (by omega) ?_); conv => whnf) | ((with_reducible refine XHold.mk ?_ ?_); (first | omega | rfl | decide | exact ⟨rfl, by decide, rfl⟩ | exact wideI _ | exact widePr _ | exact wideSk _ | (unfold Room; constructor <;> ((try simp) <;> omega)) | exact ⟨rfl, by simp only [List.length_map], by unfold Room; constructor <;> ((try simp) <;> omega)⟩ | exact ⟨by omega, by omega, by unfold Room; constructor <;> ((try simp) <;> omega)⟩); conv => whnf) | ((first | ((with_reducible refine XIx.nat ?_ ?_ ?_); omega; (intro _; rfl)) | ((with_reducible refine XIx.map ?_ ?_ ?_ ?_); omega; omega; (intro _; rfl))); conv => whnf) | (with_reducible apply XAnd.mk) | (exact XSame.mk rfl rfl) | (exact XSame.mk (by first | rfl | (simp only [List.map_append, List.length_append, List.length_map]; done) | (simp only [List.map_append, List.length_append, List.length_map]; rfl)) (by first | rfl | (simp only [List.map_append]; done) | (simp only [List.map_append]; rfl))) | (with_reducible exact trivial) | ((first | (with_reducible refine xdrop_app (by rw [List.length_map]; omega) ?_) | (with_reducible refine XDrop.desk (by assumption) ?_) | (with_reducible first | refine XArr.ints (by omega) (by omega) (by omega) ?_ | refine XArr.intsA (by omega) (by omega) (by omega) ?_) | ((with_reducible first | refine XArr.nats ?_ ?_ ?_ | refine XArr.natsA ?_ ?_ ?_ | refine XArr.ptr ?_ ?_ ?_); omega; omega)); conv => whnf) | (apply Walk.drawN (id := 11) tab_ok mixed_ok [] [] (hsU _) [_, _, _, _, _, _, _] (by kernel_rfl) rfl) | ((with_reducible apply XNext.mk); conv => whnf) | (exact XSame.mk (congrArg AV.bool hbb) rfl) | ((with_reducible apply XBr.mk') <;> (intro h; conv => whnf))
      conv => whnf
      have hall : ∀ q : Nat, (q : Int) ≤ (-1) → lieR b m q < F (m + 1) := fun q hq => by omega
      repeat' first | ((with_reducible first | apply XBr.tt | apply XBr.ff | apply Chk.go | apply ChkA.go | apply ChkF.go | apply ChkB.go | apply XArr.pim0 | apply XArr.pim1); conv => whnf) | (with_reducible apply XBr.not) | ((with_reducible apply XBr.dec) <;> (intro h; first | (exfalso; omega) | ((try simp only [List.length_map] at h); first | (exfalso; omega) | (conv => whnf)))) | ((with_reducible first | apply XBr.beq | apply XBr.bne) <;> (intro h; first | (exfalso; omega) | (conv => whnf))) | ((with_reducible refine XInt.i64 (by omega) (by omega) ?_); conv => whnf) | ((with_reducible refine XHold.mk ?_ ?_); (first | omega | rfl | decide | exact ⟨rfl, by decide, rfl⟩ | exact wideI _ | exact widePr _ | exact wideSk _ | (unfold Room; constructor <;> ((try simp) <;> omega)) | exact ⟨rfl, by simp only [List.length_map], by unfold Room; constructor <;> ((try simp) <;> omega)⟩ | exact ⟨by omega, by omega, by unfold Room; constructor <;> ((try simp) <;> omega)⟩); conv => whnf) | ((first | ((with_reducible refine XIx.nat ?_ ?_ ?_); omega; (intro _; rfl)) | ((with_reducible refine XIx.map ?_ ?_ ?_ ?_); omega; omega; (intro _; rfl))); conv => whnf) | (with_reducible apply XAnd.mk) | (exact XSame.mk rfl rfl) | (exact XSame.mk (by first | rfl | (simp only [List.map_append, List.length_append, List.length_map]; done) | (simp only [List.map_append, List.length_append, List.length_map]; rfl)) (by first | rfl | (simp only [List.map_append]; done) | (simp only [List.map_append]; rfl))) | (with_reducible exact trivial) | ((first | (with_reducible refine xdrop_app (by rw [List.length_map]; omega) ?_) | (with_reducible refine XDrop.desk (by assumption) ?_) | (with_reducible first | refine XArr.ints (by omega) (by omega) (by omega) ?_ | refine XArr.intsA (by omega) (by omega) (by omega) ?_) | ((with_reducible first | refine XArr.nats ?_ ?_ ?_ | refine XArr.natsA ?_ ?_ ?_ | refine XArr.ptr ?_ ?_ ?_); omega; omega)); conv => whnf) | (apply Walk.drawN (id := 11) tab_ok mixed_ok [] [] (hsU _) [_, _, _, _, _, _, _] (by kernel_rfl) rfl) | ((first | (with_reducible apply XNext.mk) | (refine XHold.mk ⟨by rw [ivs_len], rfl, by omega, by omega⟩ ?_) | ((refine XGet.ivs m (by omega) rfl (by omega) ?_); rw [updV_same])); conv => whnf) | ((with_reducible apply XBr.mk') <;> (intro h; conv => whnf))
      have hso : flrL b share (k + 1) = some (((((-1 : Int) + 1).toNat : Nat) : Int) :: l) := by rw [hnx, flrStep_is (hge ((-1 : Int) + 1).toNat (by omega) (by omega)) (by omega) fun q hq => hall q (by omega)]
      refine XAgain.go (k + 1, updV F m ((-1 : Int) + 1), ((((-1 : Int) + 1).toNat : Nat) : Int) :: l) ⟨by dsimp only; omega, hso, fun j hj => ?_⟩ (by dsimp only; omega) rfl ⟨rfl, rfl, congrArg (fun z => some (AV.int .i64 z)) (by dsimp only; omega), trivial⟩
      dsimp only at hj ⊢
      cases j with
      | zero =>
        rw [show b.months.length - (k + 1) + 0 = m by omega, updV_same]
        show ((((-1 : Int) + 1).toNat : Nat) : Int) = (-1 : Int) + 1
        omega
      | succ j =>
        have := hF j (by omega)
        rw [show b.months.length - (k + 1) + (j + 1) = b.months.length - k + j by omega, updV_ne _ _ (by omega)]
        exact this
  · obtain rfl : k = b.months.length := by omega
    have hle : l = vecF (b.months.length + 1) F := by
      refine eq_of_getD (d := default) (by rw [vecF_len]; exact hll) fun j hj => ?_
      rw [vecF_get _ (by omega), hF j (by omega), Nat.sub_self, Nat.zero_add]
    conv => whnf
    repeat' first | ((with_reducible first | apply XBr.tt | apply XBr.ff | apply Chk.go | apply ChkA.go | apply ChkF.go | apply ChkB.go | apply XArr.pim0 | apply XArr.pim1); conv => whnf) | (with_reducible apply XBr.not) | ((with_reducible apply XBr.dec) <;> (intro h; first | (exfalso; omega) | ((try simp only [List.length_map] at h); first | (exfalso; omega) | (conv => whnf)))) | ((with_reducible first | apply XBr.beq | apply XBr.bne) <;> (intro h; first | (exfalso; omega) | (conv => whnf))) | ((with_reducible refine XInt.i64 (by omega) (by omega) ?_); conv => whnf) | ((with_reducible refine XHold.mk ?_ ?_); (first | omega | rfl | decide | exact ⟨rfl, by decide, rfl⟩ | exact wideI _ | exact widePr _ | exact wideSk _ | (unfold Room; constructor <;> ((try simp) <;> omega)) | exact ⟨rfl, by simp only [List.length_map], by unfold Room; constructor <;> ((try simp) <;> omega)⟩ | exact ⟨by omega, by omega, by unfold Room; constructor <;> ((try simp) <;> omega)⟩); conv => whnf) | ((first | ((with_reducible refine XIx.nat ?_ ?_ ?_); omega; (intro _; rfl)) | ((with_reducible refine XIx.map ?_ ?_ ?_ ?_); omega; omega; (intro _; rfl))); conv => whnf) | (with_reducible apply XAnd.mk) | (exact XSame.mk rfl rfl) | (exact XSame.mk (by first | rfl | (simp only [List.map_append, List.length_append, List.length_map]; done) | (simp only [List.map_append, List.length_append, List.length_map]; rfl)) (by first | rfl | (simp only [List.map_append]; done) | (simp only [List.map_append]; rfl))) | (with_reducible exact trivial) | ((first | (with_reducible refine xdrop_app (by rw [List.length_map]; omega) ?_) | (with_reducible refine XDrop.desk (by assumption) ?_) | (with_reducible first | refine XArr.ints (by omega) (by omega) (by omega) ?_ | refine XArr.intsA (by omega) (by omega) (by omega) ?_) | ((with_reducible first | refine XArr.nats ?_ ?_ ?_ | refine XArr.natsA ?_ ?_ ?_ | refine XArr.ptr ?_ ?_ ?_); omega; omega)); conv => whnf) | (apply Walk.drawN (id := 11) tab_ok mixed_ok [] [] (hsU _) [_, _, _, _, _, _, _] (by kernel_rfl) rfl) | ((with_reducible apply XNext.mk); conv => whnf) | ((with_reducible apply XBr.mk') <;> (intro h; conv => whnf))
    unfold floorV
    rw [hl, hle]
    exact ⟨Froz.grow rfl (ivs_len _ _) (ivs_low _ _)⟩
end GA
end
