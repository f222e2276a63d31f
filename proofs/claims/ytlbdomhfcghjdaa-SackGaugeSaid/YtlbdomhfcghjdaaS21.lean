/- The statement SackGauge. -/
import Derived.Test.YtlbdomhfcghjdaaS20
import Derived.Test.YtlbdomhfcghjdaaAbs30
import Derived.Test.YtlbdomhfcghjdaaRows
namespace GA
open Go Go.RowKit Go.Proofs
set_option pp.deepTerms true
set_option maxRecDepth 8000
set_option linter.unusedVariables false
set_option linter.unusedSimpArgs false

theorem off_in (n lo hi : Int) : offB n lo hi = !inB n lo hi := by
  unfold offB inB; rw [Bool.eq_iff_iff]; simp <;> omega
theorem sizes_eq (xs : List Int) (c : Int) : sizesR xs c = riddledR xs c := by
  unfold sizesR riddledR
  by_cases h : 100 < xs.length
  · rw [if_pos h, if_pos h]
  · rw [if_neg h, if_neg h]
    have e : xs.any (offB · 1 40) = !xs.all (inB · 1 40) := by
      simp only [off_in, List.not_all_eq_any_not]
    rw [e, off_in]
    cases xs.all (inB · 1 40) <;> cases inB c 1 40 <;> rfl
theorem gaugeR_form (xs : List Int) (most e : Int) : ∃ i j : Int, gaugeR xs most e = .tup [.int .i64 i, .int .i64 j] := by
  unfold gaugeR
  split
  · exact ⟨_, _, rfl⟩
  · split
    · exact ⟨_, _, rfl⟩
    · split <;> exact ⟨_, _, rfl⟩
theorem sackGauge_c (nl : Bool) (xs : List Int) (g most : Int) : Comp Try.prog 5 [.sl nl (ints xs), .int .i64 g, .int .i64 most] (.bool true) := by
  by_cases hx : 130 < xs.length
  · refine Comp.body (T := tab) (res := [.tmp 6]) tab_ok [] Try.func5 rfl (by kernel_rfl) Try.ntmps5 rfl (by simp only [List.length_cons, List.length_nil]; decide) (by simp only [lowL, AV.low, lowI]; rfl) ?_; conv => whnf
    repeat' first
        | ((with_reducible apply XBr.tt); conv => whnf)
        | ((with_reducible apply XBr.ff); conv => whnf)
        | (with_reducible apply XBr.not)
        | ((with_reducible apply XBr.dec) <;> (intro h; first | (exfalso; omega) | ((try simp only [List.length_map] at h); first | (exfalso; omega) | (conv => whnf))))
        | ((with_reducible apply XBr.beq) <;> (intro h; first | (exfalso; omega) | (conv => whnf)))
        | ((with_reducible apply XBr.bne) <;> (intro h; first | (exfalso; omega) | (conv => whnf)))
        | ((with_reducible refine XInt.i64 (by omega) (by omega) ?_); conv => whnf)
        | ((with_reducible refine XHold.mk ?_ ?_); (first | omega | rfl | decide | exact ⟨rfl, by decide, rfl⟩ | exact wideI _ | exact widePr _ | exact wideSk _ | (unfold Room; constructor <;> ((try simp) <;> omega)) | exact ⟨rfl, by simp only [List.length_map], by unfold Room; constructor <;> ((try simp) <;> omega)⟩ | exact ⟨by omega, by omega, by unfold Room; constructor <;> ((try simp) <;> omega)⟩); conv => whnf)
        | ((with_reducible refine XIx.nat ?_ ?_ ?_); omega; (intro _; rfl); conv => whnf)
        | ((with_reducible refine XIx.map ?_ ?_ ?_ ?_); omega; omega; (intro _; rfl); conv => whnf)
        | (with_reducible apply XAnd.mk)
        | ((with_reducible apply Chk.go); conv => whnf)
        | ((with_reducible apply ChkA.go); conv => whnf)
        | ((with_reducible apply ChkF.go); conv => whnf)
        | ((with_reducible apply ChkB.go); conv => whnf)
        | (exact XSame.mk rfl rfl)
        | (exact XSame.mk (by first | rfl | (simp only [List.map_append, List.length_append, List.length_map]; done) | (simp only [List.map_append, List.length_append, List.length_map]; rfl)) (by first | rfl | (simp only [List.map_append]; done) | (simp only [List.map_append]; rfl)))
        | (with_reducible exact trivial)
        | ((with_reducible refine xdrop_app (by rw [List.length_map]; omega) ?_); conv => whnf)
        | ((with_reducible refine XArr.ints (by omega) (by omega) (by omega) ?_); conv => whnf)
        | ((with_reducible refine XArr.intsA (by omega) (by omega) (by omega) ?_); conv => whnf)
        | ((with_reducible refine XArr.nats ?_ ?_ ?_); omega; omega; conv => whnf)
        | ((with_reducible refine XArr.natsA ?_ ?_ ?_); omega; omega; conv => whnf)
        | ((with_reducible apply XArr.pim0); conv => whnf)
        | ((with_reducible apply XArr.pim1); conv => whnf)
        | ((with_reducible refine XArr.ptr ?_ ?_ ?_); omega; omega; conv => whnf)
        | ((with_reducible apply XBr.mk') <;> (intro h; conv => whnf))
    refine XCall.ret awake_c ?_
    conv => whnf
    exact XOut.bool rfl
  · have hl : xs.length ≤ 100000 := by omega
    have hs := sizes_eq xs g
    have hs1 := sizes_eq xs 1
    obtain ⟨i, j, hg⟩ := gaugeR_form xs most (riddledR xs 1)
    have c1 := gauge_c false xs most hl
    have c2 := refGauge_c nl xs most hl
    rw [hs1] at c2
    rw [hg] at c1 c2
    have c3 := sizes_c nl xs g
    rw [hs] at c3
    have c4 := riddle_c false xs g hl
    unfold riddleR riddleA at c4
    by_cases he : riddledR xs g = 0
    · rw [if_pos he] at c4
      rw [he] at c3
      have c5 := refRiddle_c nl xs g hl
      have hk := eq_int (keptL xs g).isEmpty (keptL xs g).isEmpty (keptL xs g) (keptL xs g) (by have := kept_le xs g xs.length; rw [List.take_length] at this; omega)
      have ht := eq_int (thruL xs g).isEmpty (thruL xs g).isEmpty (thruL xs g) (thruL xs g) (by have := thru_le xs g xs.length; rw [List.take_length] at this; omega)
      have hd := eq_int false nl xs xs hl
      rw [beq_self_eq_true] at hk ht hd
      refine Comp.body (T := tab) (res := [.tmp 6]) tab_ok [] Try.func5 rfl (by kernel_rfl) Try.ntmps5 rfl (by simp only [List.length_cons, List.length_nil]; decide) (by simp only [lowL, AV.low, lowI]; rfl) ?_; conv => whnf
      repeat' first
          | ((with_reducible apply XBr.tt); conv => whnf)
          | ((with_reducible apply XBr.ff); conv => whnf)
          | (with_reducible apply XBr.not)
          | ((with_reducible apply XBr.dec) <;> (intro h; first | (exfalso; omega) | ((try simp only [List.length_map] at h); first | (exfalso; omega) | (conv => whnf))))
          | ((with_reducible apply XBr.beq) <;> (intro h; first | (exfalso; omega) | (conv => whnf)))
          | ((with_reducible apply XBr.bne) <;> (intro h; first | (exfalso; omega) | (conv => whnf)))
          | ((with_reducible refine XInt.i64 (by omega) (by omega) ?_); conv => whnf)
          | ((with_reducible refine XHold.mk ?_ ?_); (first | omega | rfl | decide | exact ⟨rfl, by decide, rfl⟩ | exact wideI _ | exact widePr _ | exact wideSk _ | (unfold Room; constructor <;> ((try simp) <;> omega)) | exact ⟨rfl, by simp only [List.length_map], by unfold Room; constructor <;> ((try simp) <;> omega)⟩ | exact ⟨by omega, by omega, by unfold Room; constructor <;> ((try simp) <;> omega)⟩); conv => whnf)
          | ((with_reducible refine XIx.nat ?_ ?_ ?_); omega; (intro _; rfl); conv => whnf)
          | ((with_reducible refine XIx.map ?_ ?_ ?_ ?_); omega; omega; (intro _; rfl); conv => whnf)
          | (with_reducible apply XAnd.mk)
          | ((with_reducible apply Chk.go); conv => whnf)
          | ((with_reducible apply ChkA.go); conv => whnf)
          | ((with_reducible apply ChkF.go); conv => whnf)
          | ((with_reducible apply ChkB.go); conv => whnf)
          | (exact XSame.mk rfl rfl)
          | (exact XSame.mk (by first | rfl | (simp only [List.map_append, List.length_append, List.length_map]; done) | (simp only [List.map_append, List.length_append, List.length_map]; rfl)) (by first | rfl | (simp only [List.map_append]; done) | (simp only [List.map_append]; rfl)))
          | (with_reducible exact trivial)
          | ((with_reducible refine xdrop_app (by rw [List.length_map]; omega) ?_); conv => whnf)
          | ((with_reducible refine XArr.ints (by omega) (by omega) (by omega) ?_); conv => whnf)
          | ((with_reducible refine XArr.intsA (by omega) (by omega) (by omega) ?_); conv => whnf)
          | ((with_reducible refine XArr.nats ?_ ?_ ?_); omega; omega; conv => whnf)
          | ((with_reducible refine XArr.natsA ?_ ?_ ?_); omega; omega; conv => whnf)
          | ((with_reducible apply XArr.pim0); conv => whnf)
          | ((with_reducible apply XArr.pim1); conv => whnf)
          | ((with_reducible refine XArr.ptr ?_ ?_ ?_); omega; omega; conv => whnf)
          | (refine XCall.ret (dup_int nl xs hl) ?_; conv => whnf)
          | (refine XCall.ret c4 ?_; conv => whnf)
          | (refine XCall.ret c3 ?_; conv => whnf)
          | (refine XCall.ret c5 ?_; conv => whnf)
          | (refine XCall.ret hk ?_; conv => whnf)
          | (refine XCall.ret ht ?_; conv => whnf)
          | (refine XCall.ret c1 ?_; conv => whnf)
          | (refine XCall.ret c2 ?_; conv => whnf)
          | (refine XCall.ret hd ?_; conv => whnf)
          | (refine XCall.ret awake_c ?_; conv => whnf)
          | ((with_reducible apply XBr.mk') <;> (intro h; conv => whnf))
      exact XOut.bool rfl
    · rw [if_neg he] at c4
      have hn := eq_int true true [] [] (by decide)
      have hd := eq_int false nl xs xs hl
      rw [beq_self_eq_true] at hn hd
      refine Comp.body (T := tab) (res := [.tmp 6]) tab_ok [] Try.func5 rfl (by kernel_rfl) Try.ntmps5 rfl (by simp only [List.length_cons, List.length_nil]; decide) (by simp only [lowL, AV.low, lowI]; rfl) ?_; conv => whnf
      repeat' first
          | ((with_reducible apply XBr.tt); conv => whnf)
          | ((with_reducible apply XBr.ff); conv => whnf)
          | (with_reducible apply XBr.not)
          | ((with_reducible apply XBr.dec) <;> (intro h; first | (exfalso; omega) | ((try simp only [List.length_map] at h); first | (exfalso; omega) | (conv => whnf))))
          | ((with_reducible apply XBr.beq) <;> (intro h; first | (exfalso; omega) | (conv => whnf)))
          | ((with_reducible apply XBr.bne) <;> (intro h; first | (exfalso; omega) | (conv => whnf)))
          | ((with_reducible refine XInt.i64 (by omega) (by omega) ?_); conv => whnf)
          | ((with_reducible refine XHold.mk ?_ ?_); (first | omega | rfl | decide | exact ⟨rfl, by decide, rfl⟩ | exact wideI _ | exact widePr _ | exact wideSk _ | (unfold Room; constructor <;> ((try simp) <;> omega)) | exact ⟨rfl, by simp only [List.length_map], by unfold Room; constructor <;> ((try simp) <;> omega)⟩ | exact ⟨by omega, by omega, by unfold Room; constructor <;> ((try simp) <;> omega)⟩); conv => whnf)
          | ((with_reducible refine XIx.nat ?_ ?_ ?_); omega; (intro _; rfl); conv => whnf)
          | ((with_reducible refine XIx.map ?_ ?_ ?_ ?_); omega; omega; (intro _; rfl); conv => whnf)
          | (with_reducible apply XAnd.mk)
          | ((with_reducible apply Chk.go); conv => whnf)
          | ((with_reducible apply ChkA.go); conv => whnf)
          | ((with_reducible apply ChkF.go); conv => whnf)
          | ((with_reducible apply ChkB.go); conv => whnf)
          | (exact XSame.mk rfl rfl)
          | (exact XSame.mk (by first | rfl | (simp only [List.map_append, List.length_append, List.length_map]; done) | (simp only [List.map_append, List.length_append, List.length_map]; rfl)) (by first | rfl | (simp only [List.map_append]; done) | (simp only [List.map_append]; rfl)))
          | (with_reducible exact trivial)
          | ((with_reducible refine xdrop_app (by rw [List.length_map]; omega) ?_); conv => whnf)
          | ((with_reducible refine XArr.ints (by omega) (by omega) (by omega) ?_); conv => whnf)
          | ((with_reducible refine XArr.intsA (by omega) (by omega) (by omega) ?_); conv => whnf)
          | ((with_reducible refine XArr.nats ?_ ?_ ?_); omega; omega; conv => whnf)
          | ((with_reducible refine XArr.natsA ?_ ?_ ?_); omega; omega; conv => whnf)
          | ((with_reducible apply XArr.pim0); conv => whnf)
          | ((with_reducible apply XArr.pim1); conv => whnf)
          | ((with_reducible refine XArr.ptr ?_ ?_ ?_); omega; omega; conv => whnf)
          | (refine XCall.ret (dup_int nl xs hl) ?_; conv => whnf)
          | (refine XCall.ret c4 ?_; conv => whnf)
          | (refine XCall.ret c3 ?_; conv => whnf)
          | (refine XCall.ret hn ?_; conv => whnf)
          | (refine XCall.ret c1 ?_; conv => whnf)
          | (refine XCall.ret c2 ?_; conv => whnf)
          | (refine XCall.ret hd ?_; conv => whnf)
          | (refine XCall.ret awake_c ?_; conv => whnf)
          | ((with_reducible apply XBr.mk') <;> (intro h; conv => whnf))
      exact XOut.bool rfl
end GA
