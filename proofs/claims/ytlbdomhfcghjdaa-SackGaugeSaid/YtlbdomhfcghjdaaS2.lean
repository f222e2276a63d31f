/- Contracts: comparing, copying, riddles and gauges. -/
import Derived.Test.YtlbdomhfcghjdaaS1
namespace GA
open Go Go.RowKit Go.Proofs
set_option pp.deepTerms true
set_option maxRecDepth 8000
set_option linter.unusedVariables false

theorem eq_of_getD {α : Type} {xs ys : List α} {d : α} (hl : xs.length = ys.length) (h : ∀ j, j < xs.length → xs.getD j d = ys.getD j d) : xs = ys := by
  apply List.ext_getElem hl
  intro j h1 h2
  have := h j h1
  rwa [List.getD_eq_getElem?_getD, List.getD_eq_getElem?_getD, List.getElem?_eq_getElem h1, List.getElem?_eq_getElem h2] at this

theorem equal_int (n1 n2 : Bool) (xs ys : List Int) (hx : xs.length ≤ 100000) : Comp Try.prog 91 [.sl n1 (ints xs), .sl n2 (ints ys)] (.bool (xs == ys)) := by
  refine Comp.body (T := tab) (res := [.tmp 4]) tab_ok [] Try.func91 rfl (by kernel_rfl) Try.ntmps91 rfl (by simp only [List.length_cons, List.length_nil]; decide) (by simp only [lowL, AV.low, lowI]; rfl) ?_; conv => whnf
  repeat' first
      | ((with_reducible apply XBr.tt); conv => whnf)
      | ((with_reducible apply XBr.ff); conv => whnf)
      | (with_reducible apply XBr.not)
      | ((with_reducible apply XBr.dec) <;> (intro h; first | (exfalso; omega) | ((try simp only [List.length_map] at h); first | (exfalso; omega) | (conv => whnf))))
      | ((with_reducible apply XBr.beq) <;> (intro h; first | (exfalso; omega) | (conv => whnf)))
      | ((with_reducible apply XBr.bne) <;> (intro h; first | (exfalso; omega) | (conv => whnf)))
      | ((with_reducible refine XInt.i64 (by omega) (by omega) ?_); conv => whnf)
      | ((with_reducible refine XHold.mk ?_ ?_); (first | omega | rfl | decide | exact ⟨rfl, by decide, rfl⟩ | exact wideI _ | exact widePr _ | exact wideSk _ | (unfold Room; constructor <;> ((try simp) <;> omega)) | exact ⟨rfl, by simp only [List.length_map], by unfold Room; constructor <;> ((try simp) <;> omega)⟩ | exact ⟨by omega, by omega, by unfold Room; constructor <;> ((try simp) <;> omega)⟩); conv => whnf)
      | ((with_reducible refine XIx.nat ?_ ?_ ?_); omega; (intro _; rfl); conv => whnf)
      | ((with_reducible refine XIx.map ?_ ?_ ?_ ?_); omega; omega; (intro _; rfl); conv => whnf)
      | (with_reducible apply XAnd.mk)
      | ((with_reducible apply Chk.go); conv => whnf)
      | ((with_reducible apply ChkA.go); conv => whnf)
      | ((with_reducible apply ChkF.go); conv => whnf)
      | ((with_reducible apply ChkB.go); conv => whnf)
      | (exact XSame.mk rfl rfl)
      | (exact XSame.mk (by first | rfl | (simp only [List.map_append, List.length_append, List.length_map]; done) | (simp only [List.map_append, List.length_append, List.length_map]; rfl)) (by first | rfl | (simp only [List.map_append]; done) | (simp only [List.map_append]; rfl)))
      | (with_reducible exact trivial)
      | ((with_reducible refine xdrop_app (by rw [List.length_map]; omega) ?_); conv => whnf)
      | ((with_reducible refine XArr.ints (by omega) (by omega) (by omega) ?_); conv => whnf)
      | ((with_reducible refine XArr.intsA (by omega) (by omega) (by omega) ?_); conv => whnf)
      | ((with_reducible refine XArr.nats ?_ ?_ ?_); omega; omega; conv => whnf)
      | ((with_reducible refine XArr.natsA ?_ ?_ ?_); omega; omega; conv => whnf)
      | ((with_reducible apply XArr.pim0); conv => whnf)
      | ((with_reducible apply XArr.pim1); conv => whnf)
      | ((with_reducible refine XArr.ptr ?_ ?_ ?_); omega; omega; conv => whnf)
      | ((with_reducible apply XBr.mk') <;> (intro h; conv => whnf))
  · refine XOut.bool ?_
    rw [Bool.eq_iff_iff]; simp; intro e; subst e; simp at h
  have hl : (xs.length : Int) = ys.length := by simpa using h
  refine Walk.loop tab_ok [] (fun i : Nat => i ≤ xs.length ∧ ∀ j, j < i → xs.getD j default = ys.getD j default) (fun i => [(0, .sl n1 (ints xs)), (1, .sl n2 (ints ys)), (12, .int .i64 xs.length), (13, .int .i64 i)]) (fun _ => []) (fun i => xs.length - i) 0 ⟨by omega, by omega⟩ rfl ⟨rfl, rfl, by simp only [List.length_map]; rfl, rfl, trivial⟩ ?_
  rintro i ⟨h2, h3⟩
  conv => whnf
  repeat' first
      | ((with_reducible apply XBr.tt); conv => whnf)
      | ((with_reducible apply XBr.ff); conv => whnf)
      | (with_reducible apply XBr.not)
      | ((with_reducible apply XBr.dec) <;> (intro h; first | (exfalso; omega) | ((try simp only [List.length_map] at h); first | (exfalso; omega) | (conv => whnf))))
      | ((with_reducible apply XBr.beq) <;> (intro h; first | (exfalso; omega) | (conv => whnf)))
      | ((with_reducible apply XBr.bne) <;> (intro h; first | (exfalso; omega) | (conv => whnf)))
      | ((with_reducible refine XInt.i64 (by omega) (by omega) ?_); conv => whnf)
      | ((with_reducible refine XHold.mk ?_ ?_); (first | omega | rfl | decide | exact ⟨rfl, by decide, rfl⟩ | exact wideI _ | exact widePr _ | exact wideSk _ | (unfold Room; constructor <;> ((try simp) <;> omega)) | exact ⟨rfl, by simp only [List.length_map], by unfold Room; constructor <;> ((try simp) <;> omega)⟩ | exact ⟨by omega, by omega, by unfold Room; constructor <;> ((try simp) <;> omega)⟩); conv => whnf)
      | ((with_reducible refine XIx.nat ?_ ?_ ?_); omega; (intro _; rfl); conv => whnf)
      | ((with_reducible refine XIx.map ?_ ?_ ?_ ?_); omega; omega; (intro _; rfl); conv => whnf)
      | (with_reducible apply XAnd.mk)
      | ((with_reducible apply Chk.go); conv => whnf)
      | ((with_reducible apply ChkA.go); conv => whnf)
      | ((with_reducible apply ChkF.go); conv => whnf)
      | ((with_reducible apply ChkB.go); conv => whnf)
      | (exact XSame.mk rfl rfl)
      | (exact XSame.mk (by first | rfl | (simp only [List.map_append, List.length_append, List.length_map]; done) | (simp only [List.map_append, List.length_append, List.length_map]; rfl)) (by first | rfl | (simp only [List.map_append]; done) | (simp only [List.map_append]; rfl)))
      | (with_reducible exact trivial)
      | ((with_reducible refine xdrop_app (by rw [List.length_map]; omega) ?_); conv => whnf)
      | ((with_reducible refine XArr.ints (by omega) (by omega) (by omega) ?_); conv => whnf)
      | ((with_reducible refine XArr.intsA (by omega) (by omega) (by omega) ?_); conv => whnf)
      | ((with_reducible refine XArr.nats ?_ ?_ ?_); omega; omega; conv => whnf)
      | ((with_reducible refine XArr.natsA ?_ ?_ ?_); omega; omega; conv => whnf)
      | ((with_reducible apply XArr.pim0); conv => whnf)
      | ((with_reducible apply XArr.pim1); conv => whnf)
      | ((with_reducible refine XArr.ptr ?_ ?_ ?_); omega; omega; conv => whnf)
      | ((with_reducible apply XBr.mk') <;> (intro h; conv => whnf))
  · apply Walk.drawX tab_ok mixed_ok [] [] (fun _ => []) [_, _, _, _, _, _, _, _, _] (by kernel_rfl) rfl
    · skip
      repeat' first
          | ((with_reducible apply XBr.tt); conv => whnf)
          | ((with_reducible apply XBr.ff); conv => whnf)
          | (with_reducible apply XBr.not)
          | ((with_reducible apply XBr.dec) <;> (intro h; first | (exfalso; omega) | ((try simp only [List.length_map] at h); first | (exfalso; omega) | (conv => whnf))))
          | ((with_reducible apply XBr.beq) <;> (intro h; first | (exfalso; omega) | (conv => whnf)))
          | ((with_reducible apply XBr.bne) <;> (intro h; first | (exfalso; omega) | (conv => whnf)))
          | ((with_reducible refine XInt.i64 (by omega) (by omega) ?_); conv => whnf)
          | ((with_reducible refine XHold.mk ?_ ?_); (first | omega | rfl | decide | exact ⟨rfl, by decide, rfl⟩ | exact wideI _ | exact widePr _ | exact wideSk _ | (unfold Room; constructor <;> ((try simp) <;> omega)) | exact ⟨rfl, by simp only [List.length_map], by unfold Room; constructor <;> ((try simp) <;> omega)⟩ | exact ⟨by omega, by omega, by unfold Room; constructor <;> ((try simp) <;> omega)⟩); conv => whnf)
          | ((with_reducible refine XIx.nat ?_ ?_ ?_); omega; (intro _; rfl); conv => whnf)
          | ((with_reducible refine XIx.map ?_ ?_ ?_ ?_); omega; omega; (intro _; rfl); conv => whnf)
          | (with_reducible apply XAnd.mk)
          | ((with_reducible apply Chk.go); conv => whnf)
          | ((with_reducible apply ChkA.go); conv => whnf)
          | ((with_reducible apply ChkF.go); conv => whnf)
          | ((with_reducible apply ChkB.go); conv => whnf)
          | (exact XSame.mk rfl rfl)
          | (exact XSame.mk (by first | rfl | (simp only [List.map_append, List.length_append, List.length_map]; done) | (simp only [List.map_append, List.length_append, List.length_map]; rfl)) (by first | rfl | (simp only [List.map_append]; done) | (simp only [List.map_append]; rfl)))
          | (with_reducible exact trivial)
          | ((with_reducible refine xdrop_app (by rw [List.length_map]; omega) ?_); conv => whnf)
          | ((with_reducible refine XArr.ints (by omega) (by omega) (by omega) ?_); conv => whnf)
          | ((with_reducible refine XArr.intsA (by omega) (by omega) (by omega) ?_); conv => whnf)
          | ((with_reducible refine XArr.nats ?_ ?_ ?_); omega; omega; conv => whnf)
          | ((with_reducible refine XArr.natsA ?_ ?_ ?_); omega; omega; conv => whnf)
          | ((with_reducible apply XArr.pim0); conv => whnf)
          | ((with_reducible apply XArr.pim1); conv => whnf)
          | ((with_reducible refine XArr.ptr ?_ ?_ ?_); omega; omega; conv => whnf)
          | ((with_reducible apply XBr.mk') <;> (intro h; conv => whnf))
    · skip
      repeat' first
          | ((with_reducible apply XBr.tt); conv => whnf)
          | ((with_reducible apply XBr.ff); conv => whnf)
          | (with_reducible apply XBr.not)
          | ((with_reducible apply XBr.dec) <;> (intro h; first | (exfalso; omega) | ((try simp only [List.length_map] at h); first | (exfalso; omega) | (conv => whnf))))
          | ((with_reducible apply XBr.beq) <;> (intro h; first | (exfalso; omega) | (conv => whnf)))
          | ((with_reducible apply XBr.bne) <;> (intro h; first | (exfalso; omega) | (conv => whnf)))
          | ((with_reducible refine XInt.i64 (by omega) (by omega) ?_); conv => whnf)
          | ((with_reducible refine XHold.mk ?_ ?_); (first | omega | rfl | decide | exact ⟨rfl, by decide, rfl⟩ | exact wideI _ | exact widePr _ | exact wideSk _ | (unfold Room; constructor <;> ((try simp) <;> omega)) | exact ⟨rfl, by simp only [List.length_map], by unfold Room; constructor <;> ((try simp) <;> omega)⟩ | exact ⟨by omega, by omega, by unfold Room; constructor <;> ((try simp) <;> omega)⟩); conv => whnf)
          | ((with_reducible refine XIx.nat ?_ ?_ ?_); omega; (intro _; rfl); conv => whnf)
          | ((with_reducible refine XIx.map ?_ ?_ ?_ ?_); omega; omega; (intro _; rfl); conv => whnf)
          | (with_reducible apply XAnd.mk)
          | ((with_reducible apply Chk.go); conv => whnf)
          | ((with_reducible apply ChkA.go); conv => whnf)
          | ((with_reducible apply ChkF.go); conv => whnf)
          | ((with_reducible apply ChkB.go); conv => whnf)
          | (exact XSame.mk rfl rfl)
          | (exact XSame.mk (by first | rfl | (simp only [List.map_append, List.length_append, List.length_map]; done) | (simp only [List.map_append, List.length_append, List.length_map]; rfl)) (by first | rfl | (simp only [List.map_append]; done) | (simp only [List.map_append]; rfl)))
          | (with_reducible exact trivial)
          | ((with_reducible refine xdrop_app (by rw [List.length_map]; omega) ?_); conv => whnf)
          | ((with_reducible refine XArr.ints (by omega) (by omega) (by omega) ?_); conv => whnf)
          | ((with_reducible refine XArr.intsA (by omega) (by omega) (by omega) ?_); conv => whnf)
          | ((with_reducible refine XArr.nats ?_ ?_ ?_); omega; omega; conv => whnf)
          | ((with_reducible refine XArr.natsA ?_ ?_ ?_); omega; omega; conv => whnf)
          | ((with_reducible apply XArr.pim0); conv => whnf)
          | ((with_reducible apply XArr.pim1); conv => whnf)
          | ((with_reducible refine XArr.ptr ?_ ?_ ?_); omega; omega; conv => whnf)
          | ((with_reducible apply XBr.mk') <;> (intro h; conv => whnf))
    · conv => whnf
      repeat' first
          | ((with_reducible apply XBr.tt); conv => whnf)
          | ((with_reducible apply XBr.ff); conv => whnf)
          | (with_reducible apply XBr.not)
          | ((with_reducible apply XBr.dec) <;> (intro h; first | (exfalso; omega) | ((try simp only [List.length_map] at h); first | (exfalso; omega) | (conv => whnf))))
          | ((with_reducible apply XBr.beq) <;> (intro h; first | (exfalso; omega) | (conv => whnf)))
          | ((with_reducible apply XBr.bne) <;> (intro h; first | (exfalso; omega) | (conv => whnf)))
          | ((with_reducible refine XInt.i64 (by omega) (by omega) ?_); conv => whnf)
          | ((with_reducible refine XHold.mk ?_ ?_); (first | omega | rfl | decide | exact ⟨rfl, by decide, rfl⟩ | exact wideI _ | exact widePr _ | exact wideSk _ | (unfold Room; constructor <;> ((try simp) <;> omega)) | exact ⟨rfl, by simp only [List.length_map], by unfold Room; constructor <;> ((try simp) <;> omega)⟩ | exact ⟨by omega, by omega, by unfold Room; constructor <;> ((try simp) <;> omega)⟩); conv => whnf)
          | ((with_reducible refine XIx.nat ?_ ?_ ?_); omega; (intro _; rfl); conv => whnf)
          | ((with_reducible refine XIx.map ?_ ?_ ?_ ?_); omega; omega; (intro _; rfl); conv => whnf)
          | (with_reducible apply XAnd.mk)
          | ((with_reducible apply Chk.go); conv => whnf)
          | ((with_reducible apply ChkA.go); conv => whnf)
          | ((with_reducible apply ChkF.go); conv => whnf)
          | ((with_reducible apply ChkB.go); conv => whnf)
          | (exact XSame.mk rfl rfl)
          | (exact XSame.mk (by first | rfl | (simp only [List.map_append, List.length_append, List.length_map]; done) | (simp only [List.map_append, List.length_append, List.length_map]; rfl)) (by first | rfl | (simp only [List.map_append]; done) | (simp only [List.map_append]; rfl)))
          | (with_reducible exact trivial)
          | ((with_reducible refine xdrop_app (by rw [List.length_map]; omega) ?_); conv => whnf)
          | ((with_reducible refine XArr.ints (by omega) (by omega) (by omega) ?_); conv => whnf)
          | ((with_reducible refine XArr.intsA (by omega) (by omega) (by omega) ?_); conv => whnf)
          | ((with_reducible refine XArr.nats ?_ ?_ ?_); omega; omega; conv => whnf)
          | ((with_reducible refine XArr.natsA ?_ ?_ ?_); omega; omega; conv => whnf)
          | ((with_reducible apply XArr.pim0); conv => whnf)
          | ((with_reducible apply XArr.pim1); conv => whnf)
          | ((with_reducible refine XArr.ptr ?_ ?_ ?_); omega; omega; conv => whnf)
          | ((with_reducible apply XBr.mk') <;> (intro h; conv => whnf))
      · refine XOut.bool ?_
        rw [Bool.eq_iff_iff]; simp
        intro e; subst e; exact h rfl
      · refine XAgain.go (i + 1) ⟨by omega, fun j hj => ?_⟩ (by omega) rfl ⟨rfl, rfl, rfl, rfl, trivial⟩
        by_cases hji : j = i
        · subst hji; exact h
        · exact h3 j (by omega)
  · refine XOut.bool ?_
    have := eq_of_getD (by omega) fun j hj => h3 j (by omega)
    rw [this]; simp
theorem eq_int (n1 n2 : Bool) (xs ys : List Int) (hx : xs.length ≤ 100000) : Comp Try.prog 30 [.sl n1 (ints xs), .sl n2 (ints ys)] (.bool (xs == ys)) := by
  refine Comp.body (T := tab) (res := [.tmp 4]) tab_ok [] Try.func30 rfl (by kernel_rfl) Try.ntmps30 rfl (by simp only [List.length_cons, List.length_nil]; decide) (by simp only [lowL, AV.low, lowI]; rfl) ?_; conv => whnf
  refine XCall.ret (equal_int n1 n2 xs ys hx) ?_
  conv => whnf
  exact XOut.bool rfl

def sizesR (xs : List Int) (c : Int) : Int := if 100 < xs.length then 2 else if xs.any (offB · 1 40) then 3 else if offB c 1 40 then 3 else 0
theorem any_getD {α : Type} {p : α → Bool} {xs : List α} {d : α} {i : Nat} (hi : i < xs.length) (h : p (xs.getD i d) = true) : xs.any p = true := by
  rw [List.any_eq_true]; exact ⟨_, getD_mem hi, h⟩
theorem not_any_getD {α : Type} {p : α → Bool} {xs : List α} {d : α} (h : ∀ j, j < xs.length → p (xs.getD j d) = false) : xs.any p = false := by
  rw [List.any_eq_false]; intro x hx
  obtain ⟨j, hj, rfl⟩ := List.mem_iff_getElem.1 hx
  have := h j hj; rw [List.getD_eq_getElem?_getD, List.getElem?_eq_getElem hj] at this; simpa using this
theorem sizes_c (nl : Bool) (xs : List Int) (c : Int) : Comp Try.prog 28 [.sl nl (ints xs), .int .i64 c] (.int .i64 (sizesR xs c)) := by
  refine Comp.body (T := tab) (res := [.tmp 4]) tab_ok [] Try.func28 rfl (by kernel_rfl) Try.ntmps28 rfl (by simp only [List.length_cons, List.length_nil]; decide) (by simp only [lowL, AV.low, lowI]; rfl) ?_; conv => whnf
  repeat' first
      | ((with_reducible apply XBr.tt); conv => whnf)
      | ((with_reducible apply XBr.ff); conv => whnf)
      | (with_reducible apply XBr.not)
      | ((with_reducible apply XBr.dec) <;> (intro h; first | (exfalso; omega) | ((try simp only [List.length_map] at h); first | (exfalso; omega) | (conv => whnf))))
      | ((with_reducible apply XBr.beq) <;> (intro h; first | (exfalso; omega) | (conv => whnf)))
      | ((with_reducible apply XBr.bne) <;> (intro h; first | (exfalso; omega) | (conv => whnf)))
      | ((with_reducible refine XInt.i64 (by omega) (by omega) ?_); conv => whnf)
      | ((with_reducible refine XHold.mk ?_ ?_); (first | omega | rfl | decide | exact ⟨rfl, by decide, rfl⟩ | exact wideI _ | exact widePr _ | exact wideSk _ | (unfold Room; constructor <;> ((try simp) <;> omega)) | exact ⟨rfl, by simp only [List.length_map], by unfold Room; constructor <;> ((try simp) <;> omega)⟩ | exact ⟨by omega, by omega, by unfold Room; constructor <;> ((try simp) <;> omega)⟩); conv => whnf)
      | ((with_reducible refine XIx.nat ?_ ?_ ?_); omega; (intro _; rfl); conv => whnf)
      | ((with_reducible refine XIx.map ?_ ?_ ?_ ?_); omega; omega; (intro _; rfl); conv => whnf)
      | (with_reducible apply XAnd.mk)
      | ((with_reducible apply Chk.go); conv => whnf)
      | ((with_reducible apply ChkA.go); conv => whnf)
      | ((with_reducible apply ChkF.go); conv => whnf)
      | ((with_reducible apply ChkB.go); conv => whnf)
      | (exact XSame.mk rfl rfl)
      | (exact XSame.mk (by first | rfl | (simp only [List.map_append, List.length_append, List.length_map]; done) | (simp only [List.map_append, List.length_append, List.length_map]; rfl)) (by first | rfl | (simp only [List.map_append]; done) | (simp only [List.map_append]; rfl)))
      | (with_reducible exact trivial)
      | ((with_reducible refine xdrop_app (by rw [List.length_map]; omega) ?_); conv => whnf)
      | ((with_reducible refine XArr.ints (by omega) (by omega) (by omega) ?_); conv => whnf)
      | ((with_reducible refine XArr.intsA (by omega) (by omega) (by omega) ?_); conv => whnf)
      | ((with_reducible refine XArr.nats ?_ ?_ ?_); omega; omega; conv => whnf)
      | ((with_reducible refine XArr.natsA ?_ ?_ ?_); omega; omega; conv => whnf)
      | ((with_reducible apply XArr.pim0); conv => whnf)
      | ((with_reducible apply XArr.pim1); conv => whnf)
      | ((with_reducible refine XArr.ptr ?_ ?_ ?_); omega; omega; conv => whnf)
      | ((with_reducible apply XBr.mk') <;> (intro h; conv => whnf))
  · refine XOut.int ?_
    unfold sizesR; rw [if_pos (by omega)]
  refine Walk.loop tab_ok [] (fun i : Nat => i ≤ xs.length ∧ ∀ j, j < i → offB (xs.getD j default) 1 40 = false) (fun i => [(0, .sl nl (ints xs)), (1, .int .i64 c), (5, .int .i64 i)]) (fun _ => []) (fun i => xs.length - i) 0 ⟨by omega, by omega⟩ rfl ⟨rfl, rfl, rfl, trivial⟩ ?_
  rintro i ⟨h2, h3⟩
  conv => whnf
  repeat' first
      | ((with_reducible apply XBr.tt); conv => whnf)
      | ((with_reducible apply XBr.ff); conv => whnf)
      | (with_reducible apply XBr.not)
      | ((with_reducible apply XBr.dec) <;> (intro h; first | (exfalso; omega) | ((try simp only [List.length_map] at h); first | (exfalso; omega) | (conv => whnf))))
      | ((with_reducible apply XBr.beq) <;> (intro h; first | (exfalso; omega) | (conv => whnf)))
      | ((with_reducible apply XBr.bne) <;> (intro h; first | (exfalso; omega) | (conv => whnf)))
      | ((with_reducible refine XInt.i64 (by omega) (by omega) ?_); conv => whnf)
      | ((with_reducible refine XHold.mk ?_ ?_); (first | omega | rfl | decide | exact ⟨rfl, by decide, rfl⟩ | exact wideI _ | exact widePr _ | exact wideSk _ | (unfold Room; constructor <;> ((try simp) <;> omega)) | exact ⟨rfl, by simp only [List.length_map], by unfold Room; constructor <;> ((try simp) <;> omega)⟩ | exact ⟨by omega, by omega, by unfold Room; constructor <;> ((try simp) <;> omega)⟩); conv => whnf)
      | ((with_reducible refine XIx.nat ?_ ?_ ?_); omega; (intro _; rfl); conv => whnf)
      | ((with_reducible refine XIx.map ?_ ?_ ?_ ?_); omega; omega; (intro _; rfl); conv => whnf)
      | (with_reducible apply XAnd.mk)
      | ((with_reducible apply Chk.go); conv => whnf)
      | ((with_reducible apply ChkA.go); conv => whnf)
      | ((with_reducible apply ChkF.go); conv => whnf)
      | ((with_reducible apply ChkB.go); conv => whnf)
      | (exact XSame.mk rfl rfl)
      | (exact XSame.mk (by first | rfl | (simp only [List.map_append, List.length_append, List.length_map]; done) | (simp only [List.map_append, List.length_append, List.length_map]; rfl)) (by first | rfl | (simp only [List.map_append]; done) | (simp only [List.map_append]; rfl)))
      | (with_reducible exact trivial)
      | ((with_reducible refine xdrop_app (by rw [List.length_map]; omega) ?_); conv => whnf)
      | ((with_reducible refine XArr.ints (by omega) (by omega) (by omega) ?_); conv => whnf)
      | ((with_reducible refine XArr.intsA (by omega) (by omega) (by omega) ?_); conv => whnf)
      | ((with_reducible refine XArr.nats ?_ ?_ ?_); omega; omega; conv => whnf)
      | ((with_reducible refine XArr.natsA ?_ ?_ ?_); omega; omega; conv => whnf)
      | ((with_reducible apply XArr.pim0); conv => whnf)
      | ((with_reducible apply XArr.pim1); conv => whnf)
      | ((with_reducible refine XArr.ptr ?_ ?_ ?_); omega; omega; conv => whnf)
      | ((with_reducible apply XBr.mk') <;> (intro h; conv => whnf))
  · refine XCall.ret (off_c _ _ _) ?_
    conv => whnf
    refine XBr.mk' ?_ ?_ <;> intro h4 <;> (conv => whnf)
    · refine XOut.int ?_
      unfold sizesR; rw [if_neg (by omega), if_pos (any_getD (by omega) h4)]
    · skip
      repeat' first
          | ((with_reducible apply XBr.tt); conv => whnf)
          | ((with_reducible apply XBr.ff); conv => whnf)
          | (with_reducible apply XBr.not)
          | ((with_reducible apply XBr.dec) <;> (intro h; first | (exfalso; omega) | ((try simp only [List.length_map] at h); first | (exfalso; omega) | (conv => whnf))))
          | ((with_reducible apply XBr.beq) <;> (intro h; first | (exfalso; omega) | (conv => whnf)))
          | ((with_reducible apply XBr.bne) <;> (intro h; first | (exfalso; omega) | (conv => whnf)))
          | ((with_reducible refine XInt.i64 (by omega) (by omega) ?_); conv => whnf)
          | ((with_reducible refine XHold.mk ?_ ?_); (first | omega | rfl | decide | exact ⟨rfl, by decide, rfl⟩ | exact wideI _ | exact widePr _ | exact wideSk _ | (unfold Room; constructor <;> ((try simp) <;> omega)) | exact ⟨rfl, by simp only [List.length_map], by unfold Room; constructor <;> ((try simp) <;> omega)⟩ | exact ⟨by omega, by omega, by unfold Room; constructor <;> ((try simp) <;> omega)⟩); conv => whnf)
          | ((with_reducible refine XIx.nat ?_ ?_ ?_); omega; (intro _; rfl); conv => whnf)
          | ((with_reducible refine XIx.map ?_ ?_ ?_ ?_); omega; omega; (intro _; rfl); conv => whnf)
          | (with_reducible apply XAnd.mk)
          | ((with_reducible apply Chk.go); conv => whnf)
          | ((with_reducible apply ChkA.go); conv => whnf)
          | ((with_reducible apply ChkF.go); conv => whnf)
          | ((with_reducible apply ChkB.go); conv => whnf)
          | (exact XSame.mk rfl rfl)
          | (exact XSame.mk (by first | rfl | (simp only [List.map_append, List.length_append, List.length_map]; done) | (simp only [List.map_append, List.length_append, List.length_map]; rfl)) (by first | rfl | (simp only [List.map_append]; done) | (simp only [List.map_append]; rfl)))
          | (with_reducible exact trivial)
          | ((with_reducible refine xdrop_app (by rw [List.length_map]; omega) ?_); conv => whnf)
          | ((with_reducible refine XArr.ints (by omega) (by omega) (by omega) ?_); conv => whnf)
          | ((with_reducible refine XArr.intsA (by omega) (by omega) (by omega) ?_); conv => whnf)
          | ((with_reducible refine XArr.nats ?_ ?_ ?_); omega; omega; conv => whnf)
          | ((with_reducible refine XArr.natsA ?_ ?_ ?_); omega; omega; conv => whnf)
          | ((with_reducible apply XArr.pim0); conv => whnf)
          | ((with_reducible apply XArr.pim1); conv => whnf)
          | ((with_reducible refine XArr.ptr ?_ ?_ ?_); omega; omega; conv => whnf)
          | ((with_reducible apply XBr.mk') <;> (intro h; conv => whnf))
      refine XAgain.go (i + 1) ⟨by omega, fun j hj => ?_⟩ (by omega) rfl ⟨rfl, rfl, rfl, trivial⟩
      by_cases hji : j = i
      · subst hji; exact h4
      · exact h3 j (by omega)
  · have hn := not_any_getD (p := (offB · 1 40)) fun j hj => h3 j (by omega)
    refine XCall.ret (off_c _ _ _) ?_
    conv => whnf
    refine XBr.mk' ?_ ?_ <;> intro h4 <;> (conv => whnf)
    · refine XOut.int ?_
      unfold sizesR; rw [if_neg (by omega), hn]; simp [h4]
    · refine XOut.int ?_
      unfold sizesR; rw [if_neg (by omega), hn]; simp [h4]

theorem dup_int (nl : Bool) (xs : List Int) (hx : xs.length ≤ 100000) : Comp Try.prog 26 [.sl nl (ints xs)] (.sl false (ints xs)) := by
  refine Comp.body (T := tab) (res := [.tmp 2]) tab_ok [] Try.func26 rfl (by kernel_rfl) Try.ntmps26 rfl (by simp only [List.length_cons, List.length_nil]; decide) (by simp only [lowL, AV.low, lowI]; rfl) ?_; conv => whnf
  refine XHold.mk ⟨by omega, by simp, by unfold Room; simp; omega⟩ ?_
  conv => whnf
  refine XHold.mk (wideI xs) ?_
  conv => whnf
  refine XHold.mk ⟨rfl, rfl, by unfold Room; simp; omega⟩ ?_
  conv => whnf
  exact ⟨Froz.grow rfl (by simp) (lowI xs)⟩

def keptL (xs : List Int) (g : Int) : List Int := xs.filter fun x => decide (g ≤ x)
def thruL (xs : List Int) (g : Int) : List Int := xs.filter fun x => decide (x < g)
theorem kept_next {xs : List Int} {g : Int} {i : Nat} (h : i < xs.length) : keptL (xs.take (i + 1)) g = if g ≤ xs.getD i default then keptL (xs.take i) g ++ [xs.getD i default] else keptL (xs.take i) g := by
  unfold keptL; rw [take_next h, List.filter_append]
  by_cases hg : g ≤ xs.getD i default
  · rw [if_pos hg, List.filter_cons_of_pos (by simpa only [decide_eq_true_eq] using hg)]; rfl
  · rw [if_neg hg, List.filter_cons_of_neg (by simpa only [decide_eq_true_eq] using hg)]; simp only [List.filter_nil, List.append_nil]
theorem thru_next {xs : List Int} {g : Int} {i : Nat} (h : i < xs.length) : thruL (xs.take (i + 1)) g = if xs.getD i default < g then thruL (xs.take i) g ++ [xs.getD i default] else thruL (xs.take i) g := by
  unfold thruL; rw [take_next h, List.filter_append]
  by_cases hg : xs.getD i default < g
  · rw [if_pos hg, List.filter_cons_of_pos (by simpa only [decide_eq_true_eq] using hg)]; rfl
  · rw [if_neg hg, List.filter_cons_of_neg (by simpa only [decide_eq_true_eq] using hg)]; simp only [List.filter_nil, List.append_nil]
theorem kept_le (xs : List Int) (g : Int) (i : Nat) : (keptL (xs.take i) g).length ≤ xs.length := by
  have h1 := List.length_filter_le (fun x => decide (g ≤ x)) (xs.take i)
  have h2 : (xs.take i).length = min i xs.length := List.length_take
  unfold keptL; omega
theorem thru_le (xs : List Int) (g : Int) (i : Nat) : (thruL (xs.take i) g).length ≤ xs.length := by
  have h1 := List.length_filter_le (fun x => decide (x < g)) (xs.take i)
  have h2 : (xs.take i).length = min i xs.length := List.length_take
  unfold thruL; omega
def slA (xs : List Int) : AV := .sl xs.isEmpty (ints xs)
def riddleA (xs : List Int) (g : Int) : AV := .tup [slA (keptL xs g), slA (thruL xs g), .int .i64 0]
def riddleR (xs : List Int) (g : Int) : AV := if riddledR xs g = 0 then riddleA xs g else .tup [.sl true [], .sl true [], .int .i64 (riddledR xs g)]

theorem riddle_c (nl : Bool) (xs : List Int) (g : Int) (hx : xs.length ≤ 100000) : Comp Try.prog 27 [.sl nl (ints xs), .int .i64 g] (riddleR xs g) := by
  refine Comp.body (T := tab) (res := [.tmp 4, .tmp 5, .tmp 6]) tab_ok [] Try.func27 rfl (by kernel_rfl) Try.ntmps27 rfl (by simp only [List.length_cons, List.length_nil]; decide) (by simp only [lowL, AV.low, lowI]; rfl) ?_; conv => whnf
  refine XCall.ret (riddled_c nl xs g hx) ?_
  conv => whnf
  repeat' first
      | ((with_reducible apply XBr.tt); conv => whnf)
      | ((with_reducible apply XBr.ff); conv => whnf)
      | (with_reducible apply XBr.not)
      | ((with_reducible apply XBr.dec) <;> (intro h; first | (exfalso; omega) | ((try simp only [List.length_map] at h); first | (exfalso; omega) | (conv => whnf))))
      | ((with_reducible apply XBr.beq) <;> (intro h; first | (exfalso; omega) | (conv => whnf)))
      | ((with_reducible apply XBr.bne) <;> (intro h; first | (exfalso; omega) | (conv => whnf)))
      | ((with_reducible refine XInt.i64 (by omega) (by omega) ?_); conv => whnf)
      | ((with_reducible refine XHold.mk ?_ ?_); (first | omega | rfl | decide | exact ⟨rfl, by decide, rfl⟩ | exact wideI _ | exact widePr _ | exact wideSk _ | (unfold Room; constructor <;> ((try simp) <;> omega)) | exact ⟨rfl, by simp only [List.length_map], by unfold Room; constructor <;> ((try simp) <;> omega)⟩ | exact ⟨by omega, by omega, by unfold Room; constructor <;> ((try simp) <;> omega)⟩); conv => whnf)
      | ((with_reducible refine XIx.nat ?_ ?_ ?_); omega; (intro _; rfl); conv => whnf)
      | ((with_reducible refine XIx.map ?_ ?_ ?_ ?_); omega; omega; (intro _; rfl); conv => whnf)
      | (with_reducible apply XAnd.mk)
      | ((with_reducible apply Chk.go); conv => whnf)
      | ((with_reducible apply ChkA.go); conv => whnf)
      | ((with_reducible apply ChkF.go); conv => whnf)
      | ((with_reducible apply ChkB.go); conv => whnf)
      | (exact XSame.mk rfl rfl)
      | (exact XSame.mk (by first | rfl | (simp only [List.map_append, List.length_append, List.length_map]; done) | (simp only [List.map_append, List.length_append, List.length_map]; rfl)) (by first | rfl | (simp only [List.map_append]; done) | (simp only [List.map_append]; rfl)))
      | (with_reducible exact trivial)
      | ((with_reducible refine xdrop_app (by rw [List.length_map]; omega) ?_); conv => whnf)
      | ((with_reducible refine XArr.ints (by omega) (by omega) (by omega) ?_); conv => whnf)
      | ((with_reducible refine XArr.intsA (by omega) (by omega) (by omega) ?_); conv => whnf)
      | ((with_reducible refine XArr.nats ?_ ?_ ?_); omega; omega; conv => whnf)
      | ((with_reducible refine XArr.natsA ?_ ?_ ?_); omega; omega; conv => whnf)
      | ((with_reducible apply XArr.pim0); conv => whnf)
      | ((with_reducible apply XArr.pim1); conv => whnf)
      | ((with_reducible refine XArr.ptr ?_ ?_ ?_); omega; omega; conv => whnf)
      | ((with_reducible apply XBr.mk') <;> (intro h; conv => whnf))
  · refine ⟨?_⟩
    unfold riddleR; rw [if_neg h]
    exact Froz.low rfl
  · refine Walk.nilgr 4 3 rfl (Walk.nilgr 5 3 rfl ?_)
    refine Walk.loop tab_ok [] (fun i : Nat => i ≤ xs.length) (fun i => [(0, .sl nl (ints xs)), (1, .int .i64 g), (16, .sl nl (ints xs)), (17, .int .i64 xs.length), (18, .int .i64 i), (4, .gr 0 (keptL (xs.take i) g).length), (5, .gr 1 (thruL (xs.take i) g).length)])
      (fun i => [.grow 3 (keptL (xs.take i) g).isEmpty (ints (keptL (xs.take i) g)), .grow 3 (thruL (xs.take i) g).isEmpty (ints (thruL (xs.take i) g))]) (fun i => xs.length - i) 0 (by omega) rfl ⟨rfl, rfl, rfl, by simp only [List.length_map]; rfl, rfl, rfl, rfl, trivial⟩ ?_
    intro i h2
    have hk := kept_le xs g i
    have ht := thru_le xs g i
    conv => whnf
    repeat' first
        | ((with_reducible apply XBr.tt); conv => whnf)
        | ((with_reducible apply XBr.ff); conv => whnf)
        | (with_reducible apply XBr.not)
        | ((with_reducible apply XBr.dec) <;> (intro h; first | (exfalso; omega) | ((try simp only [List.length_map] at h); first | (exfalso; omega) | (conv => whnf))))
        | ((with_reducible apply XBr.beq) <;> (intro h; first | (exfalso; omega) | (conv => whnf)))
        | ((with_reducible apply XBr.bne) <;> (intro h; first | (exfalso; omega) | (conv => whnf)))
        | ((with_reducible refine XInt.i64 (by omega) (by omega) ?_); conv => whnf)
        | ((with_reducible refine XHold.mk ?_ ?_); (first | omega | rfl | decide | exact ⟨rfl, by decide, rfl⟩ | exact wideI _ | exact widePr _ | exact wideSk _ | (unfold Room; constructor <;> ((try simp) <;> omega)) | exact ⟨rfl, by simp only [List.length_map], by unfold Room; constructor <;> ((try simp) <;> omega)⟩ | exact ⟨by omega, by omega, by unfold Room; constructor <;> ((try simp) <;> omega)⟩); conv => whnf)
        | ((with_reducible refine XIx.nat ?_ ?_ ?_); omega; (intro _; rfl); conv => whnf)
        | ((with_reducible refine XIx.map ?_ ?_ ?_ ?_); omega; omega; (intro _; rfl); conv => whnf)
        | (with_reducible apply XAnd.mk)
        | ((with_reducible apply Chk.go); conv => whnf)
        | ((with_reducible apply ChkA.go); conv => whnf)
        | ((with_reducible apply ChkF.go); conv => whnf)
        | ((with_reducible apply ChkB.go); conv => whnf)
        | (exact XSame.mk rfl rfl)
        | (exact XSame.mk (by first | rfl | (simp only [List.map_append, List.length_append, List.length_map]; done) | (simp only [List.map_append, List.length_append, List.length_map]; rfl)) (by first | rfl | (simp only [List.map_append]; done) | (simp only [List.map_append]; rfl)))
        | (with_reducible exact trivial)
        | ((with_reducible refine xdrop_app (by rw [List.length_map]; omega) ?_); conv => whnf)
        | ((with_reducible refine XArr.ints (by omega) (by omega) (by omega) ?_); conv => whnf)
        | ((with_reducible refine XArr.intsA (by omega) (by omega) (by omega) ?_); conv => whnf)
        | ((with_reducible refine XArr.nats ?_ ?_ ?_); omega; omega; conv => whnf)
        | ((with_reducible refine XArr.natsA ?_ ?_ ?_); omega; omega; conv => whnf)
        | ((with_reducible apply XArr.pim0); conv => whnf)
        | ((with_reducible apply XArr.pim1); conv => whnf)
        | ((with_reducible refine XArr.ptr ?_ ?_ ?_); omega; omega; conv => whnf)
        | ((with_reducible apply XBr.mk') <;> (intro h; conv => whnf))
    · refine XAgain.go (i + 1) (by omega) (by omega) ?_ ⟨rfl, rfl, rfl, rfl, rfl, ?_, ?_, trivial⟩
      · simp only [kept_next (show i < xs.length by omega), thru_next (show i < xs.length by omega), if_pos h, if_neg (show ¬ xs.getD i default < g by omega), List.map_append]
        simp
      · simp only [kept_next (show i < xs.length by omega), if_pos h, List.length_append]; rfl
      · simp only [thru_next (show i < xs.length by omega), if_neg (show ¬ xs.getD i default < g by omega)]; rfl
    · refine XAgain.go (i + 1) (by omega) (by omega) ?_ ⟨rfl, rfl, rfl, rfl, rfl, ?_, ?_, trivial⟩
      · simp only [kept_next (show i < xs.length by omega), thru_next (show i < xs.length by omega), if_neg h, if_pos (show xs.getD i default < g by omega), List.map_append]
        simp
      · simp only [kept_next (show i < xs.length by omega), if_neg h]; rfl
      · simp only [thru_next (show i < xs.length by omega), if_pos (show xs.getD i default < g by omega), List.length_append]; rfl
    · have hi : i = xs.length := by omega
      subst hi
      rw [List.take_length]
      refine ⟨?_⟩
      unfold riddleR; rw [if_pos (by assumption)]
      exact Froz.tup (.cons (Froz.grow rfl (by simp) (lowI _)) (.cons (Froz.grow rfl (by simp) (lowI _)) (.cons (Froz.low rfl) .nil)))
end GA
