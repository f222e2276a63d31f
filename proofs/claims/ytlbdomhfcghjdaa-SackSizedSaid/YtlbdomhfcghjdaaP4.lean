/- Part 4 of a proof: S4, S5, S6, S7, S8, S9, Abs25, S10, S11, S12, Abs26, Abs27. -/
import Derived.Test.YtlbdomhfcghjdaaP3
section
namespace GA
open Go Go.RowKit Go.Proofs
set_option pp.deepTerms true
set_option maxRecDepth 8000
set_option linter.unusedVariables false
set_option linter.unusedSimpArgs false

structure Sk where
  m : Int
  o : Int
  deriving Inhabited, DecidableEq
def skA (s : Sk) : AV := .agg [.int .i64 s.m, .int .i64 s.o]
def prA (p : Int × Int) : AV := .agg [.int .i64 p.1, .int .i64 p.2]
theorem skL {n : Nat} (s : Sk) : (skA s).low n = true := rfl
theorem prL {n : Nat} (p : Int × Int) : (prA p).low n = true := rfl
theorem lowSk {n : Nat} (xs : List Sk) : lowL n (xs.map skA) = true := lowL_map (fun _ => rfl) xs
theorem lowPr {n : Nat} (xs : List (Int × Int)) : lowL n (xs.map prA) = true := lowL_map (fun _ => rfl) xs
theorem wideSk (xs : List Sk) : wide 2 (xs.map skA) = true := wide_map (f := skA) (n := 2) (fun _ => rfl) (fun _ => rfl) xs
theorem widePr (xs : List (Int × Int)) : wide 2 (xs.map prA) = true := wide_map (f := prA) (n := 2) (fun _ => rfl) (fun _ => rfl) xs


theorem idxf_sk (nl : Bool) (xs : List (Sk)) (g : FuncId) (caps : List AV) (p : Sk → Bool) (hl : lowL 0 caps = true) (hx : xs.length ≤ 100000) (hp : ∀ x ∈ xs, Comp Try.prog g (skA x :: caps) (.bool (p x))) :
    Comp Try.prog 154 [.sl nl (xs.map skA), .fn g caps] (.int .i64 (idxR p xs)) := by
  refine Comp.body (T := tab) (res := [.tmp 4]) tab_ok [] Try.func154 rfl (by kernel_rfl) Try.ntmps154 rfl (by simp only [List.length_cons, List.length_nil]; decide) (by simp only [lowL, AV.low, lowSk, hl]; rfl) ?_; conv => whnf
  refine Walk.loop tab_ok [] (fun i : Nat => i ≤ xs.length ∧ ∀ j, j < i → p (xs.getD j default) = false) (fun i => [(0, .sl nl (xs.map skA)), (1, .fn g caps), (7, .int .i64 xs.length), (8, .int .i64 i)]) (fun _ => []) (fun i => xs.length - i) 0 ⟨by omega, by omega⟩ rfl ⟨rfl, rfl, by simp only [List.length_map]; rfl, rfl, trivial⟩ ?_
  rintro i ⟨h2, h3⟩
  conv => whnf
  repeat' first | ((with_reducible first | apply XBr.tt | apply XBr.ff | apply Chk.go | apply ChkA.go | apply ChkF.go | apply ChkB.go | apply XArr.pim0 | apply XArr.pim1); conv => whnf) | (with_reducible apply XBr.not) | ((with_reducible apply XBr.dec) <;> (intro h; first | (exfalso; omega) | ((try simp only [List.length_map] at h); first | (exfalso; omega) | (conv => whnf)))) | ((with_reducible first | apply XBr.beq | apply XBr.bne) <;> (intro h; first | (exfalso; omega) | (conv => whnf))) | ((with_reducible refine XInt.i64 (by omega) (by omega) ?_); conv => whnf) | ((with_reducible refine XHold.mk ?_ ?_); (first | omega | rfl | decide | exact ⟨rfl, by decide, rfl⟩ | exact wideI _ | exact widePr _ | exact wideSk _ | (unfold Room; constructor <;> ((try simp) <;> omega)) | exact ⟨rfl, by simp only [List.length_map], by unfold Room; constructor <;> ((try simp) <;> omega)⟩ | exact ⟨by omega, by omega, by unfold Room; constructor <;> ((try simp) <;> omega)⟩); conv => whnf) | ((first | ((with_reducible refine XIx.nat ?_ ?_ ?_); omega; (intro _; rfl)) | ((with_reducible refine XIx.map ?_ ?_ ?_ ?_); omega; omega; (intro _; rfl))); conv => whnf) | (with_reducible apply XAnd.mk) | (exact XSame.mk rfl rfl) | (exact XSame.mk (by first | rfl | (simp only [List.map_append, List.length_append, List.length_map]; done) | (simp only [List.map_append, List.length_append, List.length_map]; rfl)) (by first | rfl | (simp only [List.map_append]; done) | (simp only [List.map_append]; rfl))) | (with_reducible exact trivial) | ((first | (with_reducible refine xdrop_app (by rw [List.length_map]; omega) ?_) | (with_reducible refine XDrop.desk (by assumption) ?_) | (with_reducible first | refine XArr.ints (by omega) (by omega) (by omega) ?_ | refine XArr.intsA (by omega) (by omega) (by omega) ?_) | ((with_reducible first | refine XArr.nats ?_ ?_ ?_ | refine XArr.natsA ?_ ?_ ?_ | refine XArr.ptr ?_ ?_ ?_); omega; omega)); conv => whnf) | ((with_reducible apply XBr.mk') <;> (intro h; conv => whnf))
  · refine XCall.ret (hp _ (getD_mem (i := i) (d := default) (by omega))) ?_
    conv => whnf
    refine XBr.mk' ?_ ?_ <;> intro h4 <;> (conv => whnf)
    · refine XOut.int ?_
      simp only [idxR, find_some (d := default) (i := i) (by omega) h4 h3]
    · skip
      repeat' first | ((with_reducible first | apply XBr.tt | apply XBr.ff | apply Chk.go | apply ChkA.go | apply ChkF.go | apply ChkB.go | apply XArr.pim0 | apply XArr.pim1); conv => whnf) | (with_reducible apply XBr.not) | ((with_reducible apply XBr.dec) <;> (intro h; first | (exfalso; omega) | ((try simp only [List.length_map] at h); first | (exfalso; omega) | (conv => whnf)))) | ((with_reducible first | apply XBr.beq | apply XBr.bne) <;> (intro h; first | (exfalso; omega) | (conv => whnf))) | ((with_reducible refine XInt.i64 (by omega) (by omega) ?_); conv => whnf) | ((with_reducible refine XHold.mk ?_ ?_); (first | omega | rfl | decide | exact ⟨rfl, by decide, rfl⟩ | exact wideI _ | exact widePr _ | exact wideSk _ | (unfold Room; constructor <;> ((try simp) <;> omega)) | exact ⟨rfl, by simp only [List.length_map], by unfold Room; constructor <;> ((try simp) <;> omega)⟩ | exact ⟨by omega, by omega, by unfold Room; constructor <;> ((try simp) <;> omega)⟩); conv => whnf) | ((first | ((with_reducible refine XIx.nat ?_ ?_ ?_); omega; (intro _; rfl)) | ((with_reducible refine XIx.map ?_ ?_ ?_ ?_); omega; omega; (intro _; rfl))); conv => whnf) | (with_reducible apply XAnd.mk) | (exact XSame.mk rfl rfl) | (exact XSame.mk (by first | rfl | (simp only [List.map_append, List.length_append, List.length_map]; done) | (simp only [List.map_append, List.length_append, List.length_map]; rfl)) (by first | rfl | (simp only [List.map_append]; done) | (simp only [List.map_append]; rfl))) | (with_reducible exact trivial) | ((first | (with_reducible refine xdrop_app (by rw [List.length_map]; omega) ?_) | (with_reducible refine XDrop.desk (by assumption) ?_) | (with_reducible first | refine XArr.ints (by omega) (by omega) (by omega) ?_ | refine XArr.intsA (by omega) (by omega) (by omega) ?_) | ((with_reducible first | refine XArr.nats ?_ ?_ ?_ | refine XArr.natsA ?_ ?_ ?_ | refine XArr.ptr ?_ ?_ ?_); omega; omega)); conv => whnf) | ((with_reducible apply XBr.mk') <;> (intro h; conv => whnf))
      refine XAgain.go (i + 1) ⟨by omega, fun j hj => ?_⟩ (by omega) rfl ⟨rfl, rfl, rfl, rfl, trivial⟩
      by_cases hji : j = i
      · subst hji; exact h4
      · exact h3 j (by omega)
  · refine XOut.int ?_
    simp only [idxR, find_none (d := default) fun j hj => h3 j (by omega)]
theorem contf_sk (nl : Bool) (xs : List (Sk)) (g : FuncId) (caps : List AV) (p : Sk → Bool) (hl : lowL 0 caps = true) (hx : xs.length ≤ 100000) (hp : ∀ x ∈ xs, Comp Try.prog g (skA x :: caps) (.bool (p x))) :
    Comp Try.prog 142 [.sl nl (xs.map skA), .fn g caps] (.bool (xs.any p)) := by
  refine Comp.body (T := tab) (res := [.tmp 4]) tab_ok [] Try.func142 rfl (by kernel_rfl) Try.ntmps142 rfl (by simp only [List.length_cons, List.length_nil]; decide) (by simp only [lowL, AV.low, lowSk, hl]; rfl) ?_; conv => whnf
  refine XCall.ret (idxf_sk nl xs g caps p hl hx hp) ?_
  conv => whnf
  refine XOut.bool ?_
  rw [Bool.eq_iff_iff, decide_eq_true_eq]; exact idxR_pos
theorem every1_sk (x : Sk) (g : FuncId) (caps : List AV) (p : Sk → Bool) (hl : lowL 0 caps = true) (hp : Comp Try.prog g (skA x :: caps) (.bool (p x))) :
    Comp Try.prog 143 [skA x, .pim [.fn g caps]] (.bool (!p x)) := by
  refine Comp.body (T := tab) (res := [.tmp 3]) tab_ok [] Try.func143 rfl (by kernel_rfl) Try.ntmps143 rfl (by simp only [List.length_cons, List.length_nil]; decide) (by simp only [lowL, AV.low, skL, hl]; rfl) ?_; conv => whnf
  refine XCall.ret hp ?_
  conv => whnf
  exact XOut.bool rfl
theorem every_sk (nl : Bool) (xs : List (Sk)) (g : FuncId) (caps : List AV) (p : Sk → Bool) (hl : lowL 0 caps = true) (hx : xs.length ≤ 100000) (hp : ∀ x ∈ xs, Comp Try.prog g (skA x :: caps) (.bool (p x))) :
    Comp Try.prog 105 [.sl nl (xs.map skA), .fn g caps] (.bool (xs.all p)) := by
  refine Comp.body (T := tab) (res := [.tmp 4]) tab_ok [] Try.func105 rfl (by kernel_rfl) Try.ntmps105 rfl (by simp only [List.length_cons, List.length_nil]; decide) (by simp only [lowL, AV.low, lowSk, hl]; rfl) ?_; conv => whnf
  refine XCall.ret (contf_sk nl xs 143 [.pim [.fn g caps]] (fun x => !p x) (by simp only [lowL, AV.low, hl]; rfl) hx fun x hm => every1_sk x g caps p hl (hp x hm)) ?_
  conv => whnf
  refine XOut.bool ?_
  rw [List.not_any_eq_all_not]; simp


theorem idxf_pr (nl : Bool) (xs : List (Int × Int)) (g : FuncId) (caps : List AV) (p : Int × Int → Bool) (hl : lowL 0 caps = true) (hx : xs.length ≤ 100000) (hp : ∀ x ∈ xs, Comp Try.prog g (prA x :: caps) (.bool (p x))) :
    Comp Try.prog 129 [.sl nl (xs.map prA), .fn g caps] (.int .i64 (idxR p xs)) := by
  refine Comp.body (T := tab) (res := [.tmp 4]) tab_ok [] Try.func129 rfl (by kernel_rfl) Try.ntmps129 rfl (by simp only [List.length_cons, List.length_nil]; decide) (by simp only [lowL, AV.low, lowPr, hl]; rfl) ?_; conv => whnf
  refine Walk.loop tab_ok [] (fun i : Nat => i ≤ xs.length ∧ ∀ j, j < i → p (xs.getD j default) = false) (fun i => [(0, .sl nl (xs.map prA)), (1, .fn g caps), (7, .int .i64 xs.length), (8, .int .i64 i)]) (fun _ => []) (fun i => xs.length - i) 0 ⟨by omega, by omega⟩ rfl ⟨rfl, rfl, by simp only [List.length_map]; rfl, rfl, trivial⟩ ?_
  rintro i ⟨h2, h3⟩
  conv => whnf
  repeat' first | ((with_reducible first | apply XBr.tt | apply XBr.ff | apply Chk.go | apply ChkA.go | apply ChkF.go | apply ChkB.go | apply XArr.pim0 | apply XArr.pim1); conv => whnf) | (with_reducible apply XBr.not) | ((with_reducible apply XBr.dec) <;> (intro h; first | (exfalso; omega) | ((try simp only [List.length_map] at h); first | (exfalso; omega) | (conv => whnf)))) | ((with_reducible first | apply XBr.beq | apply XBr.bne) <;> (intro h; first | (exfalso; omega) | (conv => whnf))) | ((with_reducible refine XInt.i64 (by omega) (by omega) ?_); conv => whnf) | ((with_reducible refine XHold.mk ?_ ?_); (first | omega | rfl | decide | exact ⟨rfl, by decide, rfl⟩ | exact wideI _ | exact widePr _ | exact wideSk _ | (unfold Room; constructor <;> ((try simp) <;> omega)) | exact ⟨rfl, by simp only [List.length_map], by unfold Room; constructor <;> ((try simp) <;> omega)⟩ | exact ⟨by omega, by omega, by unfold Room; constructor <;> ((try simp) <;> omega)⟩); conv => whnf) | ((first | ((with_reducible refine XIx.nat ?_ ?_ ?_); omega; (intro _; rfl)) | ((with_reducible refine XIx.map ?_ ?_ ?_ ?_); omega; omega; (intro _; rfl))); conv => whnf) | (with_reducible apply XAnd.mk) | (exact XSame.mk rfl rfl) | (exact XSame.mk (by first | rfl | (simp only [List.map_append, List.length_append, List.length_map]; done) | (simp only [List.map_append, List.length_append, List.length_map]; rfl)) (by first | rfl | (simp only [List.map_append]; done) | (simp only [List.map_append]; rfl))) | (with_reducible exact trivial) | ((first | (with_reducible refine xdrop_app (by rw [List.length_map]; omega) ?_) | (with_reducible refine XDrop.desk (by assumption) ?_) | (with_reducible first | refine XArr.ints (by omega) (by omega) (by omega) ?_ | refine XArr.intsA (by omega) (by omega) (by omega) ?_) | ((with_reducible first | refine XArr.nats ?_ ?_ ?_ | refine XArr.natsA ?_ ?_ ?_ | refine XArr.ptr ?_ ?_ ?_); omega; omega)); conv => whnf) | ((with_reducible apply XBr.mk') <;> (intro h; conv => whnf))
  · refine XCall.ret (hp _ (getD_mem (i := i) (d := default) (by omega))) ?_
    conv => whnf
    refine XBr.mk' ?_ ?_ <;> intro h4 <;> (conv => whnf)
    · refine XOut.int ?_
      simp only [idxR, find_some (d := default) (i := i) (by omega) h4 h3]
    · skip
      repeat' first | ((with_reducible first | apply XBr.tt | apply XBr.ff | apply Chk.go | apply ChkA.go | apply ChkF.go | apply ChkB.go | apply XArr.pim0 | apply XArr.pim1); conv => whnf) | (with_reducible apply XBr.not) | ((with_reducible apply XBr.dec) <;> (intro h; first | (exfalso; omega) | ((try simp only [List.length_map] at h); first | (exfalso; omega) | (conv => whnf)))) | ((with_reducible first | apply XBr.beq | apply XBr.bne) <;> (intro h; first | (exfalso; omega) | (conv => whnf))) | ((with_reducible refine XInt.i64 (by omega) (by omega) ?_); conv => whnf) | ((with_reducible refine XHold.mk ?_ ?_); (first | omega | rfl | decide | exact ⟨rfl, by decide, rfl⟩ | exact wideI _ | exact widePr _ | exact wideSk _ | (unfold Room; constructor <;> ((try simp) <;> omega)) | exact ⟨rfl, by simp only [List.length_map], by unfold Room; constructor <;> ((try simp) <;> omega)⟩ | exact ⟨by omega, by omega, by unfold Room; constructor <;> ((try simp) <;> omega)⟩); conv => whnf) | ((first | ((with_reducible refine XIx.nat ?_ ?_ ?_); omega; (intro _; rfl)) | ((with_reducible refine XIx.map ?_ ?_ ?_ ?_); omega; omega; (intro _; rfl))); conv => whnf) | (with_reducible apply XAnd.mk) | (exact XSame.mk rfl rfl) | (exact XSame.mk (by first | rfl | (simp only [List.map_append, List.length_append, List.length_map]; done) | (simp only [List.map_append, List.length_append, List.length_map]; rfl)) (by first | rfl | (simp only [List.map_append]; done) | (simp only [List.map_append]; rfl))) | (with_reducible exact trivial) | ((first | (with_reducible refine xdrop_app (by rw [List.length_map]; omega) ?_) | (with_reducible refine XDrop.desk (by assumption) ?_) | (with_reducible first | refine XArr.ints (by omega) (by omega) (by omega) ?_ | refine XArr.intsA (by omega) (by omega) (by omega) ?_) | ((with_reducible first | refine XArr.nats ?_ ?_ ?_ | refine XArr.natsA ?_ ?_ ?_ | refine XArr.ptr ?_ ?_ ?_); omega; omega)); conv => whnf) | ((with_reducible apply XBr.mk') <;> (intro h; conv => whnf))
      refine XAgain.go (i + 1) ⟨by omega, fun j hj => ?_⟩ (by omega) rfl ⟨rfl, rfl, rfl, rfl, trivial⟩
      by_cases hji : j = i
      · subst hji; exact h4
      · exact h3 j (by omega)
  · refine XOut.int ?_
    simp only [idxR, find_none (d := default) fun j hj => h3 j (by omega)]
theorem contf_pr (nl : Bool) (xs : List (Int × Int)) (g : FuncId) (caps : List AV) (p : Int × Int → Bool) (hl : lowL 0 caps = true) (hx : xs.length ≤ 100000) (hp : ∀ x ∈ xs, Comp Try.prog g (prA x :: caps) (.bool (p x))) :
    Comp Try.prog 71 [.sl nl (xs.map prA), .fn g caps] (.bool (xs.any p)) := by
  refine Comp.body (T := tab) (res := [.tmp 4]) tab_ok [] Try.func71 rfl (by kernel_rfl) Try.ntmps71 rfl (by simp only [List.length_cons, List.length_nil]; decide) (by simp only [lowL, AV.low, lowPr, hl]; rfl) ?_; conv => whnf
  refine XCall.ret (idxf_pr nl xs g caps p hl hx hp) ?_
  conv => whnf
  refine XOut.bool ?_
  rw [Bool.eq_iff_iff, decide_eq_true_eq]; exact idxR_pos
theorem every1_pr (x : Int × Int) (g : FuncId) (caps : List AV) (p : Int × Int → Bool) (hl : lowL 0 caps = true) (hp : Comp Try.prog g (prA x :: caps) (.bool (p x))) :
    Comp Try.prog 144 [prA x, .pim [.fn g caps]] (.bool (!p x)) := by
  refine Comp.body (T := tab) (res := [.tmp 3]) tab_ok [] Try.func144 rfl (by kernel_rfl) Try.ntmps144 rfl (by simp only [List.length_cons, List.length_nil]; decide) (by simp only [lowL, AV.low, prL, hl]; rfl) ?_; conv => whnf
  refine XCall.ret hp ?_
  conv => whnf
  exact XOut.bool rfl
theorem every_pr (nl : Bool) (xs : List (Int × Int)) (g : FuncId) (caps : List AV) (p : Int × Int → Bool) (hl : lowL 0 caps = true) (hx : xs.length ≤ 100000) (hp : ∀ x ∈ xs, Comp Try.prog g (prA x :: caps) (.bool (p x))) :
    Comp Try.prog 107 [.sl nl (xs.map prA), .fn g caps] (.bool (xs.all p)) := by
  refine Comp.body (T := tab) (res := [.tmp 4]) tab_ok [] Try.func107 rfl (by kernel_rfl) Try.ntmps107 rfl (by simp only [List.length_cons, List.length_nil]; decide) (by simp only [lowL, AV.low, lowPr, hl]; rfl) ?_; conv => whnf
  refine XCall.ret (contf_pr nl xs 144 [.pim [.fn g caps]] (fun x => !p x) (by simp only [lowL, AV.low, hl]; rfl) hx fun x hm => every1_pr x g caps p hl (hp x hm)) ?_
  conv => whnf
  refine XOut.bool ?_
  rw [List.not_any_eq_all_not]; simp


theorem sack_in (s : Sk) : Comp Try.prog 106 [skA s] (.bool (inB s.m 1 100 && inB s.o 0 5)) := by
  refine Comp.body (T := tab) (res := [.tmp 2]) tab_ok [] Try.func106 rfl (by kernel_rfl) Try.ntmps106 rfl (by simp only [List.length_cons, List.length_nil]; decide) (by rfl) ?_; conv => whnf
  refine XCall.ret (in_c _ _ _) ?_
  conv => whnf
  refine XBr.mk' ?_ ?_ <;> intro h <;> (conv => whnf)
  · skip
    repeat' first | ((with_reducible first | apply XBr.tt | apply XBr.ff | apply Chk.go | apply ChkA.go | apply ChkF.go | apply ChkB.go | apply XArr.pim0 | apply XArr.pim1); conv => whnf) | (with_reducible apply XBr.not) | ((with_reducible apply XBr.dec) <;> (intro h; first | (exfalso; omega) | ((try simp only [List.length_map] at h); first | (exfalso; omega) | (conv => whnf)))) | ((with_reducible first | apply XBr.beq | apply XBr.bne) <;> (intro h; first | (exfalso; omega) | (conv => whnf))) | ((with_reducible refine XInt.i64 (by omega) (by omega) ?_); conv => whnf) | ((with_reducible refine XHold.mk ?_ ?_); (first | omega | rfl | decide | exact ⟨rfl, by decide, rfl⟩ | exact wideI _ | exact widePr _ | exact wideSk _ | (unfold Room; constructor <;> ((try simp) <;> omega)) | exact ⟨rfl, by simp only [List.length_map], by unfold Room; constructor <;> ((try simp) <;> omega)⟩ | exact ⟨by omega, by omega, by unfold Room; constructor <;> ((try simp) <;> omega)⟩); conv => whnf) | ((first | ((with_reducible refine XIx.nat ?_ ?_ ?_); omega; (intro _; rfl)) | ((with_reducible refine XIx.map ?_ ?_ ?_ ?_); omega; omega; (intro _; rfl))); conv => whnf) | (with_reducible apply XAnd.mk) | (exact XSame.mk rfl rfl) | (exact XSame.mk (by first | rfl | (simp only [List.map_append, List.length_append, List.length_map]; done) | (simp only [List.map_append, List.length_append, List.length_map]; rfl)) (by first | rfl | (simp only [List.map_append]; done) | (simp only [List.map_append]; rfl))) | (with_reducible exact trivial) | ((first | (with_reducible refine xdrop_app (by rw [List.length_map]; omega) ?_) | (with_reducible refine XDrop.desk (by assumption) ?_) | (with_reducible first | refine XArr.ints (by omega) (by omega) (by omega) ?_ | refine XArr.intsA (by omega) (by omega) (by omega) ?_) | ((with_reducible first | refine XArr.nats ?_ ?_ ?_ | refine XArr.natsA ?_ ?_ ?_ | refine XArr.ptr ?_ ?_ ?_); omega; omega)); conv => whnf) | ((with_reducible apply XBr.mk') <;> (intro h; conv => whnf))
    refine XCall.ret (in_c _ _ _) ?_
    conv => whnf
    repeat' first | ((with_reducible first | apply XBr.tt | apply XBr.ff | apply Chk.go | apply ChkA.go | apply ChkF.go | apply ChkB.go | apply XArr.pim0 | apply XArr.pim1); conv => whnf) | (with_reducible apply XBr.not) | ((with_reducible apply XBr.dec) <;> (intro h; first | (exfalso; omega) | ((try simp only [List.length_map] at h); first | (exfalso; omega) | (conv => whnf)))) | ((with_reducible first | apply XBr.beq | apply XBr.bne) <;> (intro h; first | (exfalso; omega) | (conv => whnf))) | ((with_reducible refine XInt.i64 (by omega) (by omega) ?_); conv => whnf) | ((with_reducible refine XHold.mk ?_ ?_); (first | omega | rfl | decide | exact ⟨rfl, by decide, rfl⟩ | exact wideI _ | exact widePr _ | exact wideSk _ | (unfold Room; constructor <;> ((try simp) <;> omega)) | exact ⟨rfl, by simp only [List.length_map], by unfold Room; constructor <;> ((try simp) <;> omega)⟩ | exact ⟨by omega, by omega, by unfold Room; constructor <;> ((try simp) <;> omega)⟩); conv => whnf) | ((first | ((with_reducible refine XIx.nat ?_ ?_ ?_); omega; (intro _; rfl)) | ((with_reducible refine XIx.map ?_ ?_ ?_ ?_); omega; omega; (intro _; rfl))); conv => whnf) | (with_reducible apply XAnd.mk) | (exact XSame.mk rfl rfl) | (exact XSame.mk (by first | rfl | (simp only [List.map_append, List.length_append, List.length_map]; done) | (simp only [List.map_append, List.length_append, List.length_map]; rfl)) (by first | rfl | (simp only [List.map_append]; done) | (simp only [List.map_append]; rfl))) | (with_reducible exact trivial) | ((first | (with_reducible refine xdrop_app (by rw [List.length_map]; omega) ?_) | (with_reducible refine XDrop.desk (by assumption) ?_) | (with_reducible first | refine XArr.ints (by omega) (by omega) (by omega) ?_ | refine XArr.intsA (by omega) (by omega) (by omega) ?_) | ((with_reducible first | refine XArr.nats ?_ ?_ ?_ | refine XArr.natsA ?_ ?_ ?_ | refine XArr.ptr ?_ ?_ ?_); omega; omega)); conv => whnf) | ((with_reducible apply XBr.mk') <;> (intro h; conv => whnf))
    refine XOut.bool ?_
    simp [h]
  · skip
    repeat' first | ((with_reducible first | apply XBr.tt | apply XBr.ff | apply Chk.go | apply ChkA.go | apply ChkF.go | apply ChkB.go | apply XArr.pim0 | apply XArr.pim1); conv => whnf) | (with_reducible apply XBr.not) | ((with_reducible apply XBr.dec) <;> (intro h; first | (exfalso; omega) | ((try simp only [List.length_map] at h); first | (exfalso; omega) | (conv => whnf)))) | ((with_reducible first | apply XBr.beq | apply XBr.bne) <;> (intro h; first | (exfalso; omega) | (conv => whnf))) | ((with_reducible refine XInt.i64 (by omega) (by omega) ?_); conv => whnf) | ((with_reducible refine XHold.mk ?_ ?_); (first | omega | rfl | decide | exact ⟨rfl, by decide, rfl⟩ | exact wideI _ | exact widePr _ | exact wideSk _ | (unfold Room; constructor <;> ((try simp) <;> omega)) | exact ⟨rfl, by simp only [List.length_map], by unfold Room; constructor <;> ((try simp) <;> omega)⟩ | exact ⟨by omega, by omega, by unfold Room; constructor <;> ((try simp) <;> omega)⟩); conv => whnf) | ((first | ((with_reducible refine XIx.nat ?_ ?_ ?_); omega; (intro _; rfl)) | ((with_reducible refine XIx.map ?_ ?_ ?_ ?_); omega; omega; (intro _; rfl))); conv => whnf) | (with_reducible apply XAnd.mk) | (exact XSame.mk rfl rfl) | (exact XSame.mk (by first | rfl | (simp only [List.map_append, List.length_append, List.length_map]; done) | (simp only [List.map_append, List.length_append, List.length_map]; rfl)) (by first | rfl | (simp only [List.map_append]; done) | (simp only [List.map_append]; rfl))) | (with_reducible exact trivial) | ((first | (with_reducible refine xdrop_app (by rw [List.length_map]; omega) ?_) | (with_reducible refine XDrop.desk (by assumption) ?_) | (with_reducible first | refine XArr.ints (by omega) (by omega) (by omega) ?_ | refine XArr.intsA (by omega) (by omega) (by omega) ?_) | ((with_reducible first | refine XArr.nats ?_ ?_ ?_ | refine XArr.natsA ?_ ?_ ?_ | refine XArr.ptr ?_ ?_ ?_); omega; omega)); conv => whnf) | ((with_reducible apply XBr.mk') <;> (intro h; conv => whnf))
    refine XOut.bool ?_
    simp [h]
theorem pair_ne (p : Int × Int) : Comp Try.prog 109 [prA p] (.bool (p.1 != p.2)) := by
  refine Comp.body (T := tab) (res := [.tmp 2]) tab_ok [] Try.func109 rfl (by kernel_rfl) Try.ntmps109 rfl (by simp only [List.length_cons, List.length_nil]; decide) (by rfl) ?_; conv => whnf
  repeat' first | ((with_reducible first | apply XBr.tt | apply XBr.ff | apply Chk.go | apply ChkA.go | apply ChkF.go | apply ChkB.go | apply XArr.pim0 | apply XArr.pim1); conv => whnf) | (with_reducible apply XBr.not) | ((with_reducible apply XBr.dec) <;> (intro h; first | (exfalso; omega) | ((try simp only [List.length_map] at h); first | (exfalso; omega) | (conv => whnf)))) | ((with_reducible first | apply XBr.beq | apply XBr.bne) <;> (intro h; first | (exfalso; omega) | (conv => whnf))) | ((with_reducible refine XInt.i64 (by omega) (by omega) ?_); conv => whnf) | ((with_reducible refine XHold.mk ?_ ?_); (first | omega | rfl | decide | exact ⟨rfl, by decide, rfl⟩ | exact wideI _ | exact widePr _ | exact wideSk _ | (unfold Room; constructor <;> ((try simp) <;> omega)) | exact ⟨rfl, by simp only [List.length_map], by unfold Room; constructor <;> ((try simp) <;> omega)⟩ | exact ⟨by omega, by omega, by unfold Room; constructor <;> ((try simp) <;> omega)⟩); conv => whnf) | ((first | ((with_reducible refine XIx.nat ?_ ?_ ?_); omega; (intro _; rfl)) | ((with_reducible refine XIx.map ?_ ?_ ?_ ?_); omega; omega; (intro _; rfl))); conv => whnf) | (with_reducible apply XAnd.mk) | (exact XSame.mk rfl rfl) | (exact XSame.mk (by first | rfl | (simp only [List.map_append, List.length_append, List.length_map]; done) | (simp only [List.map_append, List.length_append, List.length_map]; rfl)) (by first | rfl | (simp only [List.map_append]; done) | (simp only [List.map_append]; rfl))) | (with_reducible exact trivial) | ((first | (with_reducible refine xdrop_app (by rw [List.length_map]; omega) ?_) | (with_reducible refine XDrop.desk (by assumption) ?_) | (with_reducible first | refine XArr.ints (by omega) (by omega) (by omega) ?_ | refine XArr.intsA (by omega) (by omega) (by omega) ?_) | ((with_reducible first | refine XArr.nats ?_ ?_ ?_ | refine XArr.natsA ?_ ?_ ?_ | refine XArr.ptr ?_ ?_ ?_); omega; omega)); conv => whnf) | ((with_reducible apply XBr.mk') <;> (intro h; conv => whnf))
  exact XOut.bool rfl

structure Ld where
  bears : Int
  shrink : Int
  nls : Bool
  sacks : List Sk
  nla : Bool
  apart : List (Int × Int)
  nlw : Bool
  wth : List (Int × Int)
def ldC (l : Ld) : List AV := [.int .i64 l.bears, .int .i64 l.shrink, .sl l.nls (l.sacks.map skA), .sl l.nla (l.apart.map prA), .sl l.nlw (l.wth.map prA)]
def ldA (l : Ld) : AV := .agg (ldC l)
theorem lowLd {n : Nat} (l : Ld) : lowL n (ldC l) = true := by simp only [ldC, lowL, AV.low, lowSk, lowPr]; rfl
theorem ldL {n : Nat} (l : Ld) : (ldA l).low n = true := by unfold ldA; simp only [AV.low, lowLd]

theorem sack_c (l : Ld) (n : Int) (hx : l.sacks.length ≤ 100000) : Comp Try.prog 98 [ldA l, .int .i64 n] (.bool (inB n 0 (l.sacks.length - 1))) := by
  refine Comp.body (T := tab) (res := [.tmp 4]) tab_ok [] Try.func98 rfl (by kernel_rfl) Try.ntmps98 rfl (by simp only [List.length_cons, List.length_nil]; decide) (by simp only [lowL, AV.low, ldL]; rfl) ?_; conv => whnf
  have hm : (l.sacks.map skA).length = l.sacks.length := List.length_map ..
  repeat' first | ((with_reducible first | apply XBr.tt | apply XBr.ff | apply Chk.go | apply ChkA.go | apply ChkF.go | apply ChkB.go | apply XArr.pim0 | apply XArr.pim1); conv => whnf) | (with_reducible apply XBr.not) | ((with_reducible apply XBr.dec) <;> (intro h; first | (exfalso; omega) | ((try simp only [List.length_map] at h); first | (exfalso; omega) | (conv => whnf)))) | ((with_reducible first | apply XBr.beq | apply XBr.bne) <;> (intro h; first | (exfalso; omega) | (conv => whnf))) | ((with_reducible refine XInt.i64 (by omega) (by omega) ?_); conv => whnf) | ((with_reducible refine XHold.mk ?_ ?_); (first | omega | rfl | decide | exact ⟨rfl, by decide, rfl⟩ | exact wideI _ | exact widePr _ | exact wideSk _ | (unfold Room; constructor <;> ((try simp) <;> omega)) | exact ⟨rfl, by simp only [List.length_map], by unfold Room; constructor <;> ((try simp) <;> omega)⟩ | exact ⟨by omega, by omega, by unfold Room; constructor <;> ((try simp) <;> omega)⟩); conv => whnf) | ((first | ((with_reducible refine XIx.nat ?_ ?_ ?_); omega; (intro _; rfl)) | ((with_reducible refine XIx.map ?_ ?_ ?_ ?_); omega; omega; (intro _; rfl))); conv => whnf) | (with_reducible apply XAnd.mk) | (exact XSame.mk rfl rfl) | (exact XSame.mk (by first | rfl | (simp only [List.map_append, List.length_append, List.length_map]; done) | (simp only [List.map_append, List.length_append, List.length_map]; rfl)) (by first | rfl | (simp only [List.map_append]; done) | (simp only [List.map_append]; rfl))) | (with_reducible exact trivial) | ((first | (with_reducible refine xdrop_app (by rw [List.length_map]; omega) ?_) | (with_reducible refine XDrop.desk (by assumption) ?_) | (with_reducible first | refine XArr.ints (by omega) (by omega) (by omega) ?_ | refine XArr.intsA (by omega) (by omega) (by omega) ?_) | ((with_reducible first | refine XArr.nats ?_ ?_ ?_ | refine XArr.natsA ?_ ?_ ?_ | refine XArr.ptr ?_ ?_ ?_); omega; omega)); conv => whnf) | ((with_reducible apply XBr.mk') <;> (intro h; conv => whnf))
  refine XCall.ret (in_c _ _ _) ?_
  conv => whnf
  refine XOut.bool ?_
  simp
theorem pair_in (l : Ld) (p : Int × Int) (hx : l.sacks.length ≤ 100000) : Comp Try.prog 108 [prA p, .pim (ldC l)] (.bool (inB p.1 0 (l.sacks.length - 1) && inB p.2 0 (l.sacks.length - 1))) := by
  refine Comp.body (T := tab) (res := [.tmp 3]) tab_ok [] Try.func108 rfl (by kernel_rfl) Try.ntmps108 rfl (by simp only [List.length_cons, List.length_nil]; decide) (by simp only [lowL, AV.low, prL, lowLd]; rfl) ?_; conv => whnf
  repeat' first | ((with_reducible first | apply XBr.tt | apply XBr.ff | apply Chk.go | apply ChkA.go | apply ChkF.go | apply ChkB.go | apply XArr.pim0 | apply XArr.pim1); conv => whnf) | (with_reducible apply XBr.not) | ((with_reducible apply XBr.dec) <;> (intro h; first | (exfalso; omega) | ((try simp only [List.length_map] at h); first | (exfalso; omega) | (conv => whnf)))) | ((with_reducible first | apply XBr.beq | apply XBr.bne) <;> (intro h; first | (exfalso; omega) | (conv => whnf))) | ((with_reducible refine XInt.i64 (by omega) (by omega) ?_); conv => whnf) | ((with_reducible refine XHold.mk ?_ ?_); (first | omega | rfl | decide | exact ⟨rfl, by decide, rfl⟩ | exact wideI _ | exact widePr _ | exact wideSk _ | (unfold Room; constructor <;> ((try simp) <;> omega)) | exact ⟨rfl, by simp only [List.length_map], by unfold Room; constructor <;> ((try simp) <;> omega)⟩ | exact ⟨by omega, by omega, by unfold Room; constructor <;> ((try simp) <;> omega)⟩); conv => whnf) | ((first | ((with_reducible refine XIx.nat ?_ ?_ ?_); omega; (intro _; rfl)) | ((with_reducible refine XIx.map ?_ ?_ ?_ ?_); omega; omega; (intro _; rfl))); conv => whnf) | (with_reducible apply XAnd.mk) | (exact XSame.mk rfl rfl) | (exact XSame.mk (by first | rfl | (simp only [List.map_append, List.length_append, List.length_map]; done) | (simp only [List.map_append, List.length_append, List.length_map]; rfl)) (by first | rfl | (simp only [List.map_append]; done) | (simp only [List.map_append]; rfl))) | (with_reducible exact trivial) | ((first | (with_reducible refine xdrop_app (by rw [List.length_map]; omega) ?_) | (with_reducible refine XDrop.desk (by assumption) ?_) | (with_reducible first | refine XArr.ints (by omega) (by omega) (by omega) ?_ | refine XArr.intsA (by omega) (by omega) (by omega) ?_) | ((with_reducible first | refine XArr.nats ?_ ?_ ?_ | refine XArr.natsA ?_ ?_ ?_ | refine XArr.ptr ?_ ?_ ?_); omega; omega)); conv => whnf) | ((with_reducible apply XBr.mk') <;> (intro h; conv => whnf))
  refine XCall.ret (sack_c l _ hx) ?_
  conv => whnf
  refine XBr.mk' ?_ ?_ <;> intro h <;> (conv => whnf)
  · skip
    repeat' first | ((with_reducible first | apply XBr.tt | apply XBr.ff | apply Chk.go | apply ChkA.go | apply ChkF.go | apply ChkB.go | apply XArr.pim0 | apply XArr.pim1); conv => whnf) | (with_reducible apply XBr.not) | ((with_reducible apply XBr.dec) <;> (intro h; first | (exfalso; omega) | ((try simp only [List.length_map] at h); first | (exfalso; omega) | (conv => whnf)))) | ((with_reducible first | apply XBr.beq | apply XBr.bne) <;> (intro h; first | (exfalso; omega) | (conv => whnf))) | ((with_reducible refine XInt.i64 (by omega) (by omega) ?_); conv => whnf) | ((with_reducible refine XHold.mk ?_ ?_); (first | omega | rfl | decide | exact ⟨rfl, by decide, rfl⟩ | exact wideI _ | exact widePr _ | exact wideSk _ | (unfold Room; constructor <;> ((try simp) <;> omega)) | exact ⟨rfl, by simp only [List.length_map], by unfold Room; constructor <;> ((try simp) <;> omega)⟩ | exact ⟨by omega, by omega, by unfold Room; constructor <;> ((try simp) <;> omega)⟩); conv => whnf) | ((first | ((with_reducible refine XIx.nat ?_ ?_ ?_); omega; (intro _; rfl)) | ((with_reducible refine XIx.map ?_ ?_ ?_ ?_); omega; omega; (intro _; rfl))); conv => whnf) | (with_reducible apply XAnd.mk) | (exact XSame.mk rfl rfl) | (exact XSame.mk (by first | rfl | (simp only [List.map_append, List.length_append, List.length_map]; done) | (simp only [List.map_append, List.length_append, List.length_map]; rfl)) (by first | rfl | (simp only [List.map_append]; done) | (simp only [List.map_append]; rfl))) | (with_reducible exact trivial) | ((first | (with_reducible refine xdrop_app (by rw [List.length_map]; omega) ?_) | (with_reducible refine XDrop.desk (by assumption) ?_) | (with_reducible first | refine XArr.ints (by omega) (by omega) (by omega) ?_ | refine XArr.intsA (by omega) (by omega) (by omega) ?_) | ((with_reducible first | refine XArr.nats ?_ ?_ ?_ | refine XArr.natsA ?_ ?_ ?_ | refine XArr.ptr ?_ ?_ ?_); omega; omega)); conv => whnf) | ((with_reducible apply XBr.mk') <;> (intro h; conv => whnf))
    refine XCall.ret (sack_c l _ hx) ?_
    conv => whnf
    repeat' first | ((with_reducible first | apply XBr.tt | apply XBr.ff | apply Chk.go | apply ChkA.go | apply ChkF.go | apply ChkB.go | apply XArr.pim0 | apply XArr.pim1); conv => whnf) | (with_reducible apply XBr.not) | ((with_reducible apply XBr.dec) <;> (intro h; first | (exfalso; omega) | ((try simp only [List.length_map] at h); first | (exfalso; omega) | (conv => whnf)))) | ((with_reducible first | apply XBr.beq | apply XBr.bne) <;> (intro h; first | (exfalso; omega) | (conv => whnf))) | ((with_reducible refine XInt.i64 (by omega) (by omega) ?_); conv => whnf) | ((with_reducible refine XHold.mk ?_ ?_); (first | omega | rfl | decide | exact ⟨rfl, by decide, rfl⟩ | exact wideI _ | exact widePr _ | exact wideSk _ | (unfold Room; constructor <;> ((try simp) <;> omega)) | exact ⟨rfl, by simp only [List.length_map], by unfold Room; constructor <;> ((try simp) <;> omega)⟩ | exact ⟨by omega, by omega, by unfold Room; constructor <;> ((try simp) <;> omega)⟩); conv => whnf) | ((first | ((with_reducible refine XIx.nat ?_ ?_ ?_); omega; (intro _; rfl)) | ((with_reducible refine XIx.map ?_ ?_ ?_ ?_); omega; omega; (intro _; rfl))); conv => whnf) | (with_reducible apply XAnd.mk) | (exact XSame.mk rfl rfl) | (exact XSame.mk (by first | rfl | (simp only [List.map_append, List.length_append, List.length_map]; done) | (simp only [List.map_append, List.length_append, List.length_map]; rfl)) (by first | rfl | (simp only [List.map_append]; done) | (simp only [List.map_append]; rfl))) | (with_reducible exact trivial) | ((first | (with_reducible refine xdrop_app (by rw [List.length_map]; omega) ?_) | (with_reducible refine XDrop.desk (by assumption) ?_) | (with_reducible first | refine XArr.ints (by omega) (by omega) (by omega) ?_ | refine XArr.intsA (by omega) (by omega) (by omega) ?_) | ((with_reducible first | refine XArr.nats ?_ ?_ ?_ | refine XArr.natsA ?_ ?_ ?_ | refine XArr.ptr ?_ ?_ ?_); omega; omega)); conv => whnf) | ((with_reducible apply XBr.mk') <;> (intro h; conv => whnf))
    refine XOut.bool ?_
    simp [h]
  · skip
    repeat' first | ((with_reducible first | apply XBr.tt | apply XBr.ff | apply Chk.go | apply ChkA.go | apply ChkF.go | apply ChkB.go | apply XArr.pim0 | apply XArr.pim1); conv => whnf) | (with_reducible apply XBr.not) | ((with_reducible apply XBr.dec) <;> (intro h; first | (exfalso; omega) | ((try simp only [List.length_map] at h); first | (exfalso; omega) | (conv => whnf)))) | ((with_reducible first | apply XBr.beq | apply XBr.bne) <;> (intro h; first | (exfalso; omega) | (conv => whnf))) | ((with_reducible refine XInt.i64 (by omega) (by omega) ?_); conv => whnf) | ((with_reducible refine XHold.mk ?_ ?_); (first | omega | rfl | decide | exact ⟨rfl, by decide, rfl⟩ | exact wideI _ | exact widePr _ | exact wideSk _ | (unfold Room; constructor <;> ((try simp) <;> omega)) | exact ⟨rfl, by simp only [List.length_map], by unfold Room; constructor <;> ((try simp) <;> omega)⟩ | exact ⟨by omega, by omega, by unfold Room; constructor <;> ((try simp) <;> omega)⟩); conv => whnf) | ((first | ((with_reducible refine XIx.nat ?_ ?_ ?_); omega; (intro _; rfl)) | ((with_reducible refine XIx.map ?_ ?_ ?_ ?_); omega; omega; (intro _; rfl))); conv => whnf) | (with_reducible apply XAnd.mk) | (exact XSame.mk rfl rfl) | (exact XSame.mk (by first | rfl | (simp only [List.map_append, List.length_append, List.length_map]; done) | (simp only [List.map_append, List.length_append, List.length_map]; rfl)) (by first | rfl | (simp only [List.map_append]; done) | (simp only [List.map_append]; rfl))) | (with_reducible exact trivial) | ((first | (with_reducible refine xdrop_app (by rw [List.length_map]; omega) ?_) | (with_reducible refine XDrop.desk (by assumption) ?_) | (with_reducible first | refine XArr.ints (by omega) (by omega) (by omega) ?_ | refine XArr.intsA (by omega) (by omega) (by omega) ?_) | ((with_reducible first | refine XArr.nats ?_ ?_ ?_ | refine XArr.natsA ?_ ?_ ?_ | refine XArr.ptr ?_ ?_ ?_); omega; omega)); conv => whnf) | ((with_reducible apply XBr.mk') <;> (intro h; conv => whnf))
    refine XOut.bool ?_
    simp [h]
end GA
end

section
namespace GA
open Go Go.RowKit Go.Proofs
set_option pp.deepTerms true
set_option maxRecDepth 8000
set_option linter.unusedVariables false
set_option linter.unusedSimpArgs false

def prIn (l : Ld) (p : Int × Int) : Bool := inB p.1 0 (l.sacks.length - 1) && inB p.2 0 (l.sacks.length - 1)
def checkR (l : Ld) : Int :=
  if 9 < l.sacks.length ∨ 8 < l.apart.length ∨ 8 < l.wth.length then 2
  else if (inB l.bears 1 100 && inB l.shrink 0 90) = false then 3
  else if (l.sacks.all fun s => inB s.m 1 100 && inB s.o 0 5) = false then 3
  else if ((l.apart ++ l.wth).all (prIn l)) = false then 1
  else if ((l.apart ++ l.wth).all fun p => p.1 != p.2) = false then 5 else 0

theorem check_c (l : Ld) (hw : l.nla = true → l.apart = []) (h1 : l.sacks.length ≤ 100000) (h2 : l.apart.length ≤ 1000) (h3 : l.wth.length ≤ 1000) : Comp Try.prog 51 [ldA l] (.int .i64 (checkR l)) := by
  refine Comp.body (T := tab) (res := [.tmp 2]) tab_ok [] Try.func51 rfl (by kernel_rfl) Try.ntmps51 rfl (by simp only [List.length_cons, List.length_nil]; decide) (by simp only [lowL, AV.low, ldL]; rfl) ?_; conv => whnf
  have hA : ∀ n, Froz Try.prog [.grow 118 n ((l.apart ++ l.wth).map prA)] (.gr 0 (l.apart ++ l.wth).length) (.sl n ((l.apart ++ l.wth).map prA)) := fun n => Froz.grow rfl (by simp) (lowPr _)
  cases hn : l.nla with
  | false =>
    apply Walk.drawX tab_ok mixed_ok [] [2, 5] (hsC [[], [.grow 118 false (l.apart.map prA)], [.grow 118 false ((l.apart ++ l.wth).map prA)]]) [_, _, .gr 0 l.apart.length, _, _, .gr 0 (l.apart ++ l.wth).length, _] (by kernel_rfl) rfl
    · skip
      repeat' first | ((with_reducible first | apply XBr.tt | apply XBr.ff | apply Chk.go | apply ChkA.go | apply ChkF.go | apply ChkB.go | apply XArr.pim0 | apply XArr.pim1); conv => whnf) | (with_reducible apply XBr.not) | ((with_reducible apply XBr.dec) <;> (intro h; first | (exfalso; omega) | ((try simp only [List.length_map] at h); first | (exfalso; omega) | (conv => whnf)))) | ((with_reducible first | apply XBr.beq | apply XBr.bne) <;> (intro h; first | (exfalso; omega) | (conv => whnf))) | ((with_reducible refine XInt.i64 (by omega) (by omega) ?_); conv => whnf) | ((with_reducible refine XHold.mk ?_ ?_); (first | omega | rfl | decide | exact ⟨rfl, by decide, rfl⟩ | exact wideI _ | exact widePr _ | exact wideSk _ | (unfold Room; constructor <;> ((try simp) <;> omega)) | exact ⟨rfl, by simp only [List.length_map], by unfold Room; constructor <;> ((try simp) <;> omega)⟩ | exact ⟨by omega, by omega, by unfold Room; constructor <;> ((try simp) <;> omega)⟩); conv => whnf) | ((first | ((with_reducible refine XIx.nat ?_ ?_ ?_); omega; (intro _; rfl)) | ((with_reducible refine XIx.map ?_ ?_ ?_ ?_); omega; omega; (intro _; rfl))); conv => whnf) | (with_reducible apply XAnd.mk) | (exact XSame.mk rfl rfl) | (exact XSame.mk (by first | rfl | (simp only [List.map_append, List.length_append, List.length_map]; done) | (simp only [List.map_append, List.length_append, List.length_map]; rfl)) (by first | rfl | (simp only [List.map_append]; done) | (simp only [List.map_append]; rfl))) | (with_reducible exact trivial) | ((first | (with_reducible refine xdrop_app (by rw [List.length_map]; omega) ?_) | (with_reducible refine XDrop.desk (by assumption) ?_) | (with_reducible first | refine XArr.ints (by omega) (by omega) (by omega) ?_ | refine XArr.intsA (by omega) (by omega) (by omega) ?_) | ((with_reducible first | refine XArr.nats ?_ ?_ ?_ | refine XArr.natsA ?_ ?_ ?_ | refine XArr.ptr ?_ ?_ ?_); omega; omega)); conv => whnf) | ((with_reducible apply XBr.mk') <;> (intro h; conv => whnf))
      · refine XCall.inl (T := tab) (res := [.tmp 2]) tab_ok [] Try.func104 rfl (by kernel_rfl) Try.ntmps104 rfl (by simp only [List.length_append, List.length_cons, List.length_nil]; decide) ?_; conv => whnf
        refine XBr.no hn ?_
        conv => whnf
        repeat' first | ((with_reducible first | apply XBr.tt | apply XBr.ff | apply Chk.go | apply ChkA.go | apply ChkF.go | apply ChkB.go | apply XArr.pim0 | apply XArr.pim1); conv => whnf) | (with_reducible apply XBr.not) | ((with_reducible apply XBr.dec) <;> (intro h; first | (exfalso; omega) | ((try simp only [List.length_map] at h); first | (exfalso; omega) | (conv => whnf)))) | ((with_reducible first | apply XBr.beq | apply XBr.bne) <;> (intro h; first | (exfalso; omega) | (conv => whnf))) | ((with_reducible refine XInt.i64 (by omega) (by omega) ?_); conv => whnf) | ((with_reducible refine XHold.mk ?_ ?_); (first | omega | rfl | decide | exact ⟨rfl, by decide, rfl⟩ | exact wideI _ | exact widePr _ | exact wideSk _ | (unfold Room; constructor <;> ((try simp) <;> omega)) | exact ⟨rfl, by simp only [List.length_map], by unfold Room; constructor <;> ((try simp) <;> omega)⟩ | exact ⟨by omega, by omega, by unfold Room; constructor <;> ((try simp) <;> omega)⟩); conv => whnf) | ((first | ((with_reducible refine XIx.nat ?_ ?_ ?_); omega; (intro _; rfl)) | ((with_reducible refine XIx.map ?_ ?_ ?_ ?_); omega; omega; (intro _; rfl))); conv => whnf) | (with_reducible apply XAnd.mk) | (exact XSame.mk rfl rfl) | (exact XSame.mk (by first | rfl | (simp only [List.map_append, List.length_append, List.length_map]; done) | (simp only [List.map_append, List.length_append, List.length_map]; rfl)) (by first | rfl | (simp only [List.map_append]; done) | (simp only [List.map_append]; rfl))) | (with_reducible exact trivial) | ((first | (with_reducible refine xdrop_app (by rw [List.length_map]; omega) ?_) | (with_reducible refine XDrop.desk (by assumption) ?_) | (with_reducible first | refine XArr.ints (by omega) (by omega) (by omega) ?_ | refine XArr.intsA (by omega) (by omega) (by omega) ?_) | ((with_reducible first | refine XArr.nats ?_ ?_ ?_ | refine XArr.natsA ?_ ?_ ?_ | refine XArr.ptr ?_ ?_ ?_); omega; omega)); conv => whnf) | ((with_reducible apply XBr.mk') <;> (intro h; conv => whnf))
    · skip
      repeat' first | ((with_reducible first | apply XBr.tt | apply XBr.ff | apply Chk.go | apply ChkA.go | apply ChkF.go | apply ChkB.go | apply XArr.pim0 | apply XArr.pim1); conv => whnf) | (with_reducible apply XBr.not) | ((with_reducible apply XBr.dec) <;> (intro h; first | (exfalso; omega) | ((try simp only [List.length_map] at h); first | (exfalso; omega) | (conv => whnf)))) | ((with_reducible first | apply XBr.beq | apply XBr.bne) <;> (intro h; first | (exfalso; omega) | (conv => whnf))) | ((with_reducible refine XInt.i64 (by omega) (by omega) ?_); conv => whnf) | ((with_reducible refine XHold.mk ?_ ?_); (first | omega | rfl | decide | exact ⟨rfl, by decide, rfl⟩ | exact wideI _ | exact widePr _ | exact wideSk _ | (unfold Room; constructor <;> ((try simp) <;> omega)) | exact ⟨rfl, by simp only [List.length_map], by unfold Room; constructor <;> ((try simp) <;> omega)⟩ | exact ⟨by omega, by omega, by unfold Room; constructor <;> ((try simp) <;> omega)⟩); conv => whnf) | ((first | ((with_reducible refine XIx.nat ?_ ?_ ?_); omega; (intro _; rfl)) | ((with_reducible refine XIx.map ?_ ?_ ?_ ?_); omega; omega; (intro _; rfl))); conv => whnf) | (with_reducible apply XAnd.mk) | (exact XSame.mk rfl rfl) | (exact XSame.mk (by first | rfl | (simp only [List.map_append, List.length_append, List.length_map]; done) | (simp only [List.map_append, List.length_append, List.length_map]; rfl)) (by first | rfl | (simp only [List.map_append]; done) | (simp only [List.map_append]; rfl))) | (with_reducible exact trivial) | ((first | (with_reducible refine xdrop_app (by rw [List.length_map]; omega) ?_) | (with_reducible refine XDrop.desk (by assumption) ?_) | (with_reducible first | refine XArr.ints (by omega) (by omega) (by omega) ?_ | refine XArr.intsA (by omega) (by omega) (by omega) ?_) | ((with_reducible first | refine XArr.nats ?_ ?_ ?_ | refine XArr.natsA ?_ ?_ ?_ | refine XArr.ptr ?_ ?_ ?_); omega; omega)); conv => whnf) | ((with_reducible apply XBr.mk') <;> (intro h; conv => whnf))
    · skip
      conv => whnf
      repeat' first | ((with_reducible first | apply XBr.tt | apply XBr.ff | apply Chk.go | apply ChkA.go | apply ChkF.go | apply ChkB.go | apply XArr.pim0 | apply XArr.pim1); conv => whnf) | (with_reducible apply XBr.not) | ((with_reducible apply XBr.dec) <;> (intro h; first | (exfalso; omega) | ((try simp only [List.length_map] at h); first | (exfalso; omega) | (conv => whnf)))) | ((with_reducible first | apply XBr.beq | apply XBr.bne) <;> (intro h; first | (exfalso; omega) | (conv => whnf))) | ((with_reducible refine XInt.i64 (by omega) (by omega) ?_); conv => whnf) | ((with_reducible refine XHold.mk ?_ ?_); (first | omega | rfl | decide | exact ⟨rfl, by decide, rfl⟩ | exact wideI _ | exact widePr _ | exact wideSk _ | (unfold Room; constructor <;> ((try simp) <;> omega)) | exact ⟨rfl, by simp only [List.length_map], by unfold Room; constructor <;> ((try simp) <;> omega)⟩ | exact ⟨by omega, by omega, by unfold Room; constructor <;> ((try simp) <;> omega)⟩); conv => whnf) | ((first | ((with_reducible refine XIx.nat ?_ ?_ ?_); omega; (intro _; rfl)) | ((with_reducible refine XIx.map ?_ ?_ ?_ ?_); omega; omega; (intro _; rfl))); conv => whnf) | (with_reducible apply XAnd.mk) | (exact XSame.mk rfl rfl) | (exact XSame.mk (by first | rfl | (simp only [List.map_append, List.length_append, List.length_map]; done) | (simp only [List.map_append, List.length_append, List.length_map]; rfl)) (by first | rfl | (simp only [List.map_append]; done) | (simp only [List.map_append]; rfl))) | (with_reducible exact trivial) | ((first | (with_reducible refine xdrop_app (by rw [List.length_map]; omega) ?_) | (with_reducible refine XDrop.desk (by assumption) ?_) | (with_reducible first | refine XArr.ints (by omega) (by omega) (by omega) ?_ | refine XArr.intsA (by omega) (by omega) (by omega) ?_) | ((with_reducible first | refine XArr.nats ?_ ?_ ?_ | refine XArr.natsA ?_ ?_ ?_ | refine XArr.ptr ?_ ?_ ?_); omega; omega)); conv => whnf) | (refine XCall.ret (in_c _ _ _) ?_; conv => whnf) | (refine XCall.ret (every_sk l.nls l.sacks 106 [] _ rfl h1 fun x _ => sack_in x) ?_; conv => whnf) | (refine XCall.lend (every_pr _ (l.apart ++ l.wth) 108 [.pim (ldC l)] (prIn l) (by simp only [lowL, AV.low, lowLd]; rfl) (by simp; omega) fun x _ => pair_in l x h1) (.cons (hA _) (.cons (.low (by simp only [lowL, AV.low, lowLd]; rfl)) .nil)) rfl ?_; conv => whnf) | (refine XCall.lend (every_pr _ (l.apart ++ l.wth) 109 [] _ rfl (by simp; omega) fun x _ => pair_ne x) (.cons (hA _) (.cons (.low rfl) .nil)) rfl ?_; conv => whnf) | ((with_reducible apply XBr.mk') <;> (intro h; conv => whnf))
      all_goals ((try clear ha); clear hw hA hn; refine XOut.int ?_; unfold checkR; (repeat' split) <;> first | rfl | (exfalso; omega) | simp_all)
  | true =>
    have ha := hw hn
    apply Walk.drawX tab_ok mixed_ok [] [5] (hsC [[], [.grow 118 l.wth.isEmpty ((l.apart ++ l.wth).map prA)]]) [_, _, .sl true [], _, _, .gr 0 (l.apart ++ l.wth).length, _] (by kernel_rfl) rfl
    · skip
      repeat' first | ((with_reducible first | apply XBr.tt | apply XBr.ff | apply Chk.go | apply ChkA.go | apply ChkF.go | apply ChkB.go | apply XArr.pim0 | apply XArr.pim1); conv => whnf) | (with_reducible apply XBr.not) | ((with_reducible apply XBr.dec) <;> (intro h; first | (exfalso; omega) | ((try simp only [List.length_map] at h); first | (exfalso; omega) | (conv => whnf)))) | ((with_reducible first | apply XBr.beq | apply XBr.bne) <;> (intro h; first | (exfalso; omega) | (conv => whnf))) | ((with_reducible refine XInt.i64 (by omega) (by omega) ?_); conv => whnf) | ((with_reducible refine XHold.mk ?_ ?_); (first | omega | rfl | decide | exact ⟨rfl, by decide, rfl⟩ | exact wideI _ | exact widePr _ | exact wideSk _ | (unfold Room; constructor <;> ((try simp) <;> omega)) | exact ⟨rfl, by simp only [List.length_map], by unfold Room; constructor <;> ((try simp) <;> omega)⟩ | exact ⟨by omega, by omega, by unfold Room; constructor <;> ((try simp) <;> omega)⟩); conv => whnf) | ((first | ((with_reducible refine XIx.nat ?_ ?_ ?_); omega; (intro _; rfl)) | ((with_reducible refine XIx.map ?_ ?_ ?_ ?_); omega; omega; (intro _; rfl))); conv => whnf) | (with_reducible apply XAnd.mk) | (exact XSame.mk rfl rfl) | (exact XSame.mk (by first | rfl | (simp only [List.map_append, List.length_append, List.length_map]; done) | (simp only [List.map_append, List.length_append, List.length_map]; rfl)) (by first | rfl | (simp only [List.map_append]; done) | (simp only [List.map_append]; rfl))) | (with_reducible exact trivial) | ((first | (with_reducible refine xdrop_app (by rw [List.length_map]; omega) ?_) | (with_reducible refine XDrop.desk (by assumption) ?_) | (with_reducible first | refine XArr.ints (by omega) (by omega) (by omega) ?_ | refine XArr.intsA (by omega) (by omega) (by omega) ?_) | ((with_reducible first | refine XArr.nats ?_ ?_ ?_ | refine XArr.natsA ?_ ?_ ?_ | refine XArr.ptr ?_ ?_ ?_); omega; omega)); conv => whnf) | ((with_reducible apply XBr.mk') <;> (intro h; conv => whnf))
      · refine XCall.inl (T := tab) (res := [.tmp 2]) tab_ok [] Try.func104 rfl (by kernel_rfl) Try.ntmps104 rfl (by simp only [List.length_append, List.length_cons, List.length_nil]; decide) ?_; conv => whnf
        refine XBr.yes hn ?_
        conv => whnf
        repeat' first | ((with_reducible first | apply XBr.tt | apply XBr.ff | apply Chk.go | apply ChkA.go | apply ChkF.go | apply ChkB.go | apply XArr.pim0 | apply XArr.pim1); conv => whnf) | (with_reducible apply XBr.not) | ((with_reducible apply XBr.dec) <;> (intro h; first | (exfalso; omega) | ((try simp only [List.length_map] at h); first | (exfalso; omega) | (conv => whnf)))) | ((with_reducible first | apply XBr.beq | apply XBr.bne) <;> (intro h; first | (exfalso; omega) | (conv => whnf))) | ((with_reducible refine XInt.i64 (by omega) (by omega) ?_); conv => whnf) | ((with_reducible refine XHold.mk ?_ ?_); (first | omega | rfl | decide | exact ⟨rfl, by decide, rfl⟩ | exact wideI _ | exact widePr _ | exact wideSk _ | (unfold Room; constructor <;> ((try simp) <;> omega)) | exact ⟨rfl, by simp only [List.length_map], by unfold Room; constructor <;> ((try simp) <;> omega)⟩ | exact ⟨by omega, by omega, by unfold Room; constructor <;> ((try simp) <;> omega)⟩); conv => whnf) | ((first | ((with_reducible refine XIx.nat ?_ ?_ ?_); omega; (intro _; rfl)) | ((with_reducible refine XIx.map ?_ ?_ ?_ ?_); omega; omega; (intro _; rfl))); conv => whnf) | (with_reducible apply XAnd.mk) | (exact XSame.mk rfl rfl) | (exact XSame.mk (by first | rfl | (simp only [List.map_append, List.length_append, List.length_map]; done) | (simp only [List.map_append, List.length_append, List.length_map]; rfl)) (by first | rfl | (simp only [List.map_append]; done) | (simp only [List.map_append]; rfl))) | (with_reducible exact trivial) | ((first | (with_reducible refine xdrop_app (by rw [List.length_map]; omega) ?_) | (with_reducible refine XDrop.desk (by assumption) ?_) | (with_reducible first | refine XArr.ints (by omega) (by omega) (by omega) ?_ | refine XArr.intsA (by omega) (by omega) (by omega) ?_) | ((with_reducible first | refine XArr.nats ?_ ?_ ?_ | refine XArr.natsA ?_ ?_ ?_ | refine XArr.ptr ?_ ?_ ?_); omega; omega)); conv => whnf) | ((with_reducible apply XBr.mk') <;> (intro h; conv => whnf))
      exact XSame.mk (by rw [ha]; simp) (by rw [ha, List.nil_append, List.isEmpty_map]; rfl)
    · skip
      repeat' first | ((with_reducible first | apply XBr.tt | apply XBr.ff | apply Chk.go | apply ChkA.go | apply ChkF.go | apply ChkB.go | apply XArr.pim0 | apply XArr.pim1); conv => whnf) | (with_reducible apply XBr.not) | ((with_reducible apply XBr.dec) <;> (intro h; first | (exfalso; omega) | ((try simp only [List.length_map] at h); first | (exfalso; omega) | (conv => whnf)))) | ((with_reducible first | apply XBr.beq | apply XBr.bne) <;> (intro h; first | (exfalso; omega) | (conv => whnf))) | ((with_reducible refine XInt.i64 (by omega) (by omega) ?_); conv => whnf) | ((with_reducible refine XHold.mk ?_ ?_); (first | omega | rfl | decide | exact ⟨rfl, by decide, rfl⟩ | exact wideI _ | exact widePr _ | exact wideSk _ | (unfold Room; constructor <;> ((try simp) <;> omega)) | exact ⟨rfl, by simp only [List.length_map], by unfold Room; constructor <;> ((try simp) <;> omega)⟩ | exact ⟨by omega, by omega, by unfold Room; constructor <;> ((try simp) <;> omega)⟩); conv => whnf) | ((first | ((with_reducible refine XIx.nat ?_ ?_ ?_); omega; (intro _; rfl)) | ((with_reducible refine XIx.map ?_ ?_ ?_ ?_); omega; omega; (intro _; rfl))); conv => whnf) | (with_reducible apply XAnd.mk) | (exact XSame.mk rfl rfl) | (exact XSame.mk (by first | rfl | (simp only [List.map_append, List.length_append, List.length_map]; done) | (simp only [List.map_append, List.length_append, List.length_map]; rfl)) (by first | rfl | (simp only [List.map_append]; done) | (simp only [List.map_append]; rfl))) | (with_reducible exact trivial) | ((first | (with_reducible refine xdrop_app (by rw [List.length_map]; omega) ?_) | (with_reducible refine XDrop.desk (by assumption) ?_) | (with_reducible first | refine XArr.ints (by omega) (by omega) (by omega) ?_ | refine XArr.intsA (by omega) (by omega) (by omega) ?_) | ((with_reducible first | refine XArr.nats ?_ ?_ ?_ | refine XArr.natsA ?_ ?_ ?_ | refine XArr.ptr ?_ ?_ ?_); omega; omega)); conv => whnf) | ((with_reducible apply XBr.mk') <;> (intro h; conv => whnf))
    · skip
      conv => whnf
      repeat' first | ((with_reducible first | apply XBr.tt | apply XBr.ff | apply Chk.go | apply ChkA.go | apply ChkF.go | apply ChkB.go | apply XArr.pim0 | apply XArr.pim1); conv => whnf) | (with_reducible apply XBr.not) | ((with_reducible apply XBr.dec) <;> (intro h; first | (exfalso; omega) | ((try simp only [List.length_map] at h); first | (exfalso; omega) | (conv => whnf)))) | ((with_reducible first | apply XBr.beq | apply XBr.bne) <;> (intro h; first | (exfalso; omega) | (conv => whnf))) | ((with_reducible refine XInt.i64 (by omega) (by omega) ?_); conv => whnf) | ((with_reducible refine XHold.mk ?_ ?_); (first | omega | rfl | decide | exact ⟨rfl, by decide, rfl⟩ | exact wideI _ | exact widePr _ | exact wideSk _ | (unfold Room; constructor <;> ((try simp) <;> omega)) | exact ⟨rfl, by simp only [List.length_map], by unfold Room; constructor <;> ((try simp) <;> omega)⟩ | exact ⟨by omega, by omega, by unfold Room; constructor <;> ((try simp) <;> omega)⟩); conv => whnf) | ((first | ((with_reducible refine XIx.nat ?_ ?_ ?_); omega; (intro _; rfl)) | ((with_reducible refine XIx.map ?_ ?_ ?_ ?_); omega; omega; (intro _; rfl))); conv => whnf) | (with_reducible apply XAnd.mk) | (exact XSame.mk rfl rfl) | (exact XSame.mk (by first | rfl | (simp only [List.map_append, List.length_append, List.length_map]; done) | (simp only [List.map_append, List.length_append, List.length_map]; rfl)) (by first | rfl | (simp only [List.map_append]; done) | (simp only [List.map_append]; rfl))) | (with_reducible exact trivial) | ((first | (with_reducible refine xdrop_app (by rw [List.length_map]; omega) ?_) | (with_reducible refine XDrop.desk (by assumption) ?_) | (with_reducible first | refine XArr.ints (by omega) (by omega) (by omega) ?_ | refine XArr.intsA (by omega) (by omega) (by omega) ?_) | ((with_reducible first | refine XArr.nats ?_ ?_ ?_ | refine XArr.natsA ?_ ?_ ?_ | refine XArr.ptr ?_ ?_ ?_); omega; omega)); conv => whnf) | (refine XCall.ret (in_c _ _ _) ?_; conv => whnf) | (refine XCall.ret (every_sk l.nls l.sacks 106 [] _ rfl h1 fun x _ => sack_in x) ?_; conv => whnf) | (refine XCall.lend (every_pr _ (l.apart ++ l.wth) 108 [.pim (ldC l)] (prIn l) (by simp only [lowL, AV.low, lowLd]; rfl) (by simp; omega) fun x _ => pair_in l x h1) (.cons (hA _) (.cons (.low (by simp only [lowL, AV.low, lowLd]; rfl)) .nil)) rfl ?_; conv => whnf) | (refine XCall.lend (every_pr _ (l.apart ++ l.wth) 109 [] _ rfl (by simp; omega) fun x _ => pair_ne x) (.cons (hA _) (.cons (.low rfl) .nil)) rfl ?_; conv => whnf) | ((with_reducible apply XBr.mk') <;> (intro h; conv => whnf))
      all_goals ((try clear ha); clear hw hA hn; refine XOut.int ?_; unfold checkR; (repeat' split) <;> first | rfl | (exfalso; omega) | simp_all)
end GA
end

section
namespace GA
open Go Go.RowKit Go.Proofs
set_option pp.deepTerms true
set_option maxRecDepth 8000
set_option linter.unusedVariables false
set_option linter.unusedSimpArgs false

def weightR (l : Ld) (s : Sk) : Int := s.m - s.m * l.shrink / 100
theorem weight_c (l : Ld) (s : Sk) (h : 0 ≤ s.m) (h' : s.m ≤ 100) (h2 : 0 ≤ l.shrink) (h3 : l.shrink ≤ 100) : Comp Try.prog 85 [ldA l, skA s] (.int .i64 (weightR l s)) := by
  refine Comp.body (T := tab) (res := [.tmp 4]) tab_ok [] Try.func85 rfl (by kernel_rfl) Try.ntmps85 rfl (by simp only [List.length_cons, List.length_nil]; decide) (by simp only [lowL, AV.low, ldL, skL]; rfl) ?_; conv => whnf
  have e1 : 0 ≤ s.m * l.shrink := Int.mul_nonneg h h2
  have e2 : s.m * l.shrink ≤ 100 * 100 := Int.mul_le_mul h' h3 h2 (by omega)
  have e3 : (s.m * l.shrink).tdiv 100 = (s.m * l.shrink) / 100 := Int.tdiv_eq_ediv_of_nonneg e1
  repeat' first | ((with_reducible first | apply XBr.tt | apply XBr.ff | apply Chk.go | apply ChkA.go | apply ChkF.go | apply ChkB.go | apply XArr.pim0 | apply XArr.pim1); conv => whnf) | (with_reducible apply XBr.not) | ((with_reducible apply XBr.dec) <;> (intro h; first | (exfalso; omega) | ((try simp only [List.length_map] at h); first | (exfalso; omega) | (conv => whnf)))) | ((with_reducible first | apply XBr.beq | apply XBr.bne) <;> (intro h; first | (exfalso; omega) | (conv => whnf))) | ((with_reducible refine XInt.i64 (by omega) (by omega) ?_); conv => whnf) | ((with_reducible refine XHold.mk ?_ ?_); (first | omega | rfl | decide | exact ⟨rfl, by decide, rfl⟩ | exact wideI _ | exact widePr _ | exact wideSk _ | (unfold Room; constructor <;> ((try simp) <;> omega)) | exact ⟨rfl, by simp only [List.length_map], by unfold Room; constructor <;> ((try simp) <;> omega)⟩ | exact ⟨by omega, by omega, by unfold Room; constructor <;> ((try simp) <;> omega)⟩); conv => whnf) | ((first | ((with_reducible refine XIx.nat ?_ ?_ ?_); omega; (intro _; rfl)) | ((with_reducible refine XIx.map ?_ ?_ ?_ ?_); omega; omega; (intro _; rfl))); conv => whnf) | (with_reducible apply XAnd.mk) | (exact XSame.mk rfl rfl) | (exact XSame.mk (by first | rfl | (simp only [List.map_append, List.length_append, List.length_map]; done) | (simp only [List.map_append, List.length_append, List.length_map]; rfl)) (by first | rfl | (simp only [List.map_append]; done) | (simp only [List.map_append]; rfl))) | (with_reducible exact trivial) | ((first | (with_reducible refine xdrop_app (by rw [List.length_map]; omega) ?_) | (with_reducible refine XDrop.desk (by assumption) ?_) | (with_reducible first | refine XArr.ints (by omega) (by omega) (by omega) ?_ | refine XArr.intsA (by omega) (by omega) (by omega) ?_) | ((with_reducible first | refine XArr.nats ?_ ?_ ?_ | refine XArr.natsA ?_ ?_ ?_ | refine XArr.ptr ?_ ?_ ?_); omega; omega)); conv => whnf) | ((with_reducible apply XBr.mk') <;> (intro h; conv => whnf))
  · refine XOut.int ?_
    rw [e3]; rfl

def bitsF : Nat → Nat → Nat → List Int
  | 0, _, _ => []
  | f + 1, i, s => if s = 0 then [] else if s % 2 = 1 then (i : Int) :: bitsF f (i + 1) (s / 2) else bitsF f (i + 1) (s / 2)
theorem bitsF_zero : ∀ (f i : Nat), bitsF f i 0 = []
  | 0, _ => rfl
  | f + 1, _ => by simp [bitsF]
theorem bitsF_length : ∀ (f i s : Nat), (bitsF f i s).length ≤ f
  | 0, _, _ => by simp [bitsF]
  | f + 1, i, s => by
    unfold bitsF; have := bitsF_length f (i + 1) (s / 2)
    split
    · simp
    · split <;> simp <;> omega
def bits (s : Nat) : List Int := bitsF 62 0 s
theorem list_c (n : Nat) (hn : n < 4611686018427387904) : Comp Try.prog 81 [.int .i64 n] (slA (bits n)) := by
  refine Comp.body (T := tab) (res := [.tmp 2]) tab_ok [] Try.func81 rfl (by kernel_rfl) Try.ntmps81 rfl (by simp only [List.length_cons, List.length_nil]; decide) (by rfl) ?_; conv => whnf
  refine Walk.nilgr 3 3 rfl ?_
  refine Walk.loop tab_ok [] (fun g : Nat × Nat × List Int => g.1 ≤ 62 ∧ g.2.1 < 2 ^ (62 - g.1) ∧ g.2.2 ++ bitsF (62 - g.1) g.1 g.2.1 = bits n) (fun g => [(0, .int .i64 g.2.1), (3, .gr 0 g.2.2.length), (4, .int .i64 g.1)]) (fun g => [.grow 3 g.2.2.isEmpty (ints g.2.2)]) (fun g => g.2.1) (0, n, []) ⟨by omega, by simpa using hn, rfl⟩ rfl ⟨rfl, rfl, rfl, trivial⟩ ?_
  rintro ⟨i, s, out⟩ ⟨h1, h2, h3⟩
  simp only at h1 h2 h3
  have hlen : (out ++ bitsF (62 - i) i s).length = (bits n).length := by rw [h3]
  have hb := bitsF_length 62 0 n
  have hl : out.length ≤ 62 := by unfold bits at hlen; rw [List.length_append] at hlen; omega
  have hp : 2 ^ (62 - i) ≤ 2 ^ 62 := Nat.pow_le_pow_right (by omega) (by omega)
  have e1 : (s : Int).tdiv 2 = ((s / 2 : Nat) : Int) := rfl
  have e2 : (s : Int).tmod 2 = ((s % 2 : Nat) : Int) := rfl
  have step : 0 < s → 62 - i = (62 - (i + 1)) + 1 := fun h => by
    rcases Nat.lt_or_ge i 62 with h | h
    · omega
    · rw [show 62 - i = 0 by omega] at h2; simp at h2; omega
  have half : 0 < s → s / 2 < 2 ^ (62 - (i + 1)) := fun h => by
    rw [step h, Nat.pow_succ] at h2; omega
  dsimp only
  conv => whnf
  repeat' first | ((with_reducible first | apply XBr.tt | apply XBr.ff | apply Chk.go | apply ChkA.go | apply ChkF.go | apply ChkB.go | apply XArr.pim0 | apply XArr.pim1); conv => whnf) | (with_reducible apply XBr.not) | ((with_reducible apply XBr.dec) <;> (intro h; first | (exfalso; omega) | ((try simp only [List.length_map] at h); first | (exfalso; omega) | (conv => whnf)))) | ((with_reducible first | apply XBr.beq | apply XBr.bne) <;> (intro h; first | (exfalso; omega) | (conv => whnf))) | ((with_reducible refine XInt.i64 (by omega) (by omega) ?_); conv => whnf) | ((with_reducible refine XHold.mk ?_ ?_); (first | omega | rfl | decide | exact ⟨rfl, by decide, rfl⟩ | exact wideI _ | exact widePr _ | exact wideSk _ | (unfold Room; constructor <;> ((try simp) <;> omega)) | exact ⟨rfl, by simp only [List.length_map], by unfold Room; constructor <;> ((try simp) <;> omega)⟩ | exact ⟨by omega, by omega, by unfold Room; constructor <;> ((try simp) <;> omega)⟩); conv => whnf) | ((first | ((with_reducible refine XIx.nat ?_ ?_ ?_); omega; (intro _; rfl)) | ((with_reducible refine XIx.map ?_ ?_ ?_ ?_); omega; omega; (intro _; rfl))); conv => whnf) | (with_reducible apply XAnd.mk) | (exact XSame.mk rfl rfl) | (exact XSame.mk (by first | rfl | (simp only [List.map_append, List.length_append, List.length_map]; done) | (simp only [List.map_append, List.length_append, List.length_map]; rfl)) (by first | rfl | (simp only [List.map_append]; done) | (simp only [List.map_append]; rfl))) | (with_reducible exact trivial) | ((first | (with_reducible refine xdrop_app (by rw [List.length_map]; omega) ?_) | (with_reducible refine XDrop.desk (by assumption) ?_) | (with_reducible first | refine XArr.ints (by omega) (by omega) (by omega) ?_ | refine XArr.intsA (by omega) (by omega) (by omega) ?_) | ((with_reducible first | refine XArr.nats ?_ ?_ ?_ | refine XArr.natsA ?_ ?_ ?_ | refine XArr.ptr ?_ ?_ ?_); omega; omega)); conv => whnf) | ((with_reducible apply XBr.mk') <;> (intro h; conv => whnf))
  · have hs := step (by omega)
    refine XAgain.go (i + 1, s / 2, out ++ [(i : Int)]) ⟨by dsimp only; omega, half (by omega), ?_⟩ (by dsimp only; omega) ?_ ⟨rfl, ?_, rfl, trivial⟩
    · rw [← h3, hs]
      have : s % 2 = 1 := by rw [e2] at h; omega
      simp only [bitsF, if_neg (show ¬ s = 0 by omega), if_pos this, List.append_assoc, List.singleton_append, Nat.add_sub_cancel]
    · simp
    · simp only [List.length_append]; rfl
  · have hs := step (by omega)
    refine XAgain.go (i + 1, s / 2, out) ⟨by dsimp only; omega, half (by omega), ?_⟩ (by dsimp only; omega) rfl ⟨rfl, rfl, rfl, trivial⟩
    rw [← h3, hs]
    have : ¬ s % 2 = 1 := by rw [e2] at h; omega
    simp only [bitsF, if_neg (show ¬ s = 0 by omega), if_neg this, Nat.add_sub_cancel]
  · have hs : s = 0 := by omega
    subst hs
    rw [bitsF_zero, List.append_nil] at h3
    subst h3
    exact ⟨Froz.grow rfl (by simp) (lowI _)⟩
end GA
end

section
namespace GA
open Go Go.RowKit
set_option linter.unusedVariables false
theorem wrap_nat {n : Nat} (h : n < 9223372036854775808) : IntKind.i64.wrap (n : Int) = n := by
  simp only [IntKind.wrap, IntKind.bits, IntKind.signed]; simp; omega
theorem bv_nat (a : Nat) : BitVec.ofInt IntKind.i64.bits (a : Int) = BitVec.ofNat 64 a := BitVec.ofInt_natCast ..
theorem iand_nat {a b : Nat} (ha : a < 9223372036854775808) (hb : b < 9223372036854775808) : iand .i64 a b = ((a &&& b : Nat) : Int) := by
  have h : a &&& b < 9223372036854775808 := Nat.lt_of_le_of_lt Nat.and_le_left ha
  unfold iand
  rw [bv_nat, bv_nat]
  have : (BitVec.ofNat 64 a &&& BitVec.ofNat 64 b).toNat = a &&& b := by
    rw [BitVec.toNat_and, BitVec.toNat_ofNat, BitVec.toNat_ofNat, Nat.mod_eq_of_lt (by omega), Nat.mod_eq_of_lt (by omega)]
  exact (congrArg (fun n : Nat => IntKind.i64.wrap (n : Int)) this).trans (wrap_nat h)
theorem ior_nat {a b : Nat} (ha : a < 9223372036854775808) (hb : b < 9223372036854775808) : ior .i64 a b = ((a ||| b : Nat) : Int) := by
  have h : a ||| b < 2 ^ 63 := Nat.or_lt_two_pow (n := 63) (by omega) (by omega)
  unfold ior
  rw [bv_nat, bv_nat]
  have : (BitVec.ofNat 64 a ||| BitVec.ofNat 64 b).toNat = a ||| b := by
    rw [BitVec.toNat_or, BitVec.toNat_ofNat, BitVec.toNat_ofNat, Nat.mod_eq_of_lt (by omega), Nat.mod_eq_of_lt (by omega)]
  exact (congrArg (fun n : Nat => IntKind.i64.wrap (n : Int)) this).trans (wrap_nat (by omega))
theorem ixor_nat {a b : Nat} (ha : a < 9223372036854775808) (hb : b < 9223372036854775808) : ixor .i64 a b = ((a ^^^ b : Nat) : Int) := by
  have h : a ^^^ b < 2 ^ 63 := Nat.xor_lt_two_pow (n := 63) (by omega) (by omega)
  unfold ixor
  rw [bv_nat, bv_nat]
  have : (BitVec.ofNat 64 a ^^^ BitVec.ofNat 64 b).toNat = a ^^^ b := by
    rw [BitVec.toNat_xor, BitVec.toNat_ofNat, BitVec.toNat_ofNat, Nat.mod_eq_of_lt (by omega), Nat.mod_eq_of_lt (by omega)]
  exact (congrArg (fun n : Nat => IntKind.i64.wrap (n : Int)) this).trans (wrap_nat (by omega))
def diff (a b : Nat) : Nat := a ^^^ (a &&& b)
theorem iandn_nat {a b : Nat} (ha : a < 9223372036854775808) (hb : b < 9223372036854775808) : iandn .i64 a b = ((diff a b : Nat) : Int) := by
  have h0 : a &&& b < 2 ^ 63 := Nat.lt_of_le_of_lt Nat.and_le_left (by omega)
  have h : a ^^^ (a &&& b) < 2 ^ 63 := Nat.xor_lt_two_pow (n := 63) (by omega) h0
  unfold iandn
  rw [bv_nat, bv_nat]
  have hbv : BitVec.ofNat 64 a &&& ~~~ (BitVec.ofNat 64 b) = BitVec.ofNat 64 a ^^^ (BitVec.ofNat 64 a &&& BitVec.ofNat 64 b) := by
    apply BitVec.eq_of_getLsbD_eq; intro i hi; simp
    cases (BitVec.ofNat 64 a).getLsbD i <;> cases (BitVec.ofNat 64 b).getLsbD i <;> simp_all
  have : (BitVec.ofNat 64 a &&& ~~~ (BitVec.ofNat 64 b)).toNat = a ^^^ (a &&& b) := by
    rw [hbv, BitVec.toNat_xor, BitVec.toNat_and, BitVec.toNat_ofNat, BitVec.toNat_ofNat, Nat.mod_eq_of_lt (by omega), Nat.mod_eq_of_lt (by omega)]
  exact (congrArg (fun n : Nat => IntKind.i64.wrap (n : Int)) this).trans (wrap_nat (by omega))
theorem shr_nat {a k : Nat} (hk : k ≤ 64) : (a : Int).fdiv (2 ^ (min (k : Int).toNat IntKind.i64.bits)) = ((a / 2 ^ k : Nat) : Int) := by
  have : min (k : Int).toNat IntKind.i64.bits = k := by simp only [Int.toNat_natCast, IntKind.bits]; omega
  rw [this]
  have h2 : ((2 : Int) ^ k) = ((2 ^ k : Nat) : Int) := by simp
  rw [h2, Int.fdiv_eq_ediv_of_nonneg _ (Int.natCast_nonneg _)]; rfl
theorem shl_nat {k : Nat} (hk : k ≤ 64) : (1 : Int) * 2 ^ (min (k : Int).toNat IntKind.i64.bits) = ((2 ^ k : Nat) : Int) := by
  have : min (k : Int).toNat IntKind.i64.bits = k := by simp only [Int.toNat_natCast, IntKind.bits]; omega
  rw [this]; simp
end GA
end

section
namespace GA
open Go Go.RowKit Go.Proofs
set_option pp.deepTerms true
set_option maxRecDepth 8000
set_option linter.unusedVariables false
set_option linter.unusedSimpArgs false

def natA (n : Nat) : AV := .int .i64 n
abbrev nats (xs : List Nat) : List AV := xs.map natA
theorem lowN {n : Nat} (xs : List Nat) : lowL n (nats xs) = true := lowL_map (fun _ => rfl) xs
theorem nats_at {xs : List Nat} {i : Nat} (h : i < xs.length) (b : List AV) : (nats xs ++ b)[i * 1]? = some (.int .i64 (xs.getD i 0 : Nat)) := by
  rw [Nat.mul_one, List.getElem?_append_left (by simpa using h), List.getElem?_map, List.getElem?_eq_getElem h, List.getD_eq_getElem?_getD, List.getElem?_eq_getElem h]; rfl
theorem XArr.nats {xs : List Nat} {i m : Nat} {k : AV → Prop} (h2 : i < m) (hm : m ≤ xs.length) (h : k (.pim (.int .i64 (xs.getD i 0 : Nat) :: (GA.nats xs).drop (i * 1 + 1)))) : XArr (.pim (GA.nats xs)) (i : Int) m 1 k :=
  XArr.at _ (by omega) (by omega) (by have := nats_at (xs := xs) (i := i) (by omega) []; simpa using this) h
theorem XArr.natsA {xs : List Nat} {b : List AV} {i m : Nat} {k : AV → Prop} (h2 : i < m) (hm : m ≤ xs.length) (h : k (.pim (.int .i64 (xs.getD i 0 : Nat) :: (GA.nats xs ++ b).drop (i * 1 + 1)))) : XArr (.pim (GA.nats xs ++ b)) (i : Int) m 1 k :=
  XArr.at _ (by omega) (by omega) (nats_at (xs := xs) (i := i) (by omega) b) h
structure Dk where
  l : Ld
  hv : List Nat
  nd : List Nat
def deskC (d : Dk) : List AV := .int .i64 d.l.bears :: .int .i64 d.l.shrink :: .sl d.l.nls (d.l.sacks.map skA) :: .sl d.l.nla (d.l.apart.map prA) :: .sl d.l.nlw (d.l.wth.map prA) :: (nats d.hv ++ nats d.nd)
theorem lowL_append {n : Nat} (a b : List AV) : lowL n (a ++ b) = (lowL n a && lowL n b) := by
  induction a with | nil => rfl | cons x a ih => simp only [List.cons_append, lowL, ih, Bool.and_assoc]
theorem lowDk {n : Nat} (d : Dk) : lowL n (deskC d) = true := by simp only [deskC, lowL, AV.low, lowSk, lowPr, lowL_append, lowN]; rfl
theorem XDrop.desk {d : Dk} {k : List AV → Prop} (hh : d.hv.length = 512) (h : k (nats d.nd)) : XDrop 517 (deskC d) k := by
  have e : deskC d = (.int .i64 d.l.bears :: .int .i64 d.l.shrink :: .sl d.l.nls (d.l.sacks.map skA) :: .sl d.l.nla (d.l.apart.map prA) :: .sl d.l.nlw (d.l.wth.map prA) :: nats d.hv) ++ nats d.nd := rfl
  have l : (.int .i64 d.l.bears :: .int .i64 d.l.shrink :: .sl d.l.nls (d.l.sacks.map skA) :: .sl d.l.nla (d.l.apart.map prA) :: .sl d.l.nlw (d.l.wth.map prA) :: nats d.hv).length = 517 := by simp [hh]
  refine ⟨by rw [e, List.length_append, l]; omega, ?_⟩
  rw [e, List.drop_left' l]; exact h
structure DkOk (d : Dk) : Prop where
  hv : d.hv.length = 512
  nd : d.nd.length = 9
  small : ∀ i, d.nd.getD i 0 < 512
  big : ∀ i, d.hv.getD i 0 < 1000000

theorem whole1_c (d : Dk) (ok : DkOk d) (i set : Nat) (h2 : i < 9) (hs : set < 512) :
    Comp Try.prog 152 [.int .i64 i, .pim [.pim (deskC d)], .pim [.int .i64 set]] (.bool (diff (d.nd.getD i 0) set == 0)) := by
  refine Comp.body (T := tab) (res := [.tmp 4]) tab_ok [] Try.func152 rfl (by kernel_rfl) Try.ntmps152 rfl (by simp only [List.length_cons, List.length_nil]; decide) (by simp only [lowL, AV.low, lowDk]; rfl) ?_; conv => whnf
  have g1 := ok.hv
  have g2 := ok.nd
  apply Walk.drawX tab_ok mixed_ok [] [] (fun _ => []) [_, _, _, _, _, _, _, _, _, _] (by kernel_rfl) rfl
  · skip
    repeat' first | ((with_reducible first | apply XBr.tt | apply XBr.ff | apply Chk.go | apply ChkA.go | apply ChkF.go | apply ChkB.go | apply XArr.pim0 | apply XArr.pim1); conv => whnf) | (with_reducible apply XBr.not) | ((with_reducible apply XBr.dec) <;> (intro h; first | (exfalso; omega) | ((try simp only [List.length_map] at h); first | (exfalso; omega) | (conv => whnf)))) | ((with_reducible first | apply XBr.beq | apply XBr.bne) <;> (intro h; first | (exfalso; omega) | (conv => whnf))) | ((with_reducible refine XInt.i64 (by omega) (by omega) ?_); conv => whnf) | ((with_reducible refine XHold.mk ?_ ?_); (first | omega | rfl | decide | exact ⟨rfl, by decide, rfl⟩ | exact wideI _ | exact widePr _ | exact wideSk _ | (unfold Room; constructor <;> ((try simp) <;> omega)) | exact ⟨rfl, by simp only [List.length_map], by unfold Room; constructor <;> ((try simp) <;> omega)⟩ | exact ⟨by omega, by omega, by unfold Room; constructor <;> ((try simp) <;> omega)⟩); conv => whnf) | ((first | ((with_reducible refine XIx.nat ?_ ?_ ?_); omega; (intro _; rfl)) | ((with_reducible refine XIx.map ?_ ?_ ?_ ?_); omega; omega; (intro _; rfl))); conv => whnf) | (with_reducible apply XAnd.mk) | (exact XSame.mk rfl rfl) | (exact XSame.mk (by first | rfl | (simp only [List.map_append, List.length_append, List.length_map]; done) | (simp only [List.map_append, List.length_append, List.length_map]; rfl)) (by first | rfl | (simp only [List.map_append]; done) | (simp only [List.map_append]; rfl))) | (with_reducible exact trivial) | ((first | (with_reducible refine xdrop_app (by rw [List.length_map]; omega) ?_) | (with_reducible refine XDrop.desk (by assumption) ?_) | (with_reducible first | refine XArr.ints (by omega) (by omega) (by omega) ?_ | refine XArr.intsA (by omega) (by omega) (by omega) ?_) | ((with_reducible first | refine XArr.nats ?_ ?_ ?_ | refine XArr.natsA ?_ ?_ ?_ | refine XArr.ptr ?_ ?_ ?_); omega; omega)); conv => whnf) | ((with_reducible apply XBr.mk') <;> (intro h; conv => whnf))
  · skip
    repeat' first | ((with_reducible first | apply XBr.tt | apply XBr.ff | apply Chk.go | apply ChkA.go | apply ChkF.go | apply ChkB.go | apply XArr.pim0 | apply XArr.pim1); conv => whnf) | (with_reducible apply XBr.not) | ((with_reducible apply XBr.dec) <;> (intro h; first | (exfalso; omega) | ((try simp only [List.length_map] at h); first | (exfalso; omega) | (conv => whnf)))) | ((with_reducible first | apply XBr.beq | apply XBr.bne) <;> (intro h; first | (exfalso; omega) | (conv => whnf))) | ((with_reducible refine XInt.i64 (by omega) (by omega) ?_); conv => whnf) | ((with_reducible refine XHold.mk ?_ ?_); (first | omega | rfl | decide | exact ⟨rfl, by decide, rfl⟩ | exact wideI _ | exact widePr _ | exact wideSk _ | (unfold Room; constructor <;> ((try simp) <;> omega)) | exact ⟨rfl, by simp only [List.length_map], by unfold Room; constructor <;> ((try simp) <;> omega)⟩ | exact ⟨by omega, by omega, by unfold Room; constructor <;> ((try simp) <;> omega)⟩); conv => whnf) | ((first | ((with_reducible refine XIx.nat ?_ ?_ ?_); omega; (intro _; rfl)) | ((with_reducible refine XIx.map ?_ ?_ ?_ ?_); omega; omega; (intro _; rfl))); conv => whnf) | (with_reducible apply XAnd.mk) | (exact XSame.mk rfl rfl) | (exact XSame.mk (by first | rfl | (simp only [List.map_append, List.length_append, List.length_map]; done) | (simp only [List.map_append, List.length_append, List.length_map]; rfl)) (by first | rfl | (simp only [List.map_append]; done) | (simp only [List.map_append]; rfl))) | (with_reducible exact trivial) | ((first | (with_reducible refine xdrop_app (by rw [List.length_map]; omega) ?_) | (with_reducible refine XDrop.desk (by assumption) ?_) | (with_reducible first | refine XArr.ints (by omega) (by omega) (by omega) ?_ | refine XArr.intsA (by omega) (by omega) (by omega) ?_) | ((with_reducible first | refine XArr.nats ?_ ?_ ?_ | refine XArr.natsA ?_ ?_ ?_ | refine XArr.ptr ?_ ?_ ?_); omega; omega)); conv => whnf) | ((with_reducible apply XBr.mk') <;> (intro h; conv => whnf))
  · conv => whnf
    repeat' first | ((with_reducible first | apply XBr.tt | apply XBr.ff | apply Chk.go | apply ChkA.go | apply ChkF.go | apply ChkB.go | apply XArr.pim0 | apply XArr.pim1); conv => whnf) | (with_reducible apply XBr.not) | ((with_reducible apply XBr.dec) <;> (intro h; first | (exfalso; omega) | ((try simp only [List.length_map] at h); first | (exfalso; omega) | (conv => whnf)))) | ((with_reducible first | apply XBr.beq | apply XBr.bne) <;> (intro h; first | (exfalso; omega) | (conv => whnf))) | ((with_reducible refine XInt.i64 (by omega) (by omega) ?_); conv => whnf) | ((with_reducible refine XHold.mk ?_ ?_); (first | omega | rfl | decide | exact ⟨rfl, by decide, rfl⟩ | exact wideI _ | exact widePr _ | exact wideSk _ | (unfold Room; constructor <;> ((try simp) <;> omega)) | exact ⟨rfl, by simp only [List.length_map], by unfold Room; constructor <;> ((try simp) <;> omega)⟩ | exact ⟨by omega, by omega, by unfold Room; constructor <;> ((try simp) <;> omega)⟩); conv => whnf) | ((first | ((with_reducible refine XIx.nat ?_ ?_ ?_); omega; (intro _; rfl)) | ((with_reducible refine XIx.map ?_ ?_ ?_ ?_); omega; omega; (intro _; rfl))); conv => whnf) | (with_reducible apply XAnd.mk) | (exact XSame.mk rfl rfl) | (exact XSame.mk (by first | rfl | (simp only [List.map_append, List.length_append, List.length_map]; done) | (simp only [List.map_append, List.length_append, List.length_map]; rfl)) (by first | rfl | (simp only [List.map_append]; done) | (simp only [List.map_append]; rfl))) | (with_reducible exact trivial) | ((first | (with_reducible refine xdrop_app (by rw [List.length_map]; omega) ?_) | (with_reducible refine XDrop.desk (by assumption) ?_) | (with_reducible first | refine XArr.ints (by omega) (by omega) (by omega) ?_ | refine XArr.intsA (by omega) (by omega) (by omega) ?_) | ((with_reducible first | refine XArr.nats ?_ ?_ ?_ | refine XArr.natsA ?_ ?_ ?_ | refine XArr.ptr ?_ ?_ ?_); omega; omega)); conv => whnf) | ((with_reducible apply XBr.mk') <;> (intro h; conv => whnf))
    refine XOut.bool ?_
    have := ok.small i
    rw [iandn_nat (by omega) (by omega), Bool.eq_iff_iff]; simp
theorem bit_at {set : Nat} {p : Int} (h1 : 0 ≤ p) (h2 : p ≤ 62) (hs : set < 512) : iand .i64 ((set : Int).fdiv (2 ^ min p.toNat IntKind.i64.bits)) 1 = ((set / 2 ^ p.toNat % 2 : Nat) : Int) := by
  obtain ⟨k, rfl⟩ := Int.eq_ofNat_of_zero_le h1
  rw [shr_nat (by omega)]
  have : set / 2 ^ k ≤ set := Nat.div_le_self ..
  have := iand_nat (a := set / 2 ^ k) (b := 1) (by omega) (by omega)
  rw [Nat.and_one_is_mod] at this
  exact this
def inSet (set : Nat) (p : Int) : Bool := set / 2 ^ p.toNat % 2 == 1
theorem whole2_c (p : Int × Int) (set : Nat) (h1 : 0 ≤ p.1) (h2 : p.1 ≤ 62) (h3 : 0 ≤ p.2) (h4 : p.2 ≤ 62) (hs : set < 512) :
    Comp Try.prog 153 [prA p, .pim [.int .i64 set]] (.bool (!inSet set p.1 || !inSet set p.2)) := by
  refine Comp.body (T := tab) (res := [.tmp 3]) tab_ok [] Try.func153 rfl (by kernel_rfl) Try.ntmps153 rfl (by simp only [List.length_cons, List.length_nil]; decide) (by rfl) ?_; conv => whnf
  have e1 := bit_at h1 h2 hs
  have e2 := bit_at h3 h4 hs
  repeat' first | ((with_reducible first | apply XBr.tt | apply XBr.ff | apply Chk.go | apply ChkA.go | apply ChkF.go | apply ChkB.go | apply XArr.pim0 | apply XArr.pim1); conv => whnf) | (with_reducible apply XBr.not) | ((with_reducible apply XBr.dec) <;> (intro h; first | (exfalso; omega) | ((try simp only [List.length_map] at h); first | (exfalso; omega) | (conv => whnf)))) | ((with_reducible first | apply XBr.beq | apply XBr.bne) <;> (intro h; first | (exfalso; omega) | (conv => whnf))) | ((with_reducible refine XInt.i64 (by omega) (by omega) ?_); conv => whnf) | ((with_reducible refine XHold.mk ?_ ?_); (first | omega | rfl | decide | exact ⟨rfl, by decide, rfl⟩ | exact wideI _ | exact widePr _ | exact wideSk _ | (unfold Room; constructor <;> ((try simp) <;> omega)) | exact ⟨rfl, by simp only [List.length_map], by unfold Room; constructor <;> ((try simp) <;> omega)⟩ | exact ⟨by omega, by omega, by unfold Room; constructor <;> ((try simp) <;> omega)⟩); conv => whnf) | ((first | ((with_reducible refine XIx.nat ?_ ?_ ?_); omega; (intro _; rfl)) | ((with_reducible refine XIx.map ?_ ?_ ?_ ?_); omega; omega; (intro _; rfl))); conv => whnf) | (with_reducible apply XAnd.mk) | (exact XSame.mk rfl rfl) | (exact XSame.mk (by first | rfl | (simp only [List.map_append, List.length_append, List.length_map]; done) | (simp only [List.map_append, List.length_append, List.length_map]; rfl)) (by first | rfl | (simp only [List.map_append]; done) | (simp only [List.map_append]; rfl))) | (with_reducible exact trivial) | ((first | (with_reducible refine xdrop_app (by rw [List.length_map]; omega) ?_) | (with_reducible refine XDrop.desk (by assumption) ?_) | (with_reducible first | refine XArr.ints (by omega) (by omega) (by omega) ?_ | refine XArr.intsA (by omega) (by omega) (by omega) ?_) | ((with_reducible first | refine XArr.nats ?_ ?_ ?_ | refine XArr.natsA ?_ ?_ ?_ | refine XArr.ptr ?_ ?_ ?_); omega; omega)); conv => whnf) | ((with_reducible apply XBr.mk') <;> (intro h; conv => whnf))
  · rw [e1] at h
    refine XOut.bool ?_
    have : inSet set p.1 = false := by unfold inSet; simp; omega
    simp [this]
  · rw [e1] at h
    refine XOut.bool ?_
    rw [e2]
    have : inSet set p.1 = true := by unfold inSet; simp; omega
    have hb : (((set / 2 ^ p.2.toNat % 2 : Nat) : Int) == 0) = !(set / 2 ^ p.2.toNat % 2 == 1) := by
      rcases Nat.mod_two_eq_zero_or_one (set / 2 ^ p.2.toNat) with h | h <;> rw [h] <;> rfl
    rw [this, hb]; simp [inSet]

def wholeB (d : Dk) (set : Nat) : Bool := ((bits set).all fun i => diff (d.nd.getD i.toNat 0) set == 0) && (d.l.apart.all fun p => !inSet set p.1 || !inSet set p.2)
theorem bitsF_bound : ∀ (f i s k : Nat), s < 2 ^ k → ∀ x ∈ bitsF f i s, (i : Int) ≤ x ∧ x < (i + k : Nat)
  | 0, _, _, _, _, x, hx => by simp [bitsF] at hx
  | f + 1, i, s, k, hs, x, hx => by
    unfold bitsF at hx
    split at hx
    · simp at hx
    · rename_i h0
      cases k with
      | zero => simp at hs; omega
      | succ k =>
        have ih := bitsF_bound f (i + 1) (s / 2) k (by rw [Nat.pow_succ] at hs; omega)
        split at hx
        · rcases List.mem_cons.1 hx with rfl | hx
          · omega
          · have := ih x hx; omega
        · have := ih x hx; omega
theorem bits_bound {s : Nat} (hs : s < 512) : ∀ x ∈ bits s, 0 ≤ x ∧ x < 9 := fun x hx => by have := bitsF_bound 62 0 s 9 (by omega) x hx; omega
theorem bits_len (s : Nat) : (bits s).length ≤ 62 := bitsF_length ..
theorem whole_c (d : Dk) (ok : DkOk d) (set : Nat) (hs : set < 512) (ha : d.l.apart.length ≤ 1000) (hp : ∀ p ∈ d.l.apart, 0 ≤ p.1 ∧ p.1 ≤ 62 ∧ 0 ≤ p.2 ∧ p.2 ≤ 62) : Comp Try.prog 135 [.pim (deskC d), .int .i64 set] (.bool (wholeB d set)) := by
  refine Comp.body (T := tab) (res := [.tmp 4]) tab_ok [] Try.func135 rfl (by kernel_rfl) Try.ntmps135 rfl (by simp only [List.length_cons, List.length_nil]; decide) (by simp only [lowL, AV.low, lowDk]; rfl) ?_; conv => whnf
  refine XCall.ret (list_c set (by omega)) ?_
  conv => whnf
  refine XCall.ret (every_int _ (bits set) 152 [.pim [.pim (deskC d)], .pim [.int .i64 set]] (fun i => diff (d.nd.getD i.toNat 0) set == 0) (by simp only [lowL, AV.low, lowDk]; rfl) (by have := bits_len set; omega) fun x hx => ?_) ?_
  · obtain ⟨h1, h2⟩ := bits_bound hs x hx
    obtain ⟨k, rfl⟩ := Int.eq_ofNat_of_zero_le h1
    exact whole1_c d ok k set (by omega) hs
  conv => whnf
  repeat' first | ((with_reducible first | apply XBr.tt | apply XBr.ff | apply Chk.go | apply ChkA.go | apply ChkF.go | apply ChkB.go | apply XArr.pim0 | apply XArr.pim1); conv => whnf) | (with_reducible apply XBr.not) | ((with_reducible apply XBr.dec) <;> (intro h; first | (exfalso; omega) | ((try simp only [List.length_map] at h); first | (exfalso; omega) | (conv => whnf)))) | ((with_reducible first | apply XBr.beq | apply XBr.bne) <;> (intro h; first | (exfalso; omega) | (conv => whnf))) | ((with_reducible refine XInt.i64 (by omega) (by omega) ?_); conv => whnf) | ((with_reducible refine XHold.mk ?_ ?_); (first | omega | rfl | decide | exact ⟨rfl, by decide, rfl⟩ | exact wideI _ | exact widePr _ | exact wideSk _ | (unfold Room; constructor <;> ((try simp) <;> omega)) | exact ⟨rfl, by simp only [List.length_map], by unfold Room; constructor <;> ((try simp) <;> omega)⟩ | exact ⟨by omega, by omega, by unfold Room; constructor <;> ((try simp) <;> omega)⟩); conv => whnf) | ((first | ((with_reducible refine XIx.nat ?_ ?_ ?_); omega; (intro _; rfl)) | ((with_reducible refine XIx.map ?_ ?_ ?_ ?_); omega; omega; (intro _; rfl))); conv => whnf) | (with_reducible apply XAnd.mk) | (exact XSame.mk rfl rfl) | (exact XSame.mk (by first | rfl | (simp only [List.map_append, List.length_append, List.length_map]; done) | (simp only [List.map_append, List.length_append, List.length_map]; rfl)) (by first | rfl | (simp only [List.map_append]; done) | (simp only [List.map_append]; rfl))) | (with_reducible exact trivial) | ((first | (with_reducible refine xdrop_app (by rw [List.length_map]; omega) ?_) | (with_reducible refine XDrop.desk (by assumption) ?_) | (with_reducible first | refine XArr.ints (by omega) (by omega) (by omega) ?_ | refine XArr.intsA (by omega) (by omega) (by omega) ?_) | ((with_reducible first | refine XArr.nats ?_ ?_ ?_ | refine XArr.natsA ?_ ?_ ?_ | refine XArr.ptr ?_ ?_ ?_); omega; omega)); conv => whnf) | ((with_reducible apply XBr.mk') <;> (intro h; conv => whnf))
  · refine XCall.ret (every_pr _ d.l.apart 153 [.pim [.int .i64 set]] (fun p => !inSet set p.1 || !inSet set p.2) rfl (by omega) fun p hm => ?_) ?_
    · obtain ⟨h1, h2, h3, h4⟩ := hp p hm
      exact whole2_c p set h1 h2 h3 h4 hs
    conv => whnf
    repeat' first | ((with_reducible first | apply XBr.tt | apply XBr.ff | apply Chk.go | apply ChkA.go | apply ChkF.go | apply ChkB.go | apply XArr.pim0 | apply XArr.pim1); conv => whnf) | (with_reducible apply XBr.not) | ((with_reducible apply XBr.dec) <;> (intro h; first | (exfalso; omega) | ((try simp only [List.length_map] at h); first | (exfalso; omega) | (conv => whnf)))) | ((with_reducible first | apply XBr.beq | apply XBr.bne) <;> (intro h; first | (exfalso; omega) | (conv => whnf))) | ((with_reducible refine XInt.i64 (by omega) (by omega) ?_); conv => whnf) | ((with_reducible refine XHold.mk ?_ ?_); (first | omega | rfl | decide | exact ⟨rfl, by decide, rfl⟩ | exact wideI _ | exact widePr _ | exact wideSk _ | (unfold Room; constructor <;> ((try simp) <;> omega)) | exact ⟨rfl, by simp only [List.length_map], by unfold Room; constructor <;> ((try simp) <;> omega)⟩ | exact ⟨by omega, by omega, by unfold Room; constructor <;> ((try simp) <;> omega)⟩); conv => whnf) | ((first | ((with_reducible refine XIx.nat ?_ ?_ ?_); omega; (intro _; rfl)) | ((with_reducible refine XIx.map ?_ ?_ ?_ ?_); omega; omega; (intro _; rfl))); conv => whnf) | (with_reducible apply XAnd.mk) | (exact XSame.mk rfl rfl) | (exact XSame.mk (by first | rfl | (simp only [List.map_append, List.length_append, List.length_map]; done) | (simp only [List.map_append, List.length_append, List.length_map]; rfl)) (by first | rfl | (simp only [List.map_append]; done) | (simp only [List.map_append]; rfl))) | (with_reducible exact trivial) | ((first | (with_reducible refine xdrop_app (by rw [List.length_map]; omega) ?_) | (with_reducible refine XDrop.desk (by assumption) ?_) | (with_reducible first | refine XArr.ints (by omega) (by omega) (by omega) ?_ | refine XArr.intsA (by omega) (by omega) (by omega) ?_) | ((with_reducible first | refine XArr.nats ?_ ?_ ?_ | refine XArr.natsA ?_ ?_ ?_ | refine XArr.ptr ?_ ?_ ?_); omega; omega)); conv => whnf) | ((with_reducible apply XBr.mk') <;> (intro h; conv => whnf))
    refine XOut.bool ?_
    unfold wholeB; rw [h]; simp
  · refine XOut.bool ?_
    unfold wholeB; rw [h]; simp
end GA
end

section
namespace GA
open Go Go.RowKit Go.Proofs
set_option pp.deepTerms true
set_option maxRecDepth 8000
set_option linter.unusedVariables false
set_option linter.unusedSimpArgs false

structure DkFull (d : Dk) : Prop extends DkOk d where
  al : d.l.apart.length ≤ 1000
  ap : ∀ p ∈ d.l.apart, 0 ≤ p.1 ∧ p.1 ≤ 62 ∧ 0 ≤ p.2 ∧ p.2 ≤ 62
def rightB (d : Dk) (set : Nat) : Bool := decide ((d.hv.getD set 0 : Nat) ≤ d.l.bears) && wholeB d set
theorem right_c (d : Dk) (ok : DkFull d) (set : Nat) (hs : set < 512) : Comp Try.prog 88 [.pim (deskC d), .int .i64 set] (.bool (rightB d set)) := by
  refine Comp.body (T := tab) (res := [.tmp 4]) tab_ok [] Try.func88 rfl (by kernel_rfl) Try.ntmps88 rfl (by simp only [List.length_cons, List.length_nil]; decide) (by simp only [lowL, AV.low, lowDk]; rfl) ?_; conv => whnf
  have g1 := ok.hv
  have g2 := ok.nd
  by_cases hc : ((d.hv.getD set 0 : Nat) : Int) ≤ d.l.bears
  · apply Walk.drawX tab_ok mixed_ok [] [] (fun _ => []) [_, _, _, _, _, _, _, _, _, _, _, .bool true, .bool true, _, _, _, _, _] (by kernel_rfl) rfl
    · skip
      repeat' first | ((with_reducible first | apply XBr.tt | apply XBr.ff | apply Chk.go | apply ChkA.go | apply ChkF.go | apply ChkB.go | apply XArr.pim0 | apply XArr.pim1); conv => whnf) | (with_reducible apply XBr.not) | ((with_reducible apply XBr.dec) <;> (intro h; first | (exfalso; omega) | ((try simp only [List.length_map] at h); first | (exfalso; omega) | (conv => whnf)))) | ((with_reducible first | apply XBr.beq | apply XBr.bne) <;> (intro h; first | (exfalso; omega) | (conv => whnf))) | ((with_reducible refine XInt.i64 (by omega) (by omega) ?_); conv => whnf) | ((with_reducible refine XHold.mk ?_ ?_); (first | omega | rfl | decide | exact ⟨rfl, by decide, rfl⟩ | exact wideI _ | exact widePr _ | exact wideSk _ | (unfold Room; constructor <;> ((try simp) <;> omega)) | exact ⟨rfl, by simp only [List.length_map], by unfold Room; constructor <;> ((try simp) <;> omega)⟩ | exact ⟨by omega, by omega, by unfold Room; constructor <;> ((try simp) <;> omega)⟩); conv => whnf) | ((first | ((with_reducible refine XIx.nat ?_ ?_ ?_); omega; (intro _; rfl)) | ((with_reducible refine XIx.map ?_ ?_ ?_ ?_); omega; omega; (intro _; rfl))); conv => whnf) | (with_reducible apply XAnd.mk) | (exact XSame.mk rfl rfl) | (exact XSame.mk (by first | rfl | (simp only [List.map_append, List.length_append, List.length_map]; done) | (simp only [List.map_append, List.length_append, List.length_map]; rfl)) (by first | rfl | (simp only [List.map_append]; done) | (simp only [List.map_append]; rfl))) | (with_reducible exact trivial) | ((first | (with_reducible refine xdrop_app (by rw [List.length_map]; omega) ?_) | (with_reducible refine XDrop.desk (by assumption) ?_) | (with_reducible first | refine XArr.ints (by omega) (by omega) (by omega) ?_ | refine XArr.intsA (by omega) (by omega) (by omega) ?_) | ((with_reducible first | refine XArr.nats ?_ ?_ ?_ | refine XArr.natsA ?_ ?_ ?_ | refine XArr.ptr ?_ ?_ ?_); omega; omega)); conv => whnf) | (exact XSame.mk (by rw [decide_eq_true hc]) rfl) | (refine XCall.ret (whole_c d ok.toDkOk set hs ok.al ok.ap) ?_; conv => whnf) | ((with_reducible apply XBr.mk') <;> (intro h; conv => whnf))
    · skip
      repeat' first | ((with_reducible first | apply XBr.tt | apply XBr.ff | apply Chk.go | apply ChkA.go | apply ChkF.go | apply ChkB.go | apply XArr.pim0 | apply XArr.pim1); conv => whnf) | (with_reducible apply XBr.not) | ((with_reducible apply XBr.dec) <;> (intro h; first | (exfalso; omega) | ((try simp only [List.length_map] at h); first | (exfalso; omega) | (conv => whnf)))) | ((with_reducible first | apply XBr.beq | apply XBr.bne) <;> (intro h; first | (exfalso; omega) | (conv => whnf))) | ((with_reducible refine XInt.i64 (by omega) (by omega) ?_); conv => whnf) | ((with_reducible refine XHold.mk ?_ ?_); (first | omega | rfl | decide | exact ⟨rfl, by decide, rfl⟩ | exact wideI _ | exact widePr _ | exact wideSk _ | (unfold Room; constructor <;> ((try simp) <;> omega)) | exact ⟨rfl, by simp only [List.length_map], by unfold Room; constructor <;> ((try simp) <;> omega)⟩ | exact ⟨by omega, by omega, by unfold Room; constructor <;> ((try simp) <;> omega)⟩); conv => whnf) | ((first | ((with_reducible refine XIx.nat ?_ ?_ ?_); omega; (intro _; rfl)) | ((with_reducible refine XIx.map ?_ ?_ ?_ ?_); omega; omega; (intro _; rfl))); conv => whnf) | (with_reducible apply XAnd.mk) | (exact XSame.mk rfl rfl) | (exact XSame.mk (by first | rfl | (simp only [List.map_append, List.length_append, List.length_map]; done) | (simp only [List.map_append, List.length_append, List.length_map]; rfl)) (by first | rfl | (simp only [List.map_append]; done) | (simp only [List.map_append]; rfl))) | (with_reducible exact trivial) | ((first | (with_reducible refine xdrop_app (by rw [List.length_map]; omega) ?_) | (with_reducible refine XDrop.desk (by assumption) ?_) | (with_reducible first | refine XArr.ints (by omega) (by omega) (by omega) ?_ | refine XArr.intsA (by omega) (by omega) (by omega) ?_) | ((with_reducible first | refine XArr.nats ?_ ?_ ?_ | refine XArr.natsA ?_ ?_ ?_ | refine XArr.ptr ?_ ?_ ?_); omega; omega)); conv => whnf) | ((with_reducible apply XBr.mk') <;> (intro h; conv => whnf))
    · conv => whnf
      repeat' first | ((with_reducible first | apply XBr.tt | apply XBr.ff | apply Chk.go | apply ChkA.go | apply ChkF.go | apply ChkB.go | apply XArr.pim0 | apply XArr.pim1); conv => whnf) | (with_reducible apply XBr.not) | ((with_reducible apply XBr.dec) <;> (intro h; first | (exfalso; omega) | ((try simp only [List.length_map] at h); first | (exfalso; omega) | (conv => whnf)))) | ((with_reducible first | apply XBr.beq | apply XBr.bne) <;> (intro h; first | (exfalso; omega) | (conv => whnf))) | ((with_reducible refine XInt.i64 (by omega) (by omega) ?_); conv => whnf) | ((with_reducible refine XHold.mk ?_ ?_); (first | omega | rfl | decide | exact ⟨rfl, by decide, rfl⟩ | exact wideI _ | exact widePr _ | exact wideSk _ | (unfold Room; constructor <;> ((try simp) <;> omega)) | exact ⟨rfl, by simp only [List.length_map], by unfold Room; constructor <;> ((try simp) <;> omega)⟩ | exact ⟨by omega, by omega, by unfold Room; constructor <;> ((try simp) <;> omega)⟩); conv => whnf) | ((first | ((with_reducible refine XIx.nat ?_ ?_ ?_); omega; (intro _; rfl)) | ((with_reducible refine XIx.map ?_ ?_ ?_ ?_); omega; omega; (intro _; rfl))); conv => whnf) | (with_reducible apply XAnd.mk) | (exact XSame.mk rfl rfl) | (exact XSame.mk (by first | rfl | (simp only [List.map_append, List.length_append, List.length_map]; done) | (simp only [List.map_append, List.length_append, List.length_map]; rfl)) (by first | rfl | (simp only [List.map_append]; done) | (simp only [List.map_append]; rfl))) | (with_reducible exact trivial) | ((first | (with_reducible refine xdrop_app (by rw [List.length_map]; omega) ?_) | (with_reducible refine XDrop.desk (by assumption) ?_) | (with_reducible first | refine XArr.ints (by omega) (by omega) (by omega) ?_ | refine XArr.intsA (by omega) (by omega) (by omega) ?_) | ((with_reducible first | refine XArr.nats ?_ ?_ ?_ | refine XArr.natsA ?_ ?_ ?_ | refine XArr.ptr ?_ ?_ ?_); omega; omega)); conv => whnf) | ((with_reducible apply XBr.mk') <;> (intro h; conv => whnf))
      refine XOut.bool ?_
      unfold rightB; rw [decide_eq_true hc]; rfl
  · apply Walk.drawX tab_ok mixed_ok [] [] (fun _ => []) [_, _, _, _, _, _, _, _, _, _, _, .bool false, .bool false, _, _, _, _, _] (by kernel_rfl) rfl
    · skip
      repeat' first | ((with_reducible first | apply XBr.tt | apply XBr.ff | apply Chk.go | apply ChkA.go | apply ChkF.go | apply ChkB.go | apply XArr.pim0 | apply XArr.pim1); conv => whnf) | (with_reducible apply XBr.not) | ((with_reducible apply XBr.dec) <;> (intro h; first | (exfalso; omega) | ((try simp only [List.length_map] at h); first | (exfalso; omega) | (conv => whnf)))) | ((with_reducible first | apply XBr.beq | apply XBr.bne) <;> (intro h; first | (exfalso; omega) | (conv => whnf))) | ((with_reducible refine XInt.i64 (by omega) (by omega) ?_); conv => whnf) | ((with_reducible refine XHold.mk ?_ ?_); (first | omega | rfl | decide | exact ⟨rfl, by decide, rfl⟩ | exact wideI _ | exact widePr _ | exact wideSk _ | (unfold Room; constructor <;> ((try simp) <;> omega)) | exact ⟨rfl, by simp only [List.length_map], by unfold Room; constructor <;> ((try simp) <;> omega)⟩ | exact ⟨by omega, by omega, by unfold Room; constructor <;> ((try simp) <;> omega)⟩); conv => whnf) | ((first | ((with_reducible refine XIx.nat ?_ ?_ ?_); omega; (intro _; rfl)) | ((with_reducible refine XIx.map ?_ ?_ ?_ ?_); omega; omega; (intro _; rfl))); conv => whnf) | (with_reducible apply XAnd.mk) | (exact XSame.mk rfl rfl) | (exact XSame.mk (by first | rfl | (simp only [List.map_append, List.length_append, List.length_map]; done) | (simp only [List.map_append, List.length_append, List.length_map]; rfl)) (by first | rfl | (simp only [List.map_append]; done) | (simp only [List.map_append]; rfl))) | (with_reducible exact trivial) | ((first | (with_reducible refine xdrop_app (by rw [List.length_map]; omega) ?_) | (with_reducible refine XDrop.desk (by assumption) ?_) | (with_reducible first | refine XArr.ints (by omega) (by omega) (by omega) ?_ | refine XArr.intsA (by omega) (by omega) (by omega) ?_) | ((with_reducible first | refine XArr.nats ?_ ?_ ?_ | refine XArr.natsA ?_ ?_ ?_ | refine XArr.ptr ?_ ?_ ?_); omega; omega)); conv => whnf) | (exact XSame.mk (by rw [decide_eq_false hc]) rfl) | ((with_reducible apply XBr.mk') <;> (intro h; conv => whnf))
    · skip
      repeat' first | ((with_reducible first | apply XBr.tt | apply XBr.ff | apply Chk.go | apply ChkA.go | apply ChkF.go | apply ChkB.go | apply XArr.pim0 | apply XArr.pim1); conv => whnf) | (with_reducible apply XBr.not) | ((with_reducible apply XBr.dec) <;> (intro h; first | (exfalso; omega) | ((try simp only [List.length_map] at h); first | (exfalso; omega) | (conv => whnf)))) | ((with_reducible first | apply XBr.beq | apply XBr.bne) <;> (intro h; first | (exfalso; omega) | (conv => whnf))) | ((with_reducible refine XInt.i64 (by omega) (by omega) ?_); conv => whnf) | ((with_reducible refine XHold.mk ?_ ?_); (first | omega | rfl | decide | exact ⟨rfl, by decide, rfl⟩ | exact wideI _ | exact widePr _ | exact wideSk _ | (unfold Room; constructor <;> ((try simp) <;> omega)) | exact ⟨rfl, by simp only [List.length_map], by unfold Room; constructor <;> ((try simp) <;> omega)⟩ | exact ⟨by omega, by omega, by unfold Room; constructor <;> ((try simp) <;> omega)⟩); conv => whnf) | ((first | ((with_reducible refine XIx.nat ?_ ?_ ?_); omega; (intro _; rfl)) | ((with_reducible refine XIx.map ?_ ?_ ?_ ?_); omega; omega; (intro _; rfl))); conv => whnf) | (with_reducible apply XAnd.mk) | (exact XSame.mk rfl rfl) | (exact XSame.mk (by first | rfl | (simp only [List.map_append, List.length_append, List.length_map]; done) | (simp only [List.map_append, List.length_append, List.length_map]; rfl)) (by first | rfl | (simp only [List.map_append]; done) | (simp only [List.map_append]; rfl))) | (with_reducible exact trivial) | ((first | (with_reducible refine xdrop_app (by rw [List.length_map]; omega) ?_) | (with_reducible refine XDrop.desk (by assumption) ?_) | (with_reducible first | refine XArr.ints (by omega) (by omega) (by omega) ?_ | refine XArr.intsA (by omega) (by omega) (by omega) ?_) | ((with_reducible first | refine XArr.nats ?_ ?_ ?_ | refine XArr.natsA ?_ ?_ ?_ | refine XArr.ptr ?_ ?_ ?_); omega; omega)); conv => whnf) | ((with_reducible apply XBr.mk') <;> (intro h; conv => whnf))
    · conv => whnf
      repeat' first | ((with_reducible first | apply XBr.tt | apply XBr.ff | apply Chk.go | apply ChkA.go | apply ChkF.go | apply ChkB.go | apply XArr.pim0 | apply XArr.pim1); conv => whnf) | (with_reducible apply XBr.not) | ((with_reducible apply XBr.dec) <;> (intro h; first | (exfalso; omega) | ((try simp only [List.length_map] at h); first | (exfalso; omega) | (conv => whnf)))) | ((with_reducible first | apply XBr.beq | apply XBr.bne) <;> (intro h; first | (exfalso; omega) | (conv => whnf))) | ((with_reducible refine XInt.i64 (by omega) (by omega) ?_); conv => whnf) | ((with_reducible refine XHold.mk ?_ ?_); (first | omega | rfl | decide | exact ⟨rfl, by decide, rfl⟩ | exact wideI _ | exact widePr _ | exact wideSk _ | (unfold Room; constructor <;> ((try simp) <;> omega)) | exact ⟨rfl, by simp only [List.length_map], by unfold Room; constructor <;> ((try simp) <;> omega)⟩ | exact ⟨by omega, by omega, by unfold Room; constructor <;> ((try simp) <;> omega)⟩); conv => whnf) | ((first | ((with_reducible refine XIx.nat ?_ ?_ ?_); omega; (intro _; rfl)) | ((with_reducible refine XIx.map ?_ ?_ ?_ ?_); omega; omega; (intro _; rfl))); conv => whnf) | (with_reducible apply XAnd.mk) | (exact XSame.mk rfl rfl) | (exact XSame.mk (by first | rfl | (simp only [List.map_append, List.length_append, List.length_map]; done) | (simp only [List.map_append, List.length_append, List.length_map]; rfl)) (by first | rfl | (simp only [List.map_append]; done) | (simp only [List.map_append]; rfl))) | (with_reducible exact trivial) | ((first | (with_reducible refine xdrop_app (by rw [List.length_map]; omega) ?_) | (with_reducible refine XDrop.desk (by assumption) ?_) | (with_reducible first | refine XArr.ints (by omega) (by omega) (by omega) ?_ | refine XArr.intsA (by omega) (by omega) (by omega) ?_) | ((with_reducible first | refine XArr.nats ?_ ?_ ?_ | refine XArr.natsA ?_ ?_ ?_ | refine XArr.ptr ?_ ?_ ?_); omega; omega)); conv => whnf) | ((with_reducible apply XBr.mk') <;> (intro h; conv => whnf))
      refine XOut.bool ?_
      unfold rightB; rw [decide_eq_false hc]; rfl
end GA
end

section
namespace GA
open Go Go.RowKit
set_option linter.unusedVariables false

section
variable {P : Program} {T : Tab} {N : Nat} {ρ : Option Nat} {D : List Nat} {σ : St} {H : List Blk} {Q : Post}

theorem AWp.loopG {c : Code} {G : Type} (st : G → St) (hp : G → List Blk) (μ : G → Nat) (g0 : G) (hσ : ∀ t r, st g0 t = some r → σ t = some r) (hH : hp g0 = H) (hD : D = [])
    (hlow : ∀ g, (∀ x ∈ hp g, x.low (hp g).length = true) ∧ ∀ t r, st g t = some r → r.low (hp g).length = true) (hlen : ∀ g, (hp g0).length ≤ (hp g).length)
    (round : ∀ g, AWp P N ρ c (thenQ (fun D' σ' H' => D' = D ∧ ∃ g' l, μ g' < μ g ∧ hp g' ++ l = H' ∧ ∀ t r, st g' t = some r → σ' t = some r) Q) D (st g) (hp g)) : AWp P N ρ (.loop c) Q D σ H := by
  intro E h β a w s
  subst hH; subst hD
  let I : G → Act → World → Prop := fun g a w => ∃ h' β', Ext h β (hp g0) h' β' (hp g) ∧ Stands P E N h' β' [] (st g) (hp g) a w
  have least : ∀ a w, (∃ g, I g a w) → ∃ n, (∃ g, I g a w ∧ μ g = n) ∧ ∀ m, m < n → ¬ ∃ g, I g a w ∧ μ g = m :=
    fun a w ⟨g, hg⟩ => exists_least ⟨μ g, g, hg, rfl⟩
  classical
  let M : Act → World → Nat := fun a w => if e : ∃ g, I g a w then Classical.choose (least a w e) else 0
  have hM : ∀ a w (e : ∃ g, I g a w), (∃ g, I g a w ∧ μ g = M a w) ∧ ∀ g, I g a w → M a w ≤ μ g := by
    intro a w e
    have hc := Classical.choose_spec (least a w e)
    have hm : M a w = Classical.choose (least a w e) := by simp only [M, dif_pos e]
    rw [hm]
    refine ⟨hc.1, fun g hg => ?_⟩
    rcases Nat.lt_or_ge (μ g) (Classical.choose (least a w e)) with hlt | hge
    · exact absurd ⟨g, hg, rfl⟩ (hc.2 _ hlt)
    · exact hge
  refine wpIn_loop (fun a w => ∃ g, I g a w) M ⟨g0, h, β, Ext.refl _ _ _, s.sr, fun t r e => s.fits t r (hσ t r e), s.size, s.df⟩ ?_
  intro a' w' hI
  obtain ⟨⟨g, hg, hmu⟩, _⟩ := hM a' w' hI
  obtain ⟨h', β', X, s'⟩ := hg
  refine wpIn_mono (round g E h' β' a' w' s') ?_
  rintro e a'' w'' ⟨D'', σ'', H'', h'', β'', q, X', s''⟩
  cases e with
  | normal =>
    obtain ⟨rfl, g', l, hlt, rfl, hsub⟩ := q
    have hI' : I g' a'' w'' := by
      refine ⟨h'', β'', (X.trans X').cut (hlen g'), s''.sr.cut (hlow g').1, fun t r e => ?_, s''.size, s''.df.any⟩
      obtain ⟨v, h1, h2⟩ := s''.fits t r (hsub t r e)
      exact ⟨v, h1, h2.cut ((hlow g').2 t r e)⟩
    refine ⟨⟨g', hI'⟩, ?_⟩
    have := (hM a'' w'' ⟨g', hI'⟩).2 g' hI'
    omega
  | _ => exact ⟨D'', σ'', H'', h'', β'', q, X.trans X', s''⟩

structure XAgainG {G : Type} (I : G → Prop) (L : G → List (Nat × AV)) (hp : G → List Blk) (μ : G → Nat) (g : G) (D' : List Nat) (σ' : St) (H' : List Blk) : Prop where
  d : D' = []
  o : ∃ g' l, I g' ∧ μ g' < μ g ∧ hp g' ++ l = H' ∧ SubX (L g') σ'
theorem Walk.loopG {c : Code} {G : Type} (ok : TabOk P T) (own : List Nat) (I : G → Prop) (L : G → List (Nat × AV)) (hp : G → List Blk) (μ : G → Nat) (g0 : G) (h0 : I g0) (hH : hp g0 = H) (hs : SubX (L g0) σ)
    (hlow : ∀ g, I g → (∀ x ∈ hp g, x.low (hp g).length = true) ∧ ∀ p ∈ L g, p.2.low (hp g).length = true) (hlen : ∀ g, I g → (hp g0).length ≤ (hp g).length)
    (round : ∀ g, I g → XRun P T N ρ own c (thenQ (XAgainG I L hp μ g) Q) [] (stX (L g)) (hp g)) : Walk P N ρ (.loop c) Q [] σ H := by
  constructor
  have hst : ∀ (l : List (Nat × AV)) t r, stX l t = some r → (t, r) ∈ l := by
    intro l; induction l with
    | nil => intro t r h; cases h
    | cons p l ih =>
      obtain ⟨u, x⟩ := p
      intro t r h; simp only [stX, updX_eq, upd] at h
      split at h
      · rename_i e; cases h; subst e; exact List.mem_cons_self
      · exact List.mem_cons_of_mem _ (ih t r h)
  refine AWp.loopG (G := {g : G // I g}) (fun g => stX (L g.1)) (fun g => hp g.1) (fun g => μ g.1) ⟨g0, h0⟩ (stX_sub hs) hH rfl (fun g => ⟨(hlow g.1 g.2).1, fun t r e => (hlow g.1 g.2).2 (t, r) (hst _ _ _ e)⟩) (fun g => hlen g.1 g.2) fun g => ?_
  refine (XRun.sound ok (round g.1 g.2)).mono fun e D' σ' H' q => ?_
  cases e with
  | normal => obtain ⟨h1, g', l, h2, h3, h4, h5⟩ := q; exact ⟨h1, ⟨g', h2⟩, l, h3, h4, stX_sub h5⟩
  | _ => exact q
theorem XAgainG.go {G : Type} {I : G → Prop} {L : G → List (Nat × AV)} {hp : G → List Blk} {μ : G → Nat} {g : G} (g' : G) (l : List Blk) (h1 : I g') (h2 : μ g' < μ g) (h3 : hp g' ++ l = H) (h4 : SubX (L g') σ) : XAgainG I L hp μ g [] σ H := ⟨rfl, g', l, h1, h2, h3, h4⟩
end
end GA
end

section
namespace GA
open Go Go.RowKit Go.Proofs
set_option pp.deepTerms true
set_option maxRecDepth 8000
set_option linter.unusedVariables false
set_option linter.unusedSimpArgs false

theorem xdrop_nats {xs : List Nat} {i : Nat} {k : List AV → Prop} (hi : i < xs.length) (h : k (.int .i64 (xs.getD i 0 : Nat) :: (nats xs).drop (0 + i * 1 + 1))) : xdrop (0 + i * 1) (nats xs) k :=
  xdrop_at _ (by have := nats_at (xs := xs) (i := i) hi []; rw [List.append_nil] at this; rw [Nat.zero_add]; exact this) h
theorem xspl_nats {xs : List Nat} {i : Nat} {v : Int} {k : List AV → Prop} (m : Nat) (hv : v = (m : Int)) (hi : i < xs.length) (h : k (nats (xs.set i m))) : xspl (nats xs) (0 + i * 1) [.int .i64 v] k := by
  subst hv
  refine xspl_to _ (by simp; omega) ?_ h
  rw [Nat.zero_add, Nat.mul_one]
  have e : (nats xs).set i (natA m) = nats (xs.set i m) := (List.map_set ..).symm
  rw [← e]
  have hl : i < (nats xs).length := by simpa using hi
  rw [List.set_eq_take_append_cons_drop, if_pos hl]
  simp [splice, natA]

theorem xtk_all : ∀ {n : Nat} {cs : List AV} {k : List AV → Prop}, cs.length = n → k cs → xtk n cs k
  | 0, [], _, _, h => h
  | n + 1, c :: cs, k, hl, h => xtk_all (n := n) (cs := cs) (k := fun l => k (c :: l)) (by simpa using hl) h
  | 0, _ :: _, _, hl, _ => by simp at hl
  | n + 1, [], _, hl, _ => by simp at hl
theorem xn_all : ∀ {n : Nat} {cs : List AV} {A : Prop}, cs.length = n → A → xn n cs A
  | 0, [], _, _, h => h
  | n + 1, c :: cs, A, hl, h => xn_all (n := n) (cs := cs) (A := A) (by simpa using hl) h
  | 0, _ :: _, _, hl, _ => by simp at hl
  | n + 1, [], _, hl, _ => by simp at hl
theorem xspl_all {c vs : List AV} {k : List AV → Prop} (hl : vs.length = c.length) (h : k vs) : xspl c 0 vs k :=
  xspl_to vs (by omega) (by simp [splice, hl]) h
def joinStep (b : List Nat) (p : Int × Int) : List Nat :=
  let all := b.getD p.1.toNat 0 ||| b.getD p.2.toNat 0
  b.mapIdx fun i x => if all / 2 ^ i % 2 = 1 then x ||| all else x
def joinR (l : Ld) (b : List Nat) : List Nat := l.wth.foldl joinStep b

def hsK (H : List Blk) : List Bool → List Blk := fun _ => H
theorem joinStep_len (b : List Nat) (p : Int × Int) : (joinStep b p).length = b.length := by simp [joinStep]
def joinI (l : Ld) (b : List Nat) (i : Nat) : List Nat := (l.wth.take i).foldl joinStep b
theorem foldl_len : ∀ (ps : List (Int × Int)) (b : List Nat), (ps.foldl joinStep b).length = b.length
  | [], _ => rfl
  | p :: ps, b => by rw [List.foldl_cons, foldl_len ps, joinStep_len]
def joinP (all : Nat) (b : List Nat) (j : Nat) : List Nat := b.mapIdx fun i x => if i < j ∧ all / 2 ^ i % 2 = 1 then x ||| all else x
theorem joinP_len (all : Nat) (b : List Nat) (j : Nat) : (joinP all b j).length = b.length := by simp [joinP]
theorem joinP_zero (all : Nat) (b : List Nat) : joinP all b 0 = b := by
  unfold joinP; apply List.ext_getElem (by simp); intro i h1 h2; simp
theorem joinP_at (all : Nat) (b : List Nat) (j : Nat) (hj : j < b.length) : (joinP all b j).getD j 0 = b.getD j 0 := by
  unfold joinP
  rw [List.getD_eq_getElem?_getD, List.getElem?_mapIdx, List.getD_eq_getElem?_getD, List.getElem?_eq_getElem hj]
  simp
theorem joinP_hit (all : Nat) (b : List Nat) (j : Nat) (hj : j < b.length) (hb : all / 2 ^ j % 2 = 1) : (joinP all b j).set j (b.getD j 0 ||| all) = joinP all b (j + 1) := by
  unfold joinP; apply List.ext_getElem (by simp)
  intro i h1 h2
  simp only [List.getElem_set, List.getElem_mapIdx]
  by_cases h : j = i
  · subst h; rw [if_pos rfl, if_pos ⟨by omega, hb⟩, List.getD_eq_getElem?_getD, List.getElem?_eq_getElem hj]; rfl
  · rw [if_neg h]
    by_cases h3 : i < j
    · simp [h3, show i < j + 1 by omega]
    · rw [if_neg (fun hh => h3 hh.1), if_neg (fun hh => by omega)]
theorem joinP_miss (all : Nat) (b : List Nat) (j : Nat) (hb : ¬ all / 2 ^ j % 2 = 1) : joinP all b j = joinP all b (j + 1) := by
  unfold joinP; apply List.ext_getElem (by simp)
  intro i h1 h2
  simp only [List.getElem_mapIdx]
  by_cases h : j = i
  · subst h; rw [if_neg (fun hh => hb hh.2), if_neg (fun hh => hb hh.2)]
  · by_cases h3 : i < j
    · simp [h3, show i < j + 1 by omega]
    · rw [if_neg (fun hh => h3 hh.1), if_neg (fun hh => by omega)]
theorem joinP_full (b : List Nat) (p : Int × Int) (hb : b.length = 9) : joinP (b.getD p.1.toNat 0 ||| b.getD p.2.toNat 0) b 9 = joinStep b p := by
  unfold joinP joinStep; apply List.ext_getElem (by simp)
  intro i h1 h2
  have : i < 9 := by simpa [hb] using h1
  simp only [List.getElem_mapIdx, this, true_and]
theorem joinStep_small (b : List Nat) (p : Int × Int) (hs : ∀ i, b.getD i 0 < 512) : ∀ i, (joinStep b p).getD i 0 < 512 := by
  intro i
  unfold joinStep
  rw [List.getD_eq_getElem?_getD, List.getElem?_mapIdx]
  rcases Nat.lt_or_ge i b.length with h | h
  · rw [List.getElem?_eq_getElem h]
    have h1 := hs i
    rw [List.getD_eq_getElem?_getD, List.getElem?_eq_getElem h] at h1
    have hall : (b.getD p.1.toNat 0 ||| b.getD p.2.toNat 0) < 2 ^ 9 := Nat.or_lt_two_pow (hs _) (hs _)
    simp only [Option.map_some, Option.getD_some] at h1 ⊢
    split
    · exact Nat.or_lt_two_pow (n := 9) h1 hall
    · exact h1
  · rw [List.getElem?_eq_none h]; simp
theorem joinI_small (l : Ld) (b : List Nat) (hs : ∀ i, b.getD i 0 < 512) (i : Nat) : ∀ j, (joinI l b i).getD j 0 < 512 := by
  unfold joinI
  generalize l.wth.take i = ps
  induction ps generalizing b with
  | nil => exact hs
  | cons p ps ih => rw [List.foldl_cons]; exact ih _ (joinStep_small b p hs)
theorem joinI_next (l : Ld) (b : List Nat) (i : Nat) (hi : i < l.wth.length) : joinI l b (i + 1) = joinStep (joinI l b i) (l.wth.getD i default) := by
  unfold joinI; rw [take_next hi, List.foldl_append]; rfl
theorem joined_c (l : Ld) (b : List Nat) (hb : b.length = 9) (hs : ∀ i, b.getD i 0 < 512) (hw : l.wth.length ≤ 8) (hp : ∀ p ∈ l.wth, 0 ≤ p.1 ∧ p.1 < 9 ∧ 0 ≤ p.2 ∧ p.2 < 9) : Comp Try.prog 131 [ldA l, .agg (nats b)] (.agg (nats (joinR l b))) := by
  refine Comp.body' (T := tab) (res := [.cell 4 159]) tab_ok [3] Try.func131 rfl (by kernel_rfl) Try.ntmps131 rfl (by simp only [List.length_cons, List.length_nil]; decide) (by simp only [lowL, AV.low, ldL, lowN]; rfl) ?_; conv => whnf
  refine Walk.loopG tab_ok [] (fun i : Nat => i ≤ l.wth.length) (fun i => [(2, .pim (ldC l)), (3, .ptr 0 0), (4, .ptr 1 0), (10, .sl l.nlw (l.wth.map prA)), (11, .int .i64 l.wth.length), (12, .int .i64 i)])
    (fun i => [.cells (nats (joinI l b i)), .cells (nats (List.replicate 9 0))]) (fun i => l.wth.length - i) 0 (by omega) rfl ⟨rfl, rfl, rfl, rfl, by simp only [List.length_map]; rfl, rfl, trivial⟩ ?_ ?_ ?_
  · intro i _
    constructor
    · intro x hx; simp at hx; rcases hx with rfl | rfl
      · simp only [Blk.low, lowN]
      · rfl
    · intro p hp; simp at hp; rcases hp with rfl | rfl | rfl | rfl | rfl | rfl <;> simp [AV.low, lowPr, lowLd]
  · intro i _; simp
  intro i hi
  have hlen : (joinI l b i).length = 9 := by unfold joinI; rw [foldl_len]; exact hb
  conv => whnf
  repeat' first | ((with_reducible first | apply XBr.tt | apply XBr.ff | apply Chk.go | apply ChkA.go | apply ChkF.go | apply ChkB.go | apply XArr.pim0 | apply XArr.pim1); conv => whnf) | (with_reducible apply XBr.not) | ((with_reducible apply XBr.dec) <;> (intro h; first | (exfalso; omega) | ((try simp only [List.length_map] at h); first | (exfalso; omega) | (conv => whnf)))) | ((with_reducible first | apply XBr.beq | apply XBr.bne) <;> (intro h; first | (exfalso; omega) | (conv => whnf))) | ((with_reducible refine XInt.i64 (by omega) (by omega) ?_); conv => whnf) | ((with_reducible refine XHold.mk ?_ ?_); (first | omega | rfl | decide | exact ⟨rfl, by decide, rfl⟩ | exact wideI _ | exact widePr _ | exact wideSk _ | (unfold Room; constructor <;> ((try simp) <;> omega)) | exact ⟨rfl, by simp only [List.length_map], by unfold Room; constructor <;> ((try simp) <;> omega)⟩ | exact ⟨by omega, by omega, by unfold Room; constructor <;> ((try simp) <;> omega)⟩); conv => whnf) | ((first | ((with_reducible refine XIx.nat ?_ ?_ ?_); omega; (intro _; rfl)) | ((with_reducible refine XIx.map ?_ ?_ ?_ ?_); omega; omega; (intro _; rfl))); conv => whnf) | (with_reducible apply XAnd.mk) | (exact XSame.mk rfl rfl) | (exact XSame.mk (by first | rfl | (simp only [List.map_append, List.length_append, List.length_map]; done) | (simp only [List.map_append, List.length_append, List.length_map]; rfl)) (by first | rfl | (simp only [List.map_append]; done) | (simp only [List.map_append]; rfl))) | (with_reducible exact trivial) | ((first | (with_reducible refine xdrop_app (by rw [List.length_map]; omega) ?_) | (with_reducible refine XDrop.desk (by assumption) ?_) | (with_reducible first | refine XArr.ints (by omega) (by omega) (by omega) ?_ | refine XArr.intsA (by omega) (by omega) (by omega) ?_) | ((with_reducible first | refine XArr.nats ?_ ?_ ?_ | refine XArr.natsA ?_ ?_ ?_ | refine XArr.ptr ?_ ?_ ?_); omega; omega)); conv => whnf) | ((with_reducible apply XBr.mk') <;> (intro h; conv => whnf))
  · obtain ⟨p1, p2, p3, p4⟩ := hp _ (getD_mem (xs := l.wth) (i := i) (d := default) (by omega))
    apply Walk.drawX tab_ok mixed_ok [] [] (hsK _) [_, _, _, _, _, _, _, _, _, _] (by kernel_rfl) rfl
    · skip
      repeat' first | ((with_reducible first | apply XBr.tt | apply XBr.ff | apply Chk.go | apply ChkA.go | apply ChkF.go | apply ChkB.go | apply XArr.pim0 | apply XArr.pim1); conv => whnf) | (with_reducible apply XBr.not) | ((with_reducible apply XBr.dec) <;> (intro h; first | (exfalso; omega) | ((try simp only [List.length_map] at h); first | (exfalso; omega) | (conv => whnf)))) | ((with_reducible first | apply XBr.beq | apply XBr.bne) <;> (intro h; first | (exfalso; omega) | (conv => whnf))) | ((with_reducible refine XInt.i64 (by omega) (by omega) ?_); conv => whnf) | ((with_reducible refine XHold.mk ?_ ?_); (first | omega | rfl | decide | exact ⟨rfl, by decide, rfl⟩ | exact wideI _ | exact widePr _ | exact wideSk _ | (unfold Room; constructor <;> ((try simp) <;> omega)) | exact ⟨rfl, by simp only [List.length_map], by unfold Room; constructor <;> ((try simp) <;> omega)⟩ | exact ⟨by omega, by omega, by unfold Room; constructor <;> ((try simp) <;> omega)⟩); conv => whnf) | ((first | ((with_reducible refine XIx.nat ?_ ?_ ?_); omega; (intro _; rfl)) | ((with_reducible refine XIx.map ?_ ?_ ?_ ?_); omega; omega; (intro _; rfl))); conv => whnf) | (with_reducible apply XAnd.mk) | (exact XSame.mk rfl rfl) | (exact XSame.mk (by first | rfl | (simp only [List.map_append, List.length_append, List.length_map]; done) | (simp only [List.map_append, List.length_append, List.length_map]; rfl)) (by first | rfl | (simp only [List.map_append]; done) | (simp only [List.map_append]; rfl))) | (with_reducible exact trivial) | ((first | (with_reducible refine xdrop_app (by rw [List.length_map]; omega) ?_) | (with_reducible refine XDrop.desk (by assumption) ?_) | (with_reducible first | refine XArr.ints (by omega) (by omega) (by omega) ?_ | refine XArr.intsA (by omega) (by omega) (by omega) ?_) | ((with_reducible first | refine XArr.nats ?_ ?_ ?_ | refine XArr.natsA ?_ ?_ ?_ | refine XArr.ptr ?_ ?_ ?_); omega; omega) | (refine xdrop_nats (by omega) ?_)); conv => whnf) | ((with_reducible apply XBr.mk') <;> (intro h; conv => whnf))
    · skip
      repeat' first | ((with_reducible first | apply XBr.tt | apply XBr.ff | apply Chk.go | apply ChkA.go | apply ChkF.go | apply ChkB.go | apply XArr.pim0 | apply XArr.pim1); conv => whnf) | (with_reducible apply XBr.not) | ((with_reducible apply XBr.dec) <;> (intro h; first | (exfalso; omega) | ((try simp only [List.length_map] at h); first | (exfalso; omega) | (conv => whnf)))) | ((with_reducible first | apply XBr.beq | apply XBr.bne) <;> (intro h; first | (exfalso; omega) | (conv => whnf))) | ((with_reducible refine XInt.i64 (by omega) (by omega) ?_); conv => whnf) | ((with_reducible refine XHold.mk ?_ ?_); (first | omega | rfl | decide | exact ⟨rfl, by decide, rfl⟩ | exact wideI _ | exact widePr _ | exact wideSk _ | (unfold Room; constructor <;> ((try simp) <;> omega)) | exact ⟨rfl, by simp only [List.length_map], by unfold Room; constructor <;> ((try simp) <;> omega)⟩ | exact ⟨by omega, by omega, by unfold Room; constructor <;> ((try simp) <;> omega)⟩); conv => whnf) | ((first | ((with_reducible refine XIx.nat ?_ ?_ ?_); omega; (intro _; rfl)) | ((with_reducible refine XIx.map ?_ ?_ ?_ ?_); omega; omega; (intro _; rfl))); conv => whnf) | (with_reducible apply XAnd.mk) | (exact XSame.mk rfl rfl) | (exact XSame.mk (by first | rfl | (simp only [List.map_append, List.length_append, List.length_map]; done) | (simp only [List.map_append, List.length_append, List.length_map]; rfl)) (by first | rfl | (simp only [List.map_append]; done) | (simp only [List.map_append]; rfl))) | (with_reducible exact trivial) | ((first | (with_reducible refine xdrop_app (by rw [List.length_map]; omega) ?_) | (with_reducible refine XDrop.desk (by assumption) ?_) | (with_reducible first | refine XArr.ints (by omega) (by omega) (by omega) ?_ | refine XArr.intsA (by omega) (by omega) (by omega) ?_) | ((with_reducible first | refine XArr.nats ?_ ?_ ?_ | refine XArr.natsA ?_ ?_ ?_ | refine XArr.ptr ?_ ?_ ?_); omega; omega)); conv => whnf) | ((with_reducible apply XBr.mk') <;> (intro h; conv => whnf))
    · conv => whnf
      repeat' first | ((with_reducible first | apply XBr.tt | apply XBr.ff | apply Chk.go | apply ChkA.go | apply ChkF.go | apply ChkB.go | apply XArr.pim0 | apply XArr.pim1); conv => whnf) | (with_reducible apply XBr.not) | ((with_reducible apply XBr.dec) <;> (intro h; first | (exfalso; omega) | ((try simp only [List.length_map] at h); first | (exfalso; omega) | (conv => whnf)))) | ((with_reducible first | apply XBr.beq | apply XBr.bne) <;> (intro h; first | (exfalso; omega) | (conv => whnf))) | ((with_reducible refine XInt.i64 (by omega) (by omega) ?_); conv => whnf) | ((with_reducible refine XHold.mk ?_ ?_); (first | omega | rfl | decide | exact ⟨rfl, by decide, rfl⟩ | exact wideI _ | exact widePr _ | exact wideSk _ | (unfold Room; constructor <;> ((try simp) <;> omega)) | exact ⟨rfl, by simp only [List.length_map], by unfold Room; constructor <;> ((try simp) <;> omega)⟩ | exact ⟨by omega, by omega, by unfold Room; constructor <;> ((try simp) <;> omega)⟩); conv => whnf) | ((first | ((with_reducible refine XIx.nat ?_ ?_ ?_); omega; (intro _; rfl)) | ((with_reducible refine XIx.map ?_ ?_ ?_ ?_); omega; omega; (intro _; rfl))); conv => whnf) | (with_reducible apply XAnd.mk) | (exact XSame.mk rfl rfl) | (exact XSame.mk (by first | rfl | (simp only [List.map_append, List.length_append, List.length_map]; done) | (simp only [List.map_append, List.length_append, List.length_map]; rfl)) (by first | rfl | (simp only [List.map_append]; done) | (simp only [List.map_append]; rfl))) | (with_reducible exact trivial) | ((first | (with_reducible refine xdrop_app (by rw [List.length_map]; omega) ?_) | (with_reducible refine XDrop.desk (by assumption) ?_) | (with_reducible first | refine XArr.ints (by omega) (by omega) (by omega) ?_ | refine XArr.intsA (by omega) (by omega) (by omega) ?_) | ((with_reducible first | refine XArr.nats ?_ ?_ ?_ | refine XArr.natsA ?_ ?_ ?_ | refine XArr.ptr ?_ ?_ ?_); omega; omega)); conv => whnf) | ((with_reducible apply XBr.mk') <;> (intro h; conv => whnf))
      have hsm := joinI_small l b hs i
      have hx := hsm (l.wth.getD i default).1.toNat
      have hy := hsm (l.wth.getD i default).2.toNat
      have hall : ((joinI l b i).getD (l.wth.getD i default).1.toNat 0 ||| (joinI l b i).getD (l.wth.getD i default).2.toNat 0) < 2 ^ 9 := Nat.or_lt_two_pow (n := 9) hx hy
      have hor := ior_nat (a := (joinI l b i).getD (l.wth.getD i default).1.toNat 0) (b := (joinI l b i).getD (l.wth.getD i default).2.toNat 0) (by omega) (by omega)
      generalize hae : ((joinI l b i).getD (l.wth.getD i default).1.toNat 0 ||| (joinI l b i).getD (l.wth.getD i default).2.toNat 0) = all at hall hor
      refine Walk.loop tab_ok [] (fun j : Nat => j ≤ 9) (fun j => [(2, .pim (ldC l)), (3, .ptr 0 0), (4, .ptr 1 0), (10, .sl l.nlw (l.wth.map prA)), (11, .int .i64 l.wth.length), (12, .int .i64 i), (7, .int .i64 all), (25, .int .i64 j)])
        (fun j => [.cells (nats (joinP all (joinI l b i) j)), .cells (nats (List.replicate 9 0)), .cells [.int .i64 (l.wth.getD i default).1, .int .i64 (l.wth.getD i default).2]]) (fun j => 9 - j) 0 (by omega) (by simp only [joinP_zero]; rfl) ⟨rfl, rfl, rfl, rfl, rfl, rfl, congrArg (fun n => some (AV.int .i64 n)) hor, rfl, trivial⟩ ?_
      intro j hj
      have hpl : (joinP all (joinI l b i) j).length = 9 := by rw [joinP_len]; exact hlen
      have hbit := bit_at (set := all) (p := (j : Int)) (by omega) (by omega) (by omega)
      rw [Int.toNat_natCast] at hbit
      conv => whnf
      repeat' first | ((with_reducible first | apply XBr.tt | apply XBr.ff | apply Chk.go | apply ChkA.go | apply ChkF.go | apply ChkB.go | apply XArr.pim0 | apply XArr.pim1); conv => whnf) | (with_reducible apply XBr.not) | ((with_reducible apply XBr.dec) <;> (intro h; first | (exfalso; omega) | ((try simp only [List.length_map] at h); first | (exfalso; omega) | (conv => whnf)))) | ((with_reducible first | apply XBr.beq | apply XBr.bne) <;> (intro h; first | (exfalso; omega) | (conv => whnf))) | ((with_reducible refine XInt.i64 (by omega) (by omega) ?_); conv => whnf) | ((with_reducible refine XHold.mk ?_ ?_); (first | omega | rfl | decide | exact ⟨rfl, by decide, rfl⟩ | exact wideI _ | exact widePr _ | exact wideSk _ | (unfold Room; constructor <;> ((try simp) <;> omega)) | exact ⟨rfl, by simp only [List.length_map], by unfold Room; constructor <;> ((try simp) <;> omega)⟩ | exact ⟨by omega, by omega, by unfold Room; constructor <;> ((try simp) <;> omega)⟩); conv => whnf) | ((first | ((with_reducible refine XIx.nat ?_ ?_ ?_); omega; (intro _; rfl)) | ((with_reducible refine XIx.map ?_ ?_ ?_ ?_); omega; omega; (intro _; rfl))); conv => whnf) | (with_reducible apply XAnd.mk) | (exact XSame.mk rfl rfl) | (exact XSame.mk (by first | rfl | (simp only [List.map_append, List.length_append, List.length_map]; done) | (simp only [List.map_append, List.length_append, List.length_map]; rfl)) (by first | rfl | (simp only [List.map_append]; done) | (simp only [List.map_append]; rfl))) | (with_reducible exact trivial) | ((first | (with_reducible refine xdrop_app (by rw [List.length_map]; omega) ?_) | (with_reducible refine XDrop.desk (by assumption) ?_) | (with_reducible first | refine XArr.ints (by omega) (by omega) (by omega) ?_ | refine XArr.intsA (by omega) (by omega) (by omega) ?_) | ((with_reducible first | refine XArr.nats ?_ ?_ ?_ | refine XArr.natsA ?_ ?_ ?_ | refine XArr.ptr ?_ ?_ ?_); omega; omega)); conv => whnf) | ((with_reducible apply XBr.mk') <;> (intro h; conv => whnf))
      · rw [Int.toNat_natCast, hbit] at h
        have hb1 : all / 2 ^ j % 2 = 1 := by omega
        refine xdrop_nats (i := j) (by omega) ?_
        conv => whnf
        repeat' first | ((with_reducible first | apply XBr.tt | apply XBr.ff | apply Chk.go | apply ChkA.go | apply ChkF.go | apply ChkB.go | apply XArr.pim0 | apply XArr.pim1); conv => whnf) | (with_reducible apply XBr.not) | ((with_reducible apply XBr.dec) <;> (intro h; first | (exfalso; omega) | ((try simp only [List.length_map] at h); first | (exfalso; omega) | (conv => whnf)))) | ((with_reducible first | apply XBr.beq | apply XBr.bne) <;> (intro h; first | (exfalso; omega) | (conv => whnf))) | ((with_reducible refine XInt.i64 (by omega) (by omega) ?_); conv => whnf) | ((with_reducible refine XHold.mk ?_ ?_); (first | omega | rfl | decide | exact ⟨rfl, by decide, rfl⟩ | exact wideI _ | exact widePr _ | exact wideSk _ | (unfold Room; constructor <;> ((try simp) <;> omega)) | exact ⟨rfl, by simp only [List.length_map], by unfold Room; constructor <;> ((try simp) <;> omega)⟩ | exact ⟨by omega, by omega, by unfold Room; constructor <;> ((try simp) <;> omega)⟩); conv => whnf) | ((first | ((with_reducible refine XIx.nat ?_ ?_ ?_); omega; (intro _; rfl)) | ((with_reducible refine XIx.map ?_ ?_ ?_ ?_); omega; omega; (intro _; rfl))); conv => whnf) | (with_reducible apply XAnd.mk) | (exact XSame.mk rfl rfl) | (exact XSame.mk (by first | rfl | (simp only [List.map_append, List.length_append, List.length_map]; done) | (simp only [List.map_append, List.length_append, List.length_map]; rfl)) (by first | rfl | (simp only [List.map_append]; done) | (simp only [List.map_append]; rfl))) | (with_reducible exact trivial) | ((first | (with_reducible refine xdrop_app (by rw [List.length_map]; omega) ?_) | (with_reducible refine XDrop.desk (by assumption) ?_) | (with_reducible first | refine XArr.ints (by omega) (by omega) (by omega) ?_ | refine XArr.intsA (by omega) (by omega) (by omega) ?_) | ((with_reducible first | refine XArr.nats ?_ ?_ ?_ | refine XArr.natsA ?_ ?_ ?_ | refine XArr.ptr ?_ ?_ ?_); omega; omega)); conv => whnf) | ((with_reducible apply XBr.mk') <;> (intro h; conv => whnf))
        have hlt := hsm j
        refine xspl_nats ((joinI l b i).getD j 0 ||| all) (by rw [joinP_at _ _ _ (by omega)]; exact ior_nat (by omega) (by omega)) (by omega) ?_
        conv => whnf
        repeat' first | ((with_reducible first | apply XBr.tt | apply XBr.ff | apply Chk.go | apply ChkA.go | apply ChkF.go | apply ChkB.go | apply XArr.pim0 | apply XArr.pim1); conv => whnf) | (with_reducible apply XBr.not) | ((with_reducible apply XBr.dec) <;> (intro h; first | (exfalso; omega) | ((try simp only [List.length_map] at h); first | (exfalso; omega) | (conv => whnf)))) | ((with_reducible first | apply XBr.beq | apply XBr.bne) <;> (intro h; first | (exfalso; omega) | (conv => whnf))) | ((with_reducible refine XInt.i64 (by omega) (by omega) ?_); conv => whnf) | ((with_reducible refine XHold.mk ?_ ?_); (first | omega | rfl | decide | exact ⟨rfl, by decide, rfl⟩ | exact wideI _ | exact widePr _ | exact wideSk _ | (unfold Room; constructor <;> ((try simp) <;> omega)) | exact ⟨rfl, by simp only [List.length_map], by unfold Room; constructor <;> ((try simp) <;> omega)⟩ | exact ⟨by omega, by omega, by unfold Room; constructor <;> ((try simp) <;> omega)⟩); conv => whnf) | ((first | ((with_reducible refine XIx.nat ?_ ?_ ?_); omega; (intro _; rfl)) | ((with_reducible refine XIx.map ?_ ?_ ?_ ?_); omega; omega; (intro _; rfl))); conv => whnf) | (with_reducible apply XAnd.mk) | (exact XSame.mk rfl rfl) | (exact XSame.mk (by first | rfl | (simp only [List.map_append, List.length_append, List.length_map]; done) | (simp only [List.map_append, List.length_append, List.length_map]; rfl)) (by first | rfl | (simp only [List.map_append]; done) | (simp only [List.map_append]; rfl))) | (with_reducible exact trivial) | ((first | (with_reducible refine xdrop_app (by rw [List.length_map]; omega) ?_) | (with_reducible refine XDrop.desk (by assumption) ?_) | (with_reducible first | refine XArr.ints (by omega) (by omega) (by omega) ?_ | refine XArr.intsA (by omega) (by omega) (by omega) ?_) | ((with_reducible first | refine XArr.nats ?_ ?_ ?_ | refine XArr.natsA ?_ ?_ ?_ | refine XArr.ptr ?_ ?_ ?_); omega; omega)); conv => whnf) | ((with_reducible apply XBr.mk') <;> (intro h; conv => whnf))
        refine XAgain.go (j + 1) (by omega) (by omega) ?_ ⟨rfl, rfl, rfl, rfl, rfl, rfl, rfl, rfl, trivial⟩
        rw [Int.toNat_natCast, joinP_hit _ _ _ (by omega) hb1]
      · rw [Int.toNat_natCast, hbit] at h
        have hb1 : ¬ all / 2 ^ j % 2 = 1 := by omega
        refine XAgain.go (j + 1) (by omega) (by omega) ?_ ⟨rfl, rfl, rfl, rfl, rfl, rfl, rfl, rfl, trivial⟩
        rw [← joinP_miss _ _ _ hb1]
      · have : j = 9 := by omega
        subst this
        refine XAgainG.go (i + 1) [.cells [.int .i64 (l.wth.getD i default).1, .int .i64 (l.wth.getD i default).2]] (by omega) (by omega) ?_ ⟨rfl, rfl, rfl, rfl, rfl, rfl, trivial⟩
        rw [joinI_next l b i (by omega), ← joinP_full _ _ hlen, hae]; rfl
  · have hie : i = l.wth.length := by omega
    have hfin : joinI l b i = joinR l b := by unfold joinI joinR; rw [hie, List.take_length]
    rw [hfin] at hlen ⊢
    refine xtk_all (by rw [List.length_map]; exact hlen) ?_
    conv => whnf
    refine xn_all (by rw [List.length_map]; exact hlen) ?_
    conv => whnf
    refine xspl_all (by rw [List.length_map, List.length_map]; exact hlen) ?_
    conv => whnf
    refine xtk_all (by rw [List.length_map]; exact hlen) ?_
    conv => whnf
    exact ⟨Froz.low (by show lowL 0 _ = true; exact lowN _)⟩
end GA
end

section
namespace GA
open Go Go.RowKit Go.Proofs
set_option pp.deepTerms true
set_option maxRecDepth 8000
set_option linter.unusedVariables false
set_option linter.unusedSimpArgs false

theorem XInt.eq {x y : Int} {k : AV → Prop} (e : x = y) (h1 : -9223372036854775808 ≤ y) (h2 : y ≤ 9223372036854775807) (h : k (.int .i64 y)) : XInt .i64 x k := by subst e; exact .i64 h1 h2 h
theorem pow9 {n : Nat} (h : n ≤ 9) : 2 ^ n ≤ 512 ∧ 0 < 2 ^ n := ⟨Nat.pow_le_pow_right (n := 2) (by omega) h, Nat.two_pow_pos n⟩
theorem all_c (d : Dk) (h : d.l.sacks.length ≤ 9) : Comp Try.prog 79 [.pim (deskC d)] (.int .i64 ((2 ^ d.l.sacks.length - 1 : Nat) : Int)) := by
  refine Comp.body (T := tab) (res := [.tmp 2]) tab_ok [] Try.func79 rfl (by kernel_rfl) Try.ntmps79 rfl (by simp only [List.length_cons, List.length_nil]; decide) (by simp only [lowL, AV.low, lowDk]; rfl) ?_; conv => whnf
  repeat' first | ((with_reducible first | apply XBr.tt | apply XBr.ff | apply Chk.go | apply ChkA.go | apply ChkF.go | apply ChkB.go | apply XArr.pim0 | apply XArr.pim1); conv => whnf) | (with_reducible apply XBr.not) | ((with_reducible apply XBr.dec) <;> (intro h; first | (exfalso; omega) | ((try simp only [List.length_map] at h); first | (exfalso; omega) | (conv => whnf)))) | ((with_reducible first | apply XBr.beq | apply XBr.bne) <;> (intro h; first | (exfalso; omega) | (conv => whnf))) | ((with_reducible refine XInt.i64 (by omega) (by omega) ?_); conv => whnf) | ((with_reducible refine XHold.mk ?_ ?_); (first | omega | rfl | decide | exact ⟨rfl, by decide, rfl⟩ | exact wideI _ | exact widePr _ | exact wideSk _ | (unfold Room; constructor <;> ((try simp) <;> omega)) | exact ⟨rfl, by simp only [List.length_map], by unfold Room; constructor <;> ((try simp) <;> omega)⟩ | exact ⟨by omega, by omega, by unfold Room; constructor <;> ((try simp) <;> omega)⟩); conv => whnf) | ((first | ((with_reducible refine XIx.nat ?_ ?_ ?_); omega; (intro _; rfl)) | ((with_reducible refine XIx.map ?_ ?_ ?_ ?_); omega; omega; (intro _; rfl))); conv => whnf) | (with_reducible apply XAnd.mk) | (exact XSame.mk rfl rfl) | (exact XSame.mk (by first | rfl | (simp only [List.map_append, List.length_append, List.length_map]; done) | (simp only [List.map_append, List.length_append, List.length_map]; rfl)) (by first | rfl | (simp only [List.map_append]; done) | (simp only [List.map_append]; rfl))) | (with_reducible exact trivial) | ((first | (with_reducible refine xdrop_app (by rw [List.length_map]; omega) ?_) | (with_reducible refine XDrop.desk (by assumption) ?_) | (with_reducible first | refine XArr.ints (by omega) (by omega) (by omega) ?_ | refine XArr.intsA (by omega) (by omega) (by omega) ?_) | ((with_reducible first | refine XArr.nats ?_ ?_ ?_ | refine XArr.natsA ?_ ?_ ?_ | refine XArr.ptr ?_ ?_ ?_); omega; omega)); conv => whnf) | ((with_reducible apply XBr.mk') <;> (intro h; conv => whnf))
  · have := pow9 h
    refine XInt.eq (y := ((2 ^ d.l.sacks.length : Nat) : Int)) (by rw [List.length_map]; exact shl_nat (by omega)) (by omega) (by omega) ?_
    conv => whnf
    repeat' first | ((with_reducible first | apply XBr.tt | apply XBr.ff | apply Chk.go | apply ChkA.go | apply ChkF.go | apply ChkB.go | apply XArr.pim0 | apply XArr.pim1); conv => whnf) | (with_reducible apply XBr.not) | ((with_reducible apply XBr.dec) <;> (intro h; first | (exfalso; omega) | ((try simp only [List.length_map] at h); first | (exfalso; omega) | (conv => whnf)))) | ((with_reducible first | apply XBr.beq | apply XBr.bne) <;> (intro h; first | (exfalso; omega) | (conv => whnf))) | ((with_reducible refine XInt.i64 (by omega) (by omega) ?_); conv => whnf) | ((with_reducible refine XHold.mk ?_ ?_); (first | omega | rfl | decide | exact ⟨rfl, by decide, rfl⟩ | exact wideI _ | exact widePr _ | exact wideSk _ | (unfold Room; constructor <;> ((try simp) <;> omega)) | exact ⟨rfl, by simp only [List.length_map], by unfold Room; constructor <;> ((try simp) <;> omega)⟩ | exact ⟨by omega, by omega, by unfold Room; constructor <;> ((try simp) <;> omega)⟩); conv => whnf) | ((first | ((with_reducible refine XIx.nat ?_ ?_ ?_); omega; (intro _; rfl)) | ((with_reducible refine XIx.map ?_ ?_ ?_ ?_); omega; omega; (intro _; rfl))); conv => whnf) | (with_reducible apply XAnd.mk) | (exact XSame.mk rfl rfl) | (exact XSame.mk (by first | rfl | (simp only [List.map_append, List.length_append, List.length_map]; done) | (simp only [List.map_append, List.length_append, List.length_map]; rfl)) (by first | rfl | (simp only [List.map_append]; done) | (simp only [List.map_append]; rfl))) | (with_reducible exact trivial) | ((first | (with_reducible refine xdrop_app (by rw [List.length_map]; omega) ?_) | (with_reducible refine XDrop.desk (by assumption) ?_) | (with_reducible first | refine XArr.ints (by omega) (by omega) (by omega) ?_ | refine XArr.intsA (by omega) (by omega) (by omega) ?_) | ((with_reducible first | refine XArr.nats ?_ ?_ ?_ | refine XArr.natsA ?_ ?_ ?_ | refine XArr.ptr ?_ ?_ ?_); omega; omega)); conv => whnf) | ((with_reducible apply XBr.mk') <;> (intro h; conv => whnf))
    refine XOut.int ?_
    omega
theorem carts_c (d : Dk) (set : Nat) : Comp Try.prog 80 [.pim (deskC d), .int .i64 set] (.fn 133 [.pim [.int .i64 set], .pim [.pim (deskC d)]]) := by
  refine Comp.body (T := tab) (res := [.tmp 4]) tab_ok [] Try.func80 rfl (by kernel_rfl) Try.ntmps80 rfl (by simp only [List.length_cons, List.length_nil]; decide) (by simp only [lowL, AV.low, lowDk]; rfl) ?_; conv => whnf
  repeat' first | ((with_reducible first | apply XBr.tt | apply XBr.ff | apply Chk.go | apply ChkA.go | apply ChkF.go | apply ChkB.go | apply XArr.pim0 | apply XArr.pim1); conv => whnf) | (with_reducible apply XBr.not) | ((with_reducible apply XBr.dec) <;> (intro h; first | (exfalso; omega) | ((try simp only [List.length_map] at h); first | (exfalso; omega) | (conv => whnf)))) | ((with_reducible first | apply XBr.beq | apply XBr.bne) <;> (intro h; first | (exfalso; omega) | (conv => whnf))) | ((with_reducible refine XInt.i64 (by omega) (by omega) ?_); conv => whnf) | ((with_reducible refine XHold.mk ?_ ?_); (first | omega | rfl | decide | exact ⟨rfl, by decide, rfl⟩ | exact wideI _ | exact widePr _ | exact wideSk _ | (unfold Room; constructor <;> ((try simp) <;> omega)) | exact ⟨rfl, by simp only [List.length_map], by unfold Room; constructor <;> ((try simp) <;> omega)⟩ | exact ⟨by omega, by omega, by unfold Room; constructor <;> ((try simp) <;> omega)⟩); conv => whnf) | ((first | ((with_reducible refine XIx.nat ?_ ?_ ?_); omega; (intro _; rfl)) | ((with_reducible refine XIx.map ?_ ?_ ?_ ?_); omega; omega; (intro _; rfl))); conv => whnf) | (with_reducible apply XAnd.mk) | (exact XSame.mk rfl rfl) | (exact XSame.mk (by first | rfl | (simp only [List.map_append, List.length_append, List.length_map]; done) | (simp only [List.map_append, List.length_append, List.length_map]; rfl)) (by first | rfl | (simp only [List.map_append]; done) | (simp only [List.map_append]; rfl))) | (with_reducible exact trivial) | ((first | (with_reducible refine xdrop_app (by rw [List.length_map]; omega) ?_) | (with_reducible refine XDrop.desk (by assumption) ?_) | (with_reducible first | refine XArr.ints (by omega) (by omega) (by omega) ?_ | refine XArr.intsA (by omega) (by omega) (by omega) ?_) | ((with_reducible first | refine XArr.nats ?_ ?_ ?_ | refine XArr.natsA ?_ ?_ ?_ | refine XArr.ptr ?_ ?_ ?_); omega; omega)); conv => whnf) | ((with_reducible apply XBr.mk') <;> (intro h; conv => whnf))
  exact ⟨Froz.low (by show lowL 0 _ = true; simp only [lowL, AV.low, lowDk]; rfl)⟩
end GA
end

section
namespace GA
open Go Go.RowKit Go.Proofs
set_option pp.deepTerms true
set_option maxRecDepth 8000
set_option linter.unusedVariables false
set_option linter.unusedSimpArgs false

def lowb (s : Nat) : Nat := diff s (s - 1)
theorem low_all : ∀ s : Fin 512, iand .i64 (s.val : Int) (0 - (s.val : Int)) = ((lowb s.val : Nat) : Int) := by decide +kernel
theorem low_int {s : Nat} (h : s < 512) : iand .i64 (s : Int) (0 - (s : Int)) = ((lowb s : Nat) : Int) := low_all ⟨s, h⟩
theorem AYield.mono {P : Program} {i : Nat} {rs : List AV} {H : List Blk} {k k' : AV → List Blk → Prop} (x : AYield P i rs H k) (hk : ∀ r H', k r H' → k' r H') : AYield P i rs H k' :=
  ⟨x.1, fun E h β w b vs s r e => let ⟨f, tmps, assign, body, h1, h2⟩ := x.2 E h β w b vs s r e; ⟨f, tmps, assign, body, h1, h2.mono fun _ _ => Ends.mono hk⟩⟩
def IterOk (P : Program) (i : Nat) (K : List Blk → Prop) : List Nat → List Blk → Prop
  | [], H => K H
  | c :: cs, H => XYield P i [natA c] H fun r H' => (r = .bool true ∧ IterOk P i K cs H') ∨ (r = .bool false ∧ K H')

theorem diff_le (a b : Nat) : diff a b ≤ a := by
  unfold diff
  have h : a ^^^ (a &&& b) = a &&& (a ^^^ b) := by
    apply Nat.eq_of_testBit_eq; intro i; simp only [Nat.testBit_xor, Nat.testBit_and]
    cases a.testBit i <;> cases b.testBit i <;> rfl
  rw [h]; exact Nat.and_le_left
theorem or9 {a b : Nat} (ha : a < 512) (hb : b < 512) : a ||| b < 512 := Nat.or_lt_two_pow (n := 9) ha hb
theorem lowb_le (s : Nat) : lowb s ≤ s := diff_le ..
def cartsF (d : Dk) (set : Nat) : Nat → Nat → List Nat
  | 0, _ => []
  | f + 1, rest => (if rightB d (rest ||| lowb set) then [rest ||| lowb set] else []) ++ (if rest = 0 then [] else cartsF d set f (diff ((rest - 1) &&& set) (lowb set)))
def cartsL (d : Dk) (set : Nat) : List Nat := cartsF d set 512 (diff set (lowb set))

theorem cartsF_succ (d : Dk) (set f rest : Nat) : cartsF d set (f + 1) rest = (if rightB d (rest ||| lowb set) then [rest ||| lowb set] else []) ++ (if rest = 0 then [] else cartsF d set f (diff ((rest - 1) &&& set) (lowb set))) := rfl
theorem carts1_c (d : Dk) (ok : DkFull d) (set i : Nat) (hs : set < 512) (H : List Blk) (K : List Blk → Prop) (hK : IterOk Try.prog i K (cartsL d set) H) :
    XCall Try.prog 133 [.yld i, .pim [.int .i64 set], .pim [.pim (deskC d)]] H fun _ H' => K H' := by
  refine XCall.inl (T := tab) (res := []) tab_ok [] Try.func133 rfl (by kernel_rfl) Try.ntmps133 rfl (by simp only [List.length_append, List.length_cons, List.length_nil]; decide) ?_; conv => whnf
  repeat' first | ((with_reducible first | apply XBr.tt | apply XBr.ff | apply Chk.go | apply ChkA.go | apply ChkF.go | apply ChkB.go | apply XArr.pim0 | apply XArr.pim1); conv => whnf) | (with_reducible apply XBr.not) | ((with_reducible apply XBr.dec) <;> (intro h; first | (exfalso; omega) | ((try simp only [List.length_map] at h); first | (exfalso; omega) | (conv => whnf)))) | ((with_reducible first | apply XBr.beq | apply XBr.bne) <;> (intro h; first | (exfalso; omega) | (conv => whnf))) | ((with_reducible refine XInt.i64 (by omega) (by omega) ?_); conv => whnf) | ((with_reducible refine XHold.mk ?_ ?_); (first | omega | rfl | decide | exact ⟨rfl, by decide, rfl⟩ | exact wideI _ | exact widePr _ | exact wideSk _ | (unfold Room; constructor <;> ((try simp) <;> omega)) | exact ⟨rfl, by simp only [List.length_map], by unfold Room; constructor <;> ((try simp) <;> omega)⟩ | exact ⟨by omega, by omega, by unfold Room; constructor <;> ((try simp) <;> omega)⟩); conv => whnf) | ((first | ((with_reducible refine XIx.nat ?_ ?_ ?_); omega; (intro _; rfl)) | ((with_reducible refine XIx.map ?_ ?_ ?_ ?_); omega; omega; (intro _; rfl))); conv => whnf) | (with_reducible apply XAnd.mk) | (exact XSame.mk rfl rfl) | (exact XSame.mk (by first | rfl | (simp only [List.map_append, List.length_append, List.length_map]; done) | (simp only [List.map_append, List.length_append, List.length_map]; rfl)) (by first | rfl | (simp only [List.map_append]; done) | (simp only [List.map_append]; rfl))) | (with_reducible exact trivial) | ((first | (with_reducible refine xdrop_app (by rw [List.length_map]; omega) ?_) | (with_reducible refine XDrop.desk (by assumption) ?_) | (with_reducible first | refine XArr.ints (by omega) (by omega) (by omega) ?_ | refine XArr.intsA (by omega) (by omega) (by omega) ?_) | ((with_reducible first | refine XArr.nats ?_ ?_ ?_ | refine XArr.natsA ?_ ?_ ?_ | refine XArr.ptr ?_ ?_ ?_); omega; omega)); conv => whnf) | ((with_reducible apply XBr.mk') <;> (intro h; conv => whnf))
  have hl := lowb_le set
  have hd := diff_le set (lowb set)
  have e1 : iand .i64 (set : Int) (0 - (set : Int)) = ((lowb set : Nat) : Int) := low_int hs
  have e2 : iandn .i64 (set : Int) ((lowb set : Nat) : Int) = ((diff set (lowb set) : Nat) : Int) := iandn_nat (by omega) (by omega)
  refine Walk.loop tab_ok [] (fun g : Nat × Nat × List Blk => g.1 < 512 ∧ g.1 < g.2.1 ∧ IterOk Try.prog i K (cartsF d set g.2.1 g.1) g.2.2) (fun g => [(0, .yld i), (1, .pim [.int .i64 set]), (2, .pim [.pim (deskC d)]), (4, .int .i64 (lowb set : Nat)), (5, .int .i64 g.1)]) (fun g => g.2.2) (fun g => g.1) (diff set (lowb set), 512, H) ⟨by dsimp only; omega, by dsimp only; omega, hK⟩ rfl ⟨rfl, rfl, rfl, congrArg (fun n => some (AV.int .i64 n)) e1, ?_, trivial⟩ ?_
  · show some (AV.int .i64 (iandn .i64 (set : Int) (iand .i64 (set : Int) (0 - (set : Int))))) = _
    rw [e1, e2]
  rintro ⟨rest, f, H'⟩ ⟨h1, h2, h3⟩
  dsimp only at h1 h2 h3 ⊢
  conv => whnf
  have e3 : ior .i64 (rest : Int) ((lowb set : Nat) : Int) = ((rest ||| lowb set : Nat) : Int) := ior_nat (by omega) (by omega)
  have h4 : rest ||| lowb set < 512 := or9 h1 (by omega)
  have hf : f = (f - 1) + 1 := by omega
  rw [hf] at h3
  have hn := diff_le ((rest - 1) &&& set) (lowb set)
  have hn2 : (rest - 1) &&& set ≤ rest - 1 := Nat.and_le_left
  have e5 : 0 < rest → iandn .i64 (iand .i64 ((rest : Int) - 1) (set : Int)) ((lowb set : Nat) : Int) = ((diff ((rest - 1) &&& set) (lowb set) : Nat) : Int) := by
    intro h0
    have : (rest : Int) - 1 = ((rest - 1 : Nat) : Int) := by omega
    rw [this, iand_nat (by omega) (by omega), iandn_nat (by omega) (by omega)]
  rw [e3]
  refine XCall.ret (right_c d ok _ h4) ?_
  conv => whnf
  repeat' first | ((with_reducible first | apply XBr.tt | apply XBr.ff | apply Chk.go | apply ChkA.go | apply ChkF.go | apply ChkB.go | apply XArr.pim0 | apply XArr.pim1); conv => whnf) | (with_reducible apply XBr.not) | ((with_reducible apply XBr.dec) <;> (intro h; first | (exfalso; omega) | ((try simp only [List.length_map] at h); first | (exfalso; omega) | (conv => whnf)))) | ((with_reducible first | apply XBr.beq | apply XBr.bne) <;> (intro h; first | (exfalso; omega) | (conv => whnf))) | ((with_reducible refine XInt.i64 (by omega) (by omega) ?_); conv => whnf) | ((with_reducible refine XHold.mk ?_ ?_); (first | omega | rfl | decide | exact ⟨rfl, by decide, rfl⟩ | exact wideI _ | exact widePr _ | exact wideSk _ | (unfold Room; constructor <;> ((try simp) <;> omega)) | exact ⟨rfl, by simp only [List.length_map], by unfold Room; constructor <;> ((try simp) <;> omega)⟩ | exact ⟨by omega, by omega, by unfold Room; constructor <;> ((try simp) <;> omega)⟩); conv => whnf) | ((first | ((with_reducible refine XIx.nat ?_ ?_ ?_); omega; (intro _; rfl)) | ((with_reducible refine XIx.map ?_ ?_ ?_ ?_); omega; omega; (intro _; rfl))); conv => whnf) | (with_reducible apply XAnd.mk) | (exact XSame.mk rfl rfl) | (exact XSame.mk (by first | rfl | (simp only [List.map_append, List.length_append, List.length_map]; done) | (simp only [List.map_append, List.length_append, List.length_map]; rfl)) (by first | rfl | (simp only [List.map_append]; done) | (simp only [List.map_append]; rfl))) | (with_reducible exact trivial) | ((first | (with_reducible refine xdrop_app (by rw [List.length_map]; omega) ?_) | (with_reducible refine XDrop.desk (by assumption) ?_) | (with_reducible first | refine XArr.ints (by omega) (by omega) (by omega) ?_ | refine XArr.intsA (by omega) (by omega) (by omega) ?_) | ((with_reducible first | refine XArr.nats ?_ ?_ ?_ | refine XArr.natsA ?_ ?_ ?_ | refine XArr.ptr ?_ ?_ ?_); omega; omega)); conv => whnf) | ((with_reducible apply XBr.mk') <;> (intro h; conv => whnf))
  · rw [e3]
    have hc : cartsF d set (f - 1 + 1) rest = (rest ||| lowb set) :: (if rest = 0 then [] else cartsF d set (f - 1) (diff ((rest - 1) &&& set) (lowb set))) := by
      rw [cartsF_succ, if_pos h]; rfl
    rw [hc] at h3
    refine ⟨AYield.mono h3.o ?_⟩
    rintro r H'' (⟨rfl, h5⟩ | ⟨rfl, h5⟩)
    · conv => whnf
      repeat' first | ((with_reducible first | apply XBr.tt | apply XBr.ff | apply Chk.go | apply ChkA.go | apply ChkF.go | apply ChkB.go | apply XArr.pim0 | apply XArr.pim1); conv => whnf) | (with_reducible apply XBr.not) | ((with_reducible apply XBr.dec) <;> (intro h; first | (exfalso; omega) | ((try simp only [List.length_map] at h); first | (exfalso; omega) | (conv => whnf)))) | ((with_reducible first | apply XBr.beq | apply XBr.bne) <;> (intro h; first | (exfalso; omega) | (conv => whnf))) | ((with_reducible refine XInt.i64 (by omega) (by omega) ?_); conv => whnf) | ((with_reducible refine XHold.mk ?_ ?_); (first | omega | rfl | decide | exact ⟨rfl, by decide, rfl⟩ | exact wideI _ | exact widePr _ | exact wideSk _ | (unfold Room; constructor <;> ((try simp) <;> omega)) | exact ⟨rfl, by simp only [List.length_map], by unfold Room; constructor <;> ((try simp) <;> omega)⟩ | exact ⟨by omega, by omega, by unfold Room; constructor <;> ((try simp) <;> omega)⟩); conv => whnf) | ((first | ((with_reducible refine XIx.nat ?_ ?_ ?_); omega; (intro _; rfl)) | ((with_reducible refine XIx.map ?_ ?_ ?_ ?_); omega; omega; (intro _; rfl))); conv => whnf) | (with_reducible apply XAnd.mk) | (exact XSame.mk rfl rfl) | (exact XSame.mk (by first | rfl | (simp only [List.map_append, List.length_append, List.length_map]; done) | (simp only [List.map_append, List.length_append, List.length_map]; rfl)) (by first | rfl | (simp only [List.map_append]; done) | (simp only [List.map_append]; rfl))) | (with_reducible exact trivial) | ((first | (with_reducible refine xdrop_app (by rw [List.length_map]; omega) ?_) | (with_reducible refine XDrop.desk (by assumption) ?_) | (with_reducible first | refine XArr.ints (by omega) (by omega) (by omega) ?_ | refine XArr.intsA (by omega) (by omega) (by omega) ?_) | ((with_reducible first | refine XArr.nats ?_ ?_ ?_ | refine XArr.natsA ?_ ?_ ?_ | refine XArr.ptr ?_ ?_ ?_); omega; omega)); conv => whnf) | ((with_reducible apply XBr.mk') <;> (intro h; conv => whnf))
      · rename_i h0
        rw [if_pos (by omega)] at h5; exact h5
      · rename_i h0
        rw [if_neg (by omega)] at h5
        refine XAgain.go (diff ((rest - 1) &&& set) (lowb set), f - 1, H'') ⟨by dsimp only; omega, by dsimp only; omega, h5⟩ (by dsimp only; omega) rfl ⟨rfl, rfl, rfl, rfl, ?_, trivial⟩
        exact congrArg (fun n => some (AV.int .i64 n)) (e5 (by omega))
    · conv => whnf
      repeat' first | ((with_reducible first | apply XBr.tt | apply XBr.ff | apply Chk.go | apply ChkA.go | apply ChkF.go | apply ChkB.go | apply XArr.pim0 | apply XArr.pim1); conv => whnf) | (with_reducible apply XBr.not) | ((with_reducible apply XBr.dec) <;> (intro h; first | (exfalso; omega) | ((try simp only [List.length_map] at h); first | (exfalso; omega) | (conv => whnf)))) | ((with_reducible first | apply XBr.beq | apply XBr.bne) <;> (intro h; first | (exfalso; omega) | (conv => whnf))) | ((with_reducible refine XInt.i64 (by omega) (by omega) ?_); conv => whnf) | ((with_reducible refine XHold.mk ?_ ?_); (first | omega | rfl | decide | exact ⟨rfl, by decide, rfl⟩ | exact wideI _ | exact widePr _ | exact wideSk _ | (unfold Room; constructor <;> ((try simp) <;> omega)) | exact ⟨rfl, by simp only [List.length_map], by unfold Room; constructor <;> ((try simp) <;> omega)⟩ | exact ⟨by omega, by omega, by unfold Room; constructor <;> ((try simp) <;> omega)⟩); conv => whnf) | ((first | ((with_reducible refine XIx.nat ?_ ?_ ?_); omega; (intro _; rfl)) | ((with_reducible refine XIx.map ?_ ?_ ?_ ?_); omega; omega; (intro _; rfl))); conv => whnf) | (with_reducible apply XAnd.mk) | (exact XSame.mk rfl rfl) | (exact XSame.mk (by first | rfl | (simp only [List.map_append, List.length_append, List.length_map]; done) | (simp only [List.map_append, List.length_append, List.length_map]; rfl)) (by first | rfl | (simp only [List.map_append]; done) | (simp only [List.map_append]; rfl))) | (with_reducible exact trivial) | ((first | (with_reducible refine xdrop_app (by rw [List.length_map]; omega) ?_) | (with_reducible refine XDrop.desk (by assumption) ?_) | (with_reducible first | refine XArr.ints (by omega) (by omega) (by omega) ?_ | refine XArr.intsA (by omega) (by omega) (by omega) ?_) | ((with_reducible first | refine XArr.nats ?_ ?_ ?_ | refine XArr.natsA ?_ ?_ ?_ | refine XArr.ptr ?_ ?_ ?_); omega; omega)); conv => whnf) | ((with_reducible apply XBr.mk') <;> (intro h; conv => whnf))
      exact h5
  · have hc : cartsF d set (f - 1 + 1) rest = (if rest = 0 then [] else cartsF d set (f - 1) (diff ((rest - 1) &&& set) (lowb set))) := by
      rw [cartsF_succ, if_neg (by simp [*])]; rfl
    rw [hc] at h3
    rename_i h0
    rw [if_pos (by omega)] at h3; exact h3
  · have hc : cartsF d set (f - 1 + 1) rest = (if rest = 0 then [] else cartsF d set (f - 1) (diff ((rest - 1) &&& set) (lowb set))) := by
      rw [cartsF_succ, if_neg (by simp [*])]; rfl
    rw [hc] at h3
    rename_i h0
    rw [if_neg (by omega)] at h3
    refine XAgain.go (diff ((rest - 1) &&& set) (lowb set), f - 1, H') ⟨by dsimp only; omega, by dsimp only; omega, h3⟩ (by dsimp only; omega) rfl ⟨rfl, rfl, rfl, rfl, ?_, trivial⟩
    exact congrArg (fun n => some (AV.int .i64 n)) (e5 (by omega))
end GA
end

section
namespace GA
open Go Go.RowKit
set_option linter.unusedVariables false

mutual
def AV.ren (ρ : Nat → Nat) : AV → AV
  | .ptr i o => .ptr (ρ i) o
  | .gr i n => .gr (ρ i) n
  | .gp i n e o => .gp (ρ i) n e o
  | .os i m o n => .os (ρ i) m o n
  | .mp i => .mp (ρ i)
  | .yld i => .yld (ρ i)
  | .pim cs => .pim (renL ρ cs)
  | .sl nl cs => .sl nl (renL ρ cs)
  | .fn f cs => .fn f (renL ρ cs)
  | .bf f cs => .bf f (renL ρ cs)
  | .agg cs => .agg (renL ρ cs)
  | .tup cs => .tup (renL ρ cs)
  | .bool b => .bool b
  | .int k n => .int k n
  | .nilp => .nilp
  | .se => .se
  | .nilm => .nilm
  | .nilf => .nilf
def renL (ρ : Nat → Nat) : List AV → List AV
  | [] => []
  | x :: l => x.ren ρ :: renL ρ l
end
theorem renL_eq (ρ : Nat → Nat) : ∀ l : List AV, renL ρ l = l.map (AV.ren ρ)
  | [] => rfl
  | x :: l => by rw [renL, renL_eq ρ l]; rfl
def Blk.ren (ρ : Nat → Nat) : Blk → Blk
  | .dead => .dead
  | .free => .free
  | .cells cs => .cells (renL ρ cs)
  | .grow t nl els => .grow t nl (renL ρ els)
  | .map es => .map (es.map fun p => (p.1, p.2.ren ρ))
  | .raw o => .raw o
  | .lp st pend f tm ps x y n => .lp st pend f (tm.map fun p => (p.1, p.2.ren ρ)) ps x y n

theorem AV.ren_one (ρ : Nat → Nat) (a : AV) : (a.ren ρ).one = a.one := by cases a <;> rfl
theorem AV.ren_cells (ρ : Nat → Nat) (a : AV) : (a.ren ρ).cells = a.cells.map (AV.ren ρ) := by
  cases a <;> first | rfl | (simp only [AV.ren, AV.cells, renL_eq]; rfl) | simp only [AV.ren, AV.cells, renL_eq]
theorem flat_ren (ρ : Nat → Nat) (l : List AV) : flat (l.map (AV.ren ρ)) = (flat l).map (AV.ren ρ) := by
  induction l with
  | nil => rfl
  | cons x l ih =>
    simp only [flat, List.map_cons, List.flatMap_cons, List.map_append] at ih ⊢
    rw [ih, AV.ren_cells]
theorem Blk.ren_free (ρ : Nat → Nat) (x : Blk) : (x.ren ρ).isFree = x.isFree := by cases x <;> rfl
theorem Blk.ren_rec (ρ : Nat → Nat) (x : Blk) : (x.ren ρ).isRec = x.isRec := by cases x <;> rfl

theorem AV.ren_low {ρ : Nat → Nat} {n : Nat} (h : ∀ i, i < n → ρ i = i) : ∀ {a : AV}, a.low n = true → a.ren ρ = a := by
  intro a
  refine AV.rec (motive_1 := fun a => a.low n = true → a.ren ρ = a) (motive_2 := fun l => lowL n l = true → renL ρ l = l) ?_ ?_ ?_ ?_ ?_ ?_ ?_ ?_ ?_ ?_ ?_ ?_ ?_ ?_ ?_ ?_ ?_ ?_ ?_ ?_ a
  all_goals try (intros; rfl)
  · intro i o hl; simp only [AV.low, decide_eq_true_eq] at hl; rw [AV.ren, h i hl]
  · intro cs ih hl; rw [AV.ren, ih hl]
  · intro nl cs ih hl; rw [AV.ren, ih hl]
  · intro i o hl; simp only [AV.low, decide_eq_true_eq] at hl; rw [AV.ren, h i hl]
  · intro i o e f hl; simp only [AV.low, decide_eq_true_eq] at hl; rw [AV.ren, h i hl]
  · intro i hl; simp only [AV.low, decide_eq_true_eq] at hl; rw [AV.ren, h i hl]
  · intro f cs ih hl; rw [AV.ren, ih hl]
  · intro f cs ih hl; rw [AV.ren, ih hl]
  · intro i m o n hl; simp only [AV.low, decide_eq_true_eq] at hl; rw [AV.ren, h i hl]
  · intro i hl; simp only [AV.low, decide_eq_true_eq] at hl; rw [AV.ren, h i hl]
  · intro cs ih hl; rw [AV.ren, ih hl]
  · intro cs ih hl; rw [AV.ren, ih hl]
  · intro x l ih1 ih2 hl; simp only [lowL, Bool.and_eq_true] at hl; rw [renL, ih1 hl.1, ih2 hl.2]
theorem renL_low {ρ : Nat → Nat} {n : Nat} (h : ∀ i, i < n → ρ i = i) {l : List AV} (hl : lowL n l = true) : renL ρ l = l := by
  have := AV.ren_low h (a := .agg l) hl
  simpa [AV.ren] using this
theorem AV.ren_low0 {ρ : Nat → Nat} {a : AV} (hl : a.low 0 = true) : a.ren ρ = a := AV.ren_low (n := 0) (fun i hi => by omega) hl
theorem renL_low0 {ρ : Nat → Nat} {l : List AV} (hl : lowL 0 l = true) : renL ρ l = l := renL_low (n := 0) (fun i hi => by omega) hl

structure Ren (ρ : Nat → Nat) (β1 : Nat → Value) (H1 : List Blk) (β : Nat → Value) (H : List Blk) : Prop where
  m : ∀ (i : Nat) x1, H1[i]? = some x1 → H[ρ i]? = some (x1.ren ρ)
  b : ∀ i, i < H1.length → β (ρ i) = β1 i

section
variable {P : Program} {E : Env} {h : Nat → Option Obj} {β β1 : Nat → Value} {H H1 : List Blk} {w : World} {ρ : Nat → Nat}

theorem Ren.live (R : Ren ρ β1 H1 β H) {i : Nat} (l : live H1 i) : live H (ρ i) := let ⟨x, h1, h2⟩ := l; ⟨x.ren ρ, R.m i x h1, by rw [Blk.ren_free]; exact h2⟩
theorem Ren.unlive (R : Ren ρ β1 H1 β H) {i : Nat} (l : GA.live H (ρ i)) (hi : i < H1.length) : GA.live H1 i := by
  obtain ⟨x, h1, h2⟩ := l
  have h3 := R.m i _ (List.getElem?_eq_getElem hi)
  rw [h3] at h1; cases h1
  exact ⟨_, List.getElem?_eq_getElem hi, by rw [Blk.ren_free] at h2; exact h2⟩

theorem Ren.rep (R : Ren ρ β1 H1 β H) {a : AV} {v : Value} (x : Rep P h β1 H1 a v) : Rep P h β H (a.ren ρ) v := by
  induction x with
  | bool b => exact .bool b
  | int k n => exact .int k n
  | nilp => exact .nilp
  | @ptr i o b hi hb =>
    refine .ptr (R.live hi) fun cs e => ?_
    obtain ⟨x, hx, hf⟩ := hi
    rw [R.m i x hx] at e; rw [R.b i (List.getElem?_eq_some_iff.1 hx).1]
    cases x <;> simp only [Blk.ren, Option.some.injEq, reduceCtorEq] at e
    exact hb _ hx
  | pim us hone hb hc _ ih =>
    rw [AV.ren, renL_eq]
    refine .pim us (fun x hx => ?_) hb (fun j x e => ?_) (fun j x e => ?_)
    · obtain ⟨y, hy, rfl⟩ := List.mem_map.1 hx; rw [AV.ren_one]; exact hone y hy
    · rw [List.getElem?_map] at e; cases hq : ‹List AV›[j]? with | none => simp [hq] at e | some y => exact hc j y hq
    · rw [List.getElem?_map] at e
      cases hq : ‹List AV›[j]? with
      | none => simp [hq] at e
      | some y => simp only [hq, Option.map_some, Option.some.injEq] at e; subst e; exact ih j y hq
  | slnil => exact .slnil
  | slemp => exact .slemp
  | @sl b off cap c t fz els w n us hn hne hb hw hw0 hone hcap hc _ ih =>
    rw [AV.ren, renL_eq]
    refine .sl (w := w) us (by rw [List.length_map]; exact hn) (by simpa using hne) hb (fun e he => ?_) hw0 (fun x hx => ?_) (by rw [List.length_map]; exact hcap) (fun j x e => ?_) (fun j x e => ?_)
    · obtain ⟨y, hy, rfl⟩ := List.mem_map.1 he; rw [AV.ren_cells, List.length_map]; exact hw y hy
    · rw [flat_ren] at hx; obtain ⟨y, hy, rfl⟩ := List.mem_map.1 hx; rw [AV.ren_one]; exact hone y hy
    · rw [flat_ren, List.getElem?_map] at e; cases hq : (flat els)[j]? with | none => simp [hq] at e | some y => exact hc j y hq
    · rw [flat_ren, List.getElem?_map] at e
      cases hq : (flat els)[j]? with
      | none => simp [hq] at e
      | some y => simp only [hq, Option.map_some, Option.some.injEq] at e; subst e; exact ih j y hq
  | se => exact .se
  | @gr i n v ho hi hv =>
    refine .gr ho (R.live hi) fun t nl els e => ?_
    obtain ⟨x, hx, hf⟩ := hi
    rw [R.m i x hx] at e; rw [R.b i (List.getElem?_eq_some_iff.1 hx).1]
    cases x <;> simp only [Blk.ren, Option.some.injEq, Blk.grow.injEq, reduceCtorEq] at e
    obtain ⟨rfl, rfl, rfl⟩ := e
    rw [renL_eq, List.length_map]; exact hv _ _ _ hx
  | @gp i n e o b q hi hv =>
    refine .gp (R.live hi) fun t nl els e => ?_
    obtain ⟨x, hx, hf⟩ := hi
    rw [R.m i x hx] at e; rw [R.b i (List.getElem?_eq_some_iff.1 hx).1]
    cases x <;> simp only [Blk.ren, Option.some.injEq, Blk.grow.injEq, reduceCtorEq] at e
    obtain ⟨rfl, rfl, rfl⟩ := e
    rw [renL_eq, List.length_map]; exact hv _ _ _ hx
  | nilm => exact .nilm
  | @mp i r hi hb =>
    refine .mp (R.live hi) fun es e => ?_
    obtain ⟨x, hx, hf⟩ := hi
    rw [R.m i x hx] at e; rw [R.b i (List.getElem?_eq_some_iff.1 hx).1]
    cases x <;> simp only [Blk.ren, Option.some.injEq, reduceCtorEq] at e
    exact hb _ hx
  | nilf => exact .nilf
  | @yld i b hi hb =>
    refine .yld (R.live hi) fun y e hy => ?_
    obtain ⟨x, hx, hf⟩ := hi
    rw [R.m i x hx] at e; rw [R.b i (List.getElem?_eq_some_iff.1 hx).1]
    cases e
    rw [Blk.ren_rec] at hy
    exact hb _ hx hy
  | @fn f caps vs us hs hc _ ih =>
    rw [AV.ren, renL_eq]
    refine .fn us (by rw [List.length_map]; exact hs) (fun j x e => ?_) (fun j x e => ?_)
    · rw [List.getElem?_map] at e; cases hq : caps[j]? with | none => simp [hq] at e | some y => exact hc j y hq
    · rw [List.getElem?_map] at e
      cases hq : caps[j]? with
      | none => simp [hq] at e
      | some y => simp only [hq, Option.map_some, Option.some.injEq] at e; subst e; exact ih j y hq
  | @bf f caps vs us hs hc _ ih =>
    rw [AV.ren, renL_eq]
    refine .bf us (by rw [List.length_map]; exact hs) (fun j x e => ?_) (fun j x e => ?_)
    · rw [List.getElem?_map] at e; cases hq : caps[j]? with | none => simp [hq] at e | some y => exact hc j y hq
    · rw [List.getElem?_map] at e
      cases hq : caps[j]? with
      | none => simp [hq] at e
      | some y => simp only [hq, Option.map_some, Option.some.injEq] at e; subst e; exact ih j y hq
  | @os i m o n b q cap hi hn hc hg =>
    obtain ⟨x, hx, hf⟩ := id hi
    refine .os (R.live hi) hn (fun cs e hne => ?_) fun t nl els e => ?_
    · rw [R.m i x hx] at e; rw [R.b i (List.getElem?_eq_some_iff.1 hx).1]
      cases x <;> simp only [Blk.ren, Option.some.injEq, reduceCtorEq] at e
      exact hc _ hx hne
    · rw [R.m i x hx] at e; rw [R.b i (List.getElem?_eq_some_iff.1 hx).1]
      cases x <;> simp only [Blk.ren, Option.some.injEq, Blk.grow.injEq, reduceCtorEq] at e
      obtain ⟨rfl, rfl, rfl⟩ := e
      rw [renL_eq, List.length_map]; exact hg _ _ _ hx
  | @agg caps vs us hs hone hc _ ih =>
    rw [AV.ren, renL_eq]
    refine .agg us (by rw [List.length_map]; exact hs) (fun x hx => ?_) (fun j x e => ?_) (fun j x e => ?_)
    · obtain ⟨y, hy, rfl⟩ := List.mem_map.1 hx; rw [AV.ren_one]; exact hone y hy
    · rw [List.getElem?_map] at e; cases hq : caps[j]? with | none => simp [hq] at e | some y => exact hc j y hq
    · rw [List.getElem?_map] at e
      cases hq : caps[j]? with
      | none => simp [hq] at e
      | some y => simp only [hq, Option.map_some, Option.some.injEq] at e; subst e; exact ih j y hq
  | @tup caps vs us hs hc _ ih =>
    rw [AV.ren, renL_eq]
    refine .tup us (by rw [List.length_map]; exact hs) (fun j x e => ?_) (fun j x e => ?_)
    · rw [List.getElem?_map] at e; cases hq : caps[j]? with | none => simp [hq] at e | some y => exact hc j y hq
    · rw [List.getElem?_map] at e
      cases hq : caps[j]? with
      | none => simp [hq] at e
      | some y => simp only [hq, Option.map_some, Option.some.injEq] at e; subst e; exact ih j y hq

theorem lowL_get {n : Nat} {l : List AV} (hl : lowL n l = true) {j : Nat} {x : AV} (e : l[j]? = some x) : x.low n = true := lowL_iff.1 hl x (List.mem_of_getElem? e)
theorem map_get {l : List AV} {j : Nat} {x : AV} (e : l[j]? = some x) : (l.map (AV.ren ρ))[j]? = some (x.ren ρ) := by rw [List.getElem?_map, e]; rfl

theorem Ren.unrep (R : Ren ρ β1 H1 β H) {r : AV} {v : Value} (x : Rep P h β H r v) : ∀ {a : AV}, a.ren ρ = r → a.low H1.length = true → Rep P h β1 H1 a v := by
  induction x with
  | bool b => intro a e hl; cases a <;> simp only [AV.ren, AV.bool.injEq, reduceCtorEq] at e; subst e; exact .bool _
  | int k n => intro a e hl; cases a <;> simp only [AV.ren, AV.int.injEq, reduceCtorEq] at e; obtain ⟨rfl, rfl⟩ := e; exact .int _ _
  | nilp => intro a e hl; cases a <;> simp only [AV.ren, reduceCtorEq] at e; exact .nilp
  | @ptr i o b hi hb =>
    intro a e hl; cases a <;> simp only [AV.ren, AV.ptr.injEq, reduceCtorEq] at e
    rename_i i0 o0
    obtain ⟨rfl, rfl⟩ := e
    simp only [AV.low, decide_eq_true_eq] at hl
    refine .ptr (R.unlive hi hl) fun cs e => ?_
    rw [← R.b i0 hl]; exact hb _ (R.m _ _ e)
  | @pim b off c t fz cs us hone hb hc _ ih =>
    intro a e hl; cases a <;> simp only [AV.ren, AV.pim.injEq, reduceCtorEq] at e
    rename_i cs0
    rw [renL_eq] at e; subst e
    refine .pim us (fun x hx => ?_) hb (fun j x e => ?_) (fun j x e => ?_)
    · rw [← AV.ren_one ρ]; exact hone _ (List.mem_map.2 ⟨x, hx, rfl⟩)
    · exact hc j _ (map_get e)
    · exact ih j _ (map_get e) rfl (lowL_get hl e)
  | slnil => intro a e hl; cases a <;> simp only [AV.ren, AV.sl.injEq, reduceCtorEq] at e; obtain ⟨rfl, e⟩ := e; rw [renL_eq, List.map_eq_nil_iff] at e; subst e; exact .slnil
  | slemp => intro a e hl; cases a <;> simp only [AV.ren, AV.sl.injEq, reduceCtorEq] at e; obtain ⟨rfl, e⟩ := e; rw [renL_eq, List.map_eq_nil_iff] at e; subst e; exact .slemp
  | @sl b off cap c t fz els w n us hn hne hb hw hw0 hone hcap hc _ ih =>
    intro a e hl; cases a <;> simp only [AV.ren, AV.sl.injEq, reduceCtorEq] at e
    rename_i nl cs0
    obtain ⟨rfl, e⟩ := e
    rw [renL_eq] at e; subst e
    rw [List.length_map] at hn hcap
    rw [flat_ren] at hone hc
    refine .sl (w := w) us hn (by simpa using hne) hb (fun e he => ?_) hw0 (fun x hx => ?_) hcap (fun j x e => hc j _ (map_get e)) (fun j x e => ?_)
    · have := hw _ (List.mem_map.2 ⟨e, he, rfl⟩); rwa [AV.ren_cells, List.length_map] at this
    · rw [← AV.ren_one ρ]; exact hone _ (List.mem_map.2 ⟨x, hx, rfl⟩)
    · exact ih j _ (by rw [flat_ren]; exact map_get e) rfl (low_flat.1 hl x (List.mem_of_getElem? e))
  | se => intro a e hl; cases a <;> simp only [AV.ren, reduceCtorEq] at e; exact .se
  | @gr i n v ho hi hv =>
    intro a e hl; cases a <;> simp only [AV.ren, AV.gr.injEq, reduceCtorEq] at e
    rename_i i0 o0
    obtain ⟨rfl, rfl⟩ := e
    simp only [AV.low, decide_eq_true_eq] at hl
    refine .gr ho (R.unlive hi hl) fun t nl els e => ?_
    rw [← R.b i0 hl]; have := hv _ _ _ (R.m _ _ e); rwa [renL_eq, List.length_map] at this
  | @gp i n e o b q hi hv =>
    intro a e hl; cases a <;> simp only [AV.ren, AV.gp.injEq, reduceCtorEq] at e
    rename_i i0 n0 e0 o0
    obtain ⟨rfl, rfl, rfl, rfl⟩ := e
    simp only [AV.low, decide_eq_true_eq] at hl
    refine .gp (R.unlive hi hl) fun t nl els e => ?_
    rw [← R.b i0 hl]; have := hv _ _ _ (R.m _ _ e); rwa [renL_eq, List.length_map] at this
  | nilm => intro a e hl; cases a <;> simp only [AV.ren, reduceCtorEq] at e; exact .nilm
  | @mp i r hi hb =>
    intro a e hl; cases a <;> simp only [AV.ren, AV.mp.injEq, reduceCtorEq] at e
    subst e
    simp only [AV.low, decide_eq_true_eq] at hl
    refine .mp (R.unlive hi hl) fun cs e => ?_
    rw [← R.b _ hl]; exact hb _ (R.m _ _ e)
  | nilf => intro a e hl; cases a <;> simp only [AV.ren, reduceCtorEq] at e; exact .nilf
  | @yld i b hi hb =>
    intro a e hl; cases a <;> simp only [AV.ren, AV.yld.injEq, reduceCtorEq] at e
    subst e
    simp only [AV.low, decide_eq_true_eq] at hl
    refine .yld (R.unlive hi hl) fun x e hx => ?_
    rw [← R.b _ hl]; exact hb _ (R.m _ _ e) (by rw [Blk.ren_rec]; exact hx)
  | @fn f caps vs us hs hc _ ih =>
    intro a e hl; cases a <;> simp only [AV.ren, AV.fn.injEq, reduceCtorEq] at e
    rename_i f0 cs0
    obtain ⟨rfl, e⟩ := e
    rw [renL_eq] at e; subst e
    exact .fn us (by rw [hs, List.length_map]) (fun j x e => hc j _ (map_get e)) (fun j x e => ih j _ (map_get e) rfl (lowL_get hl e))
  | @bf f caps vs us hs hc _ ih =>
    intro a e hl; cases a <;> simp only [AV.ren, AV.bf.injEq, reduceCtorEq] at e
    rename_i f0 cs0
    obtain ⟨rfl, e⟩ := e
    rw [renL_eq] at e; subst e
    exact .bf us (by rw [hs, List.length_map]) (fun j x e => hc j _ (map_get e)) (fun j x e => ih j _ (map_get e) rfl (lowL_get hl e))
  | @os i m o n b q cap hi hn hc hg =>
    intro a e hl; cases a <;> simp only [AV.ren, AV.os.injEq, reduceCtorEq] at e
    rename_i i0 m0 o0 n0
    obtain ⟨rfl, rfl, rfl, rfl⟩ := e
    simp only [AV.low, decide_eq_true_eq] at hl
    refine .os (R.unlive hi hl) hn (fun cs e hne => ?_) fun t nl els e => ?_
    · rw [← R.b i0 hl]; exact hc _ (R.m _ _ e) hne
    · rw [← R.b i0 hl]; have := hg _ _ _ (R.m _ _ e); rwa [renL_eq, List.length_map] at this
  | @agg caps vs us hs hone hc _ ih =>
    intro a e hl; cases a <;> simp only [AV.ren, AV.agg.injEq, reduceCtorEq] at e
    rename_i cs0
    rw [renL_eq] at e; subst e
    exact .agg us (by rw [hs, List.length_map]) (fun x hx => by rw [← AV.ren_one ρ]; exact hone _ (List.mem_map.2 ⟨x, hx, rfl⟩)) (fun j x e => hc j _ (map_get e)) (fun j x e => ih j _ (map_get e) rfl (lowL_get hl e))
  | @tup caps vs us hs hc _ ih =>
    intro a e hl; cases a <;> simp only [AV.ren, AV.tup.injEq, reduceCtorEq] at e
    rename_i cs0
    rw [renL_eq] at e; subst e
    exact .tup us (by rw [hs, List.length_map]) (fun j x e => hc j _ (map_get e)) (fun j x e => ih j _ (map_get e) rfl (lowL_get hl e))

theorem Ren.cells (R : Ren ρ β1 H1 β H) {cs : List AV} {c : Array Value} (k : CellsOk P h β1 H1 cs c) : CellsOk P h β H (cs.map (AV.ren ρ)) c := by
  obtain ⟨us, a, b⟩ := k
  refine ⟨us, fun j x e => ?_, fun j x e => ?_⟩ <;> (rw [List.getElem?_map] at e; cases hq : cs[j]? with | none => simp [hq] at e | some y => ?_)
  · exact a j y hq
  · simp only [hq, Option.map_some, Option.some.injEq] at e; subst e; exact R.rep (b j y hq)
theorem Ren.uncells (R : Ren ρ β1 H1 β H) {cs : List AV} {c : Array Value} (hl : lowL H1.length cs = true) (k : CellsOk P h β H (cs.map (AV.ren ρ)) c) : CellsOk P h β1 H1 cs c := by
  obtain ⟨us, a, b⟩ := k
  exact ⟨us, fun j x e => a j _ (map_get e), fun j x e => R.unrep (b j _ (map_get e)) rfl (lowL_get hl e)⟩

theorem Ren.blk (R : Ren ρ β1 H1 β H) {heap : Array Obj} {i : Nat} (hi : i < H1.length) {x : Blk} (k : BlkOk P h β1 H1 heap i x) : BlkOk P h β H heap (ρ i) (x.ren ρ) := by
  have hb := R.b i hi
  cases x with
  | dead => trivial
  | free => trivial
  | cells cs =>
    obtain ⟨b, c, t, h1, h2, h3, h4, h5⟩ := k
    rw [Blk.ren, renL_eq]
    refine ⟨b, c, t, hb.trans h1, h2, by rw [h3, List.length_map], fun x hx => ?_, R.cells h5⟩
    obtain ⟨y, hy, rfl⟩ := List.mem_map.1 hx; rw [AV.ren_one]; exact h4 y hy
  | grow t nl els =>
    rw [Blk.ren, renL_eq]
    rcases k with ⟨h1, h2, h3⟩ | ⟨h1, h2, a, h3⟩ | ⟨h1, b, cap, c, h2, h3, h4, h5, h6, h7, h8, h9, h10, h11⟩
    · exact .inl ⟨h1, by rw [h2]; rfl, hb.trans h3⟩
    · exact .inr (.inl ⟨h1, by rw [h2]; rfl, a, hb.trans h3⟩)
    · refine .inr (.inr ⟨h1, b, cap, c, by rw [hb, h2, List.length_map], h3, h4, by rw [List.length_map]; exact h5, h6, h7, h8, fun e he => ?_, fun x hx => ?_, by rw [flat_ren]; exact R.cells h11⟩)
      · obtain ⟨y, hy, rfl⟩ := List.mem_map.1 he; rw [AV.ren_cells, List.length_map]; exact h9 y hy
      · rw [flat_ren] at hx; obtain ⟨y, hy, rfl⟩ := List.mem_map.1 hx; rw [AV.ren_one]; exact h10 y hy
  | map es =>
    obtain ⟨r, ents, clock, h1, h2, h3, h4, us, h5⟩ := k
    refine ⟨r, ents, clock, hb.trans h1, h2, ?_, by rw [h4, List.length_map], us, fun j q x e => ?_⟩
    · rw [List.map_map]; exact h3
    · rw [List.getElem?_map] at e
      cases hq : es[j]? with
      | none => simp [hq] at e
      | some y =>
        obtain ⟨a, b⟩ := y
        simp only [hq, Option.map_some, Option.some.injEq, Prod.mk.injEq] at e
        obtain ⟨rfl, rfl⟩ := e
        obtain ⟨h6, h7⟩ := h5 j _ _ hq
        exact ⟨R.rep h6, h7⟩
  | raw o => obtain ⟨b, h1, h2⟩ := k; exact ⟨b, hb.trans h1, h2⟩
  | lp st pend f tm ps x y n =>
    obtain ⟨b, dfr, tmps, h1, h2, h3, h4⟩ := k
    refine ⟨b, dfr, tmps, hb.trans h1, h2, h3, fun t r e => ?_⟩
    obtain ⟨⟨t', r'⟩, hm, he⟩ := List.mem_map.1 e
    simp only [Prod.mk.injEq] at he; obtain ⟨rfl, rfl⟩ := he
    obtain ⟨v, h5, h6⟩ := h4 _ _ hm
    exact ⟨v, h5, R.rep h6⟩

theorem Ren.unblk (R : Ren ρ β1 H1 β H) {heap : Array Obj} {i : Nat} (hi : i < H1.length) {x : Blk} (hl : x.low H1.length = true) (k : BlkOk P h β H heap (ρ i) (x.ren ρ)) : BlkOk P h β1 H1 heap i x := by
  have hb := R.b i hi
  cases x with
  | dead => trivial
  | free => trivial
  | cells cs =>
    rw [Blk.ren, renL_eq] at k
    obtain ⟨b, c, t, h1, h2, h3, h4, h5⟩ := k
    exact ⟨b, c, t, hb.symm.trans h1, h2, by rw [h3, List.length_map], fun x hx => by rw [← AV.ren_one ρ]; exact h4 _ (List.mem_map.2 ⟨x, hx, rfl⟩), R.uncells hl h5⟩
  | grow t nl els =>
    rw [Blk.ren, renL_eq] at k
    rcases k with ⟨h1, h2, h3⟩ | ⟨h1, h2, a, h3⟩ | ⟨h1, b, cap, c, h2, h3, h4, h5, h6, h7, h8, h9, h10, h11⟩
    · exact .inl ⟨h1, List.map_eq_nil_iff.1 h2, hb.symm.trans h3⟩
    · exact .inr (.inl ⟨h1, List.map_eq_nil_iff.1 h2, a, hb.symm.trans h3⟩)
    · rw [List.length_map] at h2 h5
      rw [flat_ren] at h10 h11
      refine .inr (.inr ⟨h1, b, cap, c, hb.symm.trans h2, h3, h4, h5, h6, h7, h8, fun e he => ?_, fun x hx => ?_, R.uncells ?_ h11⟩)
      · have := h9 _ (List.mem_map.2 ⟨e, he, rfl⟩); rwa [AV.ren_cells, List.length_map] at this
      · rw [← AV.ren_one ρ]; exact h10 _ (List.mem_map.2 ⟨x, hx, rfl⟩)
      · exact lowL_iff.2 (low_flat.1 hl)
  | map es =>
    obtain ⟨r, ents, clock, h1, h2, h3, h4, us, h5⟩ := k
    refine ⟨r, ents, clock, hb.symm.trans h1, h2, ?_, by rw [h4, List.length_map], us, fun j q x e => ?_⟩
    · rw [List.map_map] at h3; exact h3
    · obtain ⟨h6, h7⟩ := h5 j q (x.ren ρ) (by rw [List.getElem?_map, e]; rfl)
      refine ⟨R.unrep h6 rfl ?_, h7⟩
      exact lowL_iff.1 hl x (List.mem_map.2 ⟨(q, x), List.mem_of_getElem? e, rfl⟩)
  | raw o => obtain ⟨b, h1, h2⟩ := k; exact ⟨b, hb.symm.trans h1, h2⟩
  | lp st pend f tm ps x y n =>
    obtain ⟨b, dfr, tmps, h1, h2, h3, h4⟩ := k
    refine ⟨b, dfr, tmps, hb.symm.trans h1, h2, h3, fun t r e => ?_⟩
    obtain ⟨v, h5, h6⟩ := h4 t (r.ren ρ) (List.mem_map.2 ⟨(t, r), e, rfl⟩)
    exact ⟨v, h5, R.unrep h6 rfl (lowL_iff.1 hl r (List.mem_map.2 ⟨(t, r), e, rfl⟩))⟩

theorem Ren.blkOf (R : Ren ρ β1 H1 β H) {i : Nat} (hi : i < H1.length) : GA.blkOf β H (ρ i) = GA.blkOf β1 H1 i := by
  have h1 := R.m i _ (List.getElem?_eq_getElem hi)
  unfold GA.blkOf
  rw [h1, List.getElem?_eq_getElem hi, R.b i hi]
  generalize H1[i] = x
  cases x <;> rfl
theorem Ren.to {x x' : Blk} {β' β1' : Nat → Value} {i : Nat} (h1 : β (ρ i) = β1 i) (h2 : β' (ρ i) = β1' i) (k : x.to β1 β1' i x') : (x.ren ρ).to β β' (ρ i) (x'.ren ρ) := by
  cases x with
  | dead => simp only [Blk.to] at k; subst k; rfl
  | free => trivial
  | cells cs =>
    rcases k with rfl | ⟨cs', rfl, hb⟩
    · exact .inl rfl
    · exact .inr ⟨_, rfl, by rw [h1, h2]; exact hb⟩
  | grow t nl els =>
    rcases k with rfl | ⟨nl', els', rfl, hl, hb⟩
    · exact .inl rfl
    · exact .inr ⟨_, _, rfl, by simp only [renL_eq, List.length_map]; exact hl, fun e => by rw [h1, h2]; simp only [renL_eq, List.length_map] at e; exact hb e⟩
  | map es =>
    rcases k with rfl | ⟨cs', rfl, hb⟩
    · exact .inl rfl
    · exact .inr ⟨_, rfl, by rw [h1, h2]; exact hb⟩
  | raw o =>
    rcases k with rfl | ⟨cs', rfl, hb⟩
    · exact .inl rfl
    · exact .inr ⟨_, rfl, by rw [h1, h2]; exact hb⟩
  | lp st pend f tm ps x y n =>
    rcases k with rfl | ⟨st', pend', rfl, hb⟩
    · exact .inl rfl
    · exact .inr ⟨_, _, rfl, by rw [h1, h2]; exact hb⟩

theorem Ren.sr (R : Ren ρ β1 H1 β H) (s : SR P E h β H w) (inj : ∀ i j, i < H1.length → j < H1.length → ρ i = ρ j → i = j) (lo : ∀ x ∈ H1, x.low H1.length = true) : SR P E h β1 H1 w := by
  have hlt : ∀ {i x}, GA.blkOf β1 H1 i = some x → i < H1.length := fun e => (blkOf_some e).1
  refine ⟨s.env, s.imm, fun i x e => ?_, fun i j x e1 e2 => ?_, fun i x e => ?_, s.frm, fun i x e => ?_⟩
  · have hi := (List.getElem?_eq_some_iff.1 e).1
    exact R.unblk hi (lo x (List.mem_of_getElem? e)) (s.blk _ _ (R.m i x e))
  · exact inj i j (hlt e1) (hlt e2) (s.own _ _ x (by rw [R.blkOf (hlt e1)]; exact e1) (by rw [R.blkOf (hlt e2)]; exact e2))
  · exact s.fresh (ρ i) x (by rw [R.blkOf (hlt e)]; exact e)
  · exact s.fro (ρ i) x (by rw [R.blkOf (hlt e)]; exact e)

noncomputable def othE (E : Env) (β : Nat → Value) (H : List Blk) (w : World) (im : Nat → Prop) : Env := by
  classical exact ⟨E.b, fun b => if ∃ j, ¬ im j ∧ GA.blkOf β H j = some b then w.heap[b]? else E.fr b, E.en⟩
theorem othE_hit {im : Nat → Prop} {b j : Nat} (hj : ¬ im j) (hb : GA.blkOf β H j = some b) : (othE E β H w im).fr b = w.heap[b]? := by
  simp only [othE]; rw [if_pos ⟨j, hj, hb⟩]
theorem othE_miss {im : Nat → Prop} {b : Nat} (hn : ∀ j, ¬ im j → GA.blkOf β H j ≠ some b) : (othE E β H w im).fr b = E.fr b := by
  simp only [othE]; rw [if_neg (fun ⟨j, h1, h2⟩ => hn j h1 h2)]

theorem Ren.srE (R : Ren ρ β1 H1 β H) (s : SR P E h β H w) (inj : ∀ i j, i < H1.length → j < H1.length → ρ i = ρ j → i = j) (lo : ∀ x ∈ H1, x.low H1.length = true) :
    SR P (othE E β H w fun j => ∃ i, i < H1.length ∧ ρ i = j) h β1 H1 w := by
  have s1 := R.sr s inj lo
  refine ⟨s1.env, s1.imm, s1.blk, s1.own, s1.fresh, fun b o e => ?_, fun i x e => ?_⟩
  · by_cases hh : ∃ j, ¬ (∃ i, i < H1.length ∧ ρ i = j) ∧ GA.blkOf β H j = some b
    · obtain ⟨j, h1, h2⟩ := hh
      rw [othE_hit h1 h2] at e
      exact ⟨e, s.fresh _ _ h2⟩
    · rw [othE_miss (fun j h1 h2 => hh ⟨j, h1, h2⟩)] at e; exact s.frm b o e
  · have hi := (blkOf_some e).1
    have hb := R.blkOf hi
    rw [othE_miss]
    · exact s.fro (ρ i) x (by rw [hb]; exact e)
    · intro j h1 h2
      exact h1 ⟨i, hi, s.own _ _ x (by rw [hb]; exact e) h2⟩

theorem ACall.frame {f : FuncId} {rs1 : List AV} {k1 k : AV → List Blk → Prop} (x : ACall P f rs1 H1 k1)
    (inj : ∀ i j, i < H1.length → j < H1.length → ρ i = ρ j → i = j) (hm : ∀ (i : Nat) x1, H1[i]? = some x1 → H[ρ i]? = some (x1.ren ρ))
    (lo : ∀ x ∈ H1, x.low H1.length = true) (lor : lowL H1.length rs1 = true)
    (hk : ∀ r1 H1', k1 r1 H1' → H1'.length = H1.length ∧ ∃ H', H'.length = H.length ∧ (∀ (i : Nat) x1, H1'[i]? = some x1 → H'[ρ i]? = some (x1.ren ρ)) ∧ (∀ j, (∀ i, i < H1.length → ρ i ≠ j) → H'[j]? = H[j]?) ∧ k (r1.ren ρ) H') :
    ACall P f (rs1.map (AV.ren ρ)) H k := by
  refine ⟨x.1, fun E h β w vs s hr => ?_⟩
  have R : Ren ρ (fun i => β (ρ i)) H1 β H := ⟨hm, fun _ _ => rfl⟩
  have s1 := R.srE s inj lo
  have hr1 : RepL P h (fun i => β (ρ i)) H1 rs1 vs := ⟨by rw [hr.1, List.length_map], fun j r e => by
    obtain ⟨v, h1, h2⟩ := hr.2 j _ (map_get e)
    exact ⟨v, h1, R.unrep h2 rfl (lowL_get lor e)⟩⟩
  refine (x.2 _ h _ w vs s1 hr1).mono ?_
  rintro e w' ⟨r1, H1', h', β1', v, rfl, q, X, s', hv⟩
  obtain ⟨hlen, H', hlen', hm', ho, hk'⟩ := hk r1 H1' q
  classical
  let β' : Nat → Value := fun j => if hj : ∃ i, i < H1.length ∧ ρ i = j then β1' (Classical.choose hj) else β j
  have hβ1 : ∀ i, i < H1.length → β' (ρ i) = β1' i := by
    intro i hi
    have hj : ∃ i', i' < H1.length ∧ ρ i' = ρ i := ⟨i, hi, rfl⟩
    simp only [β', dif_pos hj]
    rw [inj _ _ (Classical.choose_spec hj).1 hi (Classical.choose_spec hj).2]
  have hβ2 : ∀ j, (∀ i, i < H1.length → ρ i ≠ j) → β' j = β j := by
    intro j hj
    have hn : ¬ ∃ i, i < H1.length ∧ ρ i = j := fun ⟨i, h1, h2⟩ => hj i h1 h2
    simp only [β', dif_neg hn]
  have R' : Ren ρ β1' H1' β' H' := ⟨hm', fun i hi => hβ1 i (by omega)⟩
  have im : ∀ j, (∃ i, i < H1.length ∧ ρ i = j) ∨ ∀ i, i < H1.length → ρ i ≠ j := by
    intro j
    by_cases hj : ∃ i, i < H1.length ∧ ρ i = j
    · exact .inl hj
    · exact .inr fun i hi e => hj ⟨i, hi, e⟩
  have X' : Ext h β H h' β' H' := by
    refine ⟨X.imm, by omega, fun j y y' e e' => ?_⟩
    rcases im j with ⟨i, hi, rfl⟩ | hj
    · have h1 : H1[i]? = some H1[i] := List.getElem?_eq_getElem hi
      have h2 : H1'[i]? = some (H1'[i]'(by omega)) := List.getElem?_eq_getElem (by omega)
      rw [hm i _ h1] at e; cases e
      rw [hm' i _ h2] at e'; cases e'
      exact Ren.to (β1 := fun i => β (ρ i)) rfl (hβ1 i hi) (X.to i _ _ h1 h2)
    · rw [ho j hj, e] at e'; cases e'
      have := Blk.to_refl β j y
      cases y with
      | dead => rfl
      | free => trivial
      | cells cs => exact .inr ⟨_, rfl, hβ2 j hj⟩
      | grow t nl els => exact .inr ⟨_, _, rfl, Nat.le_refl _, fun _ => hβ2 j hj⟩
      | map es => exact .inr ⟨_, rfl, hβ2 j hj⟩
      | raw o => exact .inr ⟨_, rfl, hβ2 j hj⟩
      | lp st pend f tm ps x y n => exact .inr ⟨_, _, rfl, hβ2 j hj⟩
  have hb1 : ∀ i, i < H1.length → GA.blkOf β' H' (ρ i) = GA.blkOf β1' H1' i := fun i hi => R'.blkOf (by omega)
  have hb2 : ∀ j, (∀ i, i < H1.length → ρ i ≠ j) → GA.blkOf β' H' j = GA.blkOf β H j := fun j hj => blkOf_congr (hβ2 j hj) (ho j hj)
  have hsome : ∀ j b, GA.blkOf β H j = some b → ∃ o, w.heap[b]? = some o := fun j b e => ⟨_, Array.getElem?_eq_getElem (s.lt e)⟩
  have hfr : ∀ j b o, (∀ i, i < H1.length → ρ i ≠ j) → GA.blkOf β H j = some b → w.heap[b]? = some o → w'.heap[b]? = some o ∧ h' b = none := by
    intro j b o hj e eo
    refine s'.frm b o ?_
    rw [othE_hit (j := j) (fun ⟨i, h1, h2⟩ => hj i h1 h2) e]; exact eo
  have hE : ∀ b o, E.fr b = some o → (othE E β H w fun j => ∃ i, i < H1.length ∧ ρ i = j).fr b = some o := by
    intro b o e
    rw [othE_miss]
    · exact e
    · intro j _ h2; rw [s.fro j b h2] at e; cases e
  refine ⟨r1.ren ρ, H', h', β', v, rfl, hk', X', ?_, R'.rep hv⟩
  refine ⟨s'.env, s'.imm, fun j y e => ?_, fun i j b e1 e2 => ?_, fun j b e => ?_, fun b o e => s'.frm b o (hE b o e), fun j b e => ?_⟩
  · rcases im j with ⟨i, hi, rfl⟩ | hj
    · have h2 : H1'[i]? = some (H1'[i]'(by omega)) := List.getElem?_eq_getElem (by omega)
      rw [hm' i _ h2] at e; cases e
      exact R'.blk (by omega) (s'.blk i _ h2)
    · rw [ho j hj] at e
      refine (s.blk j y e).keep X' (hβ2 j hj) fun hd hd' b hb => ?_
      have hbo : GA.blkOf β H j = some b := by unfold GA.blkOf; rw [e]; cases y <;> first | exact absurd rfl hd | exact absurd rfl hd' | exact hb
      obtain ⟨o, ho'⟩ := hsome j b hbo
      rw [ho', (hfr j b o hj hbo ho').1]
  · rcases im i with ⟨i0, hi, rfl⟩ | hi <;> rcases im j with ⟨j0, hj, rfl⟩ | hj
    · rw [hb1 i0 hi] at e1; rw [hb1 j0 hj] at e2
      rw [s'.own _ _ b e1 e2]
    · rw [hb1 i0 hi] at e1; rw [hb2 j hj] at e2
      obtain ⟨o, ho'⟩ := hsome j b e2
      have h3 := s'.fro _ _ e1
      rw [othE_hit (j := j) (fun ⟨i, h1, h2⟩ => hj i h1 h2) e2, ho'] at h3; cases h3
    · rw [hb2 i hi] at e1; rw [hb1 j0 hj] at e2
      obtain ⟨o, ho'⟩ := hsome i b e1
      have h3 := s'.fro _ _ e2
      rw [othE_hit (j := i) (fun ⟨i', h1, h2⟩ => hi i' h1 h2) e1, ho'] at h3; cases h3
    · rw [hb2 i hi] at e1; rw [hb2 j hj] at e2
      exact s.own _ _ b e1 e2
  · rcases im j with ⟨i, hi, rfl⟩ | hj
    · rw [hb1 i hi] at e; exact s'.fresh _ _ e
    · rw [hb2 j hj] at e
      obtain ⟨o, ho'⟩ := hsome j b e
      exact (hfr j b o hj e ho').2
  · rcases im j with ⟨i, hi, rfl⟩ | hj
    · rw [hb1 i hi] at e
      have h3 := s'.fro _ _ e
      cases hx : E.fr b with
      | none => rfl
      | some o => rw [hE b o hx] at h3; cases h3
    · rw [hb2 j hj] at e; exact s.fro _ _ e
end
end GA
end

section
namespace GA
open Go Go.RowKit
set_option linter.unusedVariables false

section
variable {P : Program} {T : Tab} {N : Nat} {ρ : Option Nat} {own : List Nat} {D : List Nat} {σ : St} {H : List Blk} {Q : Post} {E : Env} {h : Nat → Option Obj} {β : Nat → Value} {w : World}

structure RenS (f : Nat → Nat) (base : Nat) (H1 : List Blk) (σ1 : St) (H : List Blk) (σ : St) : Prop where
  inj : ∀ i j, i < H1.length → j < H1.length → f i = f j → i = j
  fix : ∀ i, i < base → f i = i
  len : base ≤ H1.length
  hm : ∀ (i : Nat) x1, H1[i]? = some x1 → H[f i]? = some (x1.ren f)
  lowb : ∀ (i : Nat) x1, i < base → H1[i]? = some x1 → x1.ren f = x1
  low : ∀ x ∈ H1, x.low H1.length = true
  st : ∀ t r, σ1 t = some r → σ t = some (r.ren f) ∧ r.low H1.length = true

theorem AWp.loopR {c : Code} {G : Type} (st : G → St) (hp : G → List Blk) (μ : G → Nat) (g0 : G) (hσ : ∀ t r, st g0 t = some r → σ t = some r) (hH : hp g0 = H) (hD : D = [])
    (round : ∀ g, AWp P N ρ c (thenQ (fun D' σ' H' => D' = D ∧ ∃ g' f, μ g' < μ g ∧ RenS f H.length (hp g') (st g') H' σ') Q) D (st g) (hp g)) : AWp P N ρ (.loop c) Q D σ H := by
  intro E h β a w s
  subst hH; subst hD
  let I : G → Act → World → Prop := fun g a w => ∃ h' β', Ext h β (hp g0) h' β' (hp g) ∧ Stands P E N h' β' [] (st g) (hp g) a w
  have least : ∀ a w, (∃ g, I g a w) → ∃ n, (∃ g, I g a w ∧ μ g = n) ∧ ∀ m, m < n → ¬ ∃ g, I g a w ∧ μ g = m :=
    fun a w ⟨g, hg⟩ => exists_least ⟨μ g, g, hg, rfl⟩
  classical
  let M : Act → World → Nat := fun a w => if e : ∃ g, I g a w then Classical.choose (least a w e) else 0
  have hM : ∀ a w (e : ∃ g, I g a w), (∃ g, I g a w ∧ μ g = M a w) ∧ ∀ g, I g a w → M a w ≤ μ g := by
    intro a w e
    have hc := Classical.choose_spec (least a w e)
    have hm : M a w = Classical.choose (least a w e) := by simp only [M, dif_pos e]
    rw [hm]
    refine ⟨hc.1, fun g hg => ?_⟩
    rcases Nat.lt_or_ge (μ g) (Classical.choose (least a w e)) with hlt | hge
    · exact absurd ⟨g, hg, rfl⟩ (hc.2 _ hlt)
    · exact hge
  refine wpIn_loop (fun a w => ∃ g, I g a w) M ⟨g0, h, β, Ext.refl _ _ _, s.sr, fun t r e => s.fits t r (hσ t r e), s.size, s.df⟩ ?_
  intro a' w' hI
  obtain ⟨⟨g, hg, hmu⟩, _⟩ := hM a' w' hI
  obtain ⟨h', β', X, s'⟩ := hg
  refine wpIn_mono (round g E h' β' a' w' s') ?_
  rintro e a'' w'' ⟨D'', σ'', H'', h'', β'', q, X', s''⟩
  cases e with
  | normal =>
    obtain ⟨rfl, g', f, hlt, r⟩ := q
    have R : Ren f (fun i => β'' (f i)) (hp g') β'' H'' := ⟨r.hm, fun _ _ => rfl⟩
    have hI' : I g' a'' w'' := by
      refine ⟨h'', fun i => β'' (f i), ⟨(X.trans X').imm, r.len, fun i x x' e e' => ?_⟩, R.sr s''.sr r.inj r.low, fun t r0 e => ?_, s''.size, s''.df.any⟩
      · have hi := (List.getElem?_eq_some_iff.1 e).1
        have h1 := r.hm i x' e'
        rw [r.fix i hi, r.lowb i x' hi e'] at h1
        have h2 := (X.trans X').to i x x' e h1
        cases x with
        | dead => exact h2
        | free => trivial
        | _ => simpa only [Blk.to, r.fix i hi] using h2
      · obtain ⟨h1, h2⟩ := r.st t r0 e
        obtain ⟨v, h3, h4⟩ := s''.fits t _ h1
        exact ⟨v, h3, R.unrep h4 rfl h2⟩
    refine ⟨⟨g', hI'⟩, ?_⟩
    have := (hM a'' w'' ⟨g', hI'⟩).2 g' hI'
    omega
  | _ => exact ⟨D'', σ'', H'', h'', β'', q, X.trans X', s''⟩

def rnF (l : List Nat) (i : Nat) : Nat := match lget l i with | some j => j | none => i
def XBlkR (f : Nat → Nat) (base : Nat) (x : Blk) (o : Option Blk) : Prop := (o = some x ∧ x.low base = true) ∨ o = some (x.ren f)
def XValR (f : Nat → Nat) (base : Nat) (x : AV) (o : Option AV) : Prop := (o = some x ∧ x.low base = true) ∨ o = some (x.ren f)
def BlksR (f : Nat → Nat) (base : Nat) (H : List Blk) : Nat → List Blk → Prop
  | _, [] => True
  | i, x :: l => XBlkR f base x (lget H (f i)) ∧ BlksR f base H (i + 1) l
def SubR (f : Nat → Nat) (base : Nat) (n : Nat) (σ : St) : List (Nat × AV) → Prop
  | [] => True
  | (t, r) :: l => (XValR f base r (σ t) ∧ r.low n = true) ∧ SubR f base n σ l
structure XAgainR {G : Type} (I : G → Prop) (L : G → List (Nat × AV)) (hp : G → List Blk) (μ : G → Nat) (base : Nat) (g : G) (D' : List Nat) (σ' : St) (H' : List Blk) : Prop where
  d : D' = []
  o : ∃ g' l, I g' ∧ μ g' < μ g ∧ (l.length = (hp g').length ∧ l.Nodup ∧ (∀ i, i < base → lget l i = some i) ∧ base ≤ l.length) ∧ (∀ x ∈ hp g', x.low (hp g').length = true) ∧ (∀ (i : Nat) x, i < base → lget (hp g') i = some x → x.low base = true) ∧
    BlksR (rnF l) base H' 0 (hp g') ∧ SubR (rnF l) base (hp g').length σ' (L g')

theorem mapS_low {f : Nat → Nat} {n : Nat} {α : Type} (h : ∀ i, i < n → f i = i) {es : List (α × AV)} (hl : lowL n (es.map (·.2)) = true) : (es.map fun p => (p.1, p.2.ren f)) = es := by
  have : ∀ p ∈ es, (fun p : α × AV => (p.1, p.2.ren f)) p = id p := fun p hp => by
    have := lowL_iff.1 hl p.2 (List.mem_map.2 ⟨p, hp, rfl⟩)
    simp only [id, AV.ren_low h this]
  rw [List.map_congr_left this, List.map_id]
theorem Blk.ren_low {f : Nat → Nat} {n : Nat} (h : ∀ i, i < n → f i = i) {x : Blk} (hl : x.low n = true) : x.ren f = x := by
  cases x with
  | cells cs => simp only [Blk.ren]; rw [renL_low h hl]
  | grow t nl els => simp only [Blk.ren]; rw [renL_low h hl]
  | map es => simp only [Blk.ren]; rw [mapS_low h hl]
  | lp st pend f tm ps x y n => simp only [Blk.ren]; rw [mapS_low h hl]
  | _ => rfl
theorem BlksR.get {f : Nat → Nat} {base : Nat} {H : List Blk} : ∀ {l : List Blk} {i : Nat}, BlksR f base H i l → ∀ (j : Nat) x, l[j]? = some x → XBlkR f base x (lget H (f (i + j)))
  | [], _, _, j, x, e => by simp at e
  | y :: l, i, h, 0, x, e => by simp at e; subst e; exact h.1
  | y :: l, i, h, j + 1, x, e => by
    have := BlksR.get h.2 j x (by simpa using e)
    rwa [Nat.add_right_comm] at this
theorem SubR.get {f : Nat → Nat} {base n : Nat} {σ : St} : ∀ {l : List (Nat × AV)}, SubR f base n σ l → ∀ t r, stX l t = some r → XValR f base r (σ t) ∧ r.low n = true
  | [], _, t, r, e => by cases e
  | (u, x) :: l, h, t, r, e => by
    simp only [stX, updX_eq, upd] at e
    split at e
    · rename_i hh; cases e; subst hh; exact h.1
    · exact SubR.get h.2 t r e
theorem Walk.loopR {c : Code} {G : Type} (ok : TabOk P T) (own : List Nat) (I : G → Prop) (L : G → List (Nat × AV)) (hp : G → List Blk) (μ : G → Nat) (g0 : G) (base : Nat) (h0 : I g0) (hH : hp g0 = H) (hb : base = H.length) (hs : SubX (L g0) σ)
    (round : ∀ g, I g → XRun P T N ρ own c (thenQ (XAgainR I L hp μ base g) Q) [] (stX (L g)) (hp g)) : Walk P N ρ (.loop c) Q [] σ H := by
  constructor
  refine AWp.loopR (G := {g : G // I g}) (fun g => stX (L g.1)) (fun g => hp g.1) (fun g => μ g.1) ⟨g0, h0⟩ (stX_sub hs) hH rfl fun g => ?_
  refine (XRun.sound ok (round g.1 g.2)).mono fun e D' σ' H' q => ?_
  cases e with
  | normal =>
    obtain ⟨h1, g', l, h2, h3, ⟨h4, h5, h6, h6'⟩, h7, h8, h9, h10⟩ := q
    have hfix : ∀ i, i < base → rnF l i = i := fun i hi => by unfold rnF; rw [h6 i hi]
    refine ⟨h1, ⟨g', h2⟩, rnF l, h3, ⟨fun i j hi hj e => ?_, by rw [← hb]; exact hfix, by rw [← hb, ← h4]; exact h6', fun i x e => ?_, fun i x hi e => ?_, h7, fun t r e => ?_⟩⟩
    · dsimp only at hi hj
      unfold rnF at e
      rw [lget_eq, lget_eq, List.getElem?_eq_getElem (by omega), List.getElem?_eq_getElem (by omega)] at e
      exact (List.getElem_inj h5).1 e
    · have := h9.get i x e
      rw [Nat.zero_add, lget_eq] at this
      rcases this with ⟨e1, e2⟩ | e1
      · rw [e1, Blk.ren_low hfix e2]
      · exact e1
    · rw [← hb] at hi
      exact Blk.ren_low hfix (h8 i x hi (by rw [lget_eq]; exact e))
    · obtain ⟨e0, e3⟩ := h10.get t r e
      refine ⟨?_, e3⟩
      rcases e0 with ⟨e1, e2⟩ | e1
      · rw [e1, AV.ren_low hfix e2]
      · exact e1
  | _ => exact q
theorem XAgainR.go {G : Type} {I : G → Prop} {L : G → List (Nat × AV)} {hp : G → List Blk} {μ : G → Nat} {base : Nat} {g : G} (g' : G) (l : List Nat) (h1 : I g') (h2 : μ g' < μ g) (h3 : l.length = (hp g').length ∧ l.Nodup ∧ (∀ i, i < base → lget l i = some i) ∧ base ≤ l.length)
    (h4 : ∀ x ∈ hp g', x.low (hp g').length = true) (h5 : ∀ (i : Nat) x, i < base → lget (hp g') i = some x → x.low base = true) (h6 : BlksR (rnF l) base H 0 (hp g')) (h7 : SubR (rnF l) base (hp g').length σ (L g')) : XAgainR I L hp μ base g [] σ H :=
  ⟨rfl, g', l, h1, h2, h3, h4, h5, h6, h7⟩

theorem opLoad_ex {t : TypeId} {p : AV} {k : AV → Prop} (x : opLoad P t H p k) : ∃ r, k r ∧ ∀ k' : AV → Prop, k' r → opLoad P t H p k' := by
  unfold opLoad at x
  obtain ⟨ti, h1, x⟩ := bnd_elim x
  obtain ⟨cs, h2, x⟩ := bnd_elim x
  split at x
  · rename_i e
    exact ⟨_, x.2, fun k' hk => by unfold opLoad; rw [h1, bnd_some, h2, bnd_some, if_pos e]; exact ⟨x.1, hk⟩⟩
  · rename_i e
    obtain ⟨c, h3, x⟩ := bnd_elim x
    exact ⟨c, x, fun k' hk => by unfold opLoad; rw [h1, bnd_some, h2, bnd_some, if_neg e, h3, bnd_some]; exact hk⟩
theorem resA_ex : ∀ {l : List ResultVar} {k : List AV → Prop}, resA P σ H l k → ∃ rs, k rs ∧ ∀ k' : List AV → Prop, k' rs → resA P σ H l k'
  | [], k, x => ⟨[], x, fun _ h => h⟩
  | .tmp t :: l, k, x => by
    obtain ⟨r, h1, x⟩ := bnd_elim x
    obtain ⟨rs, h2, h3⟩ := resA_ex x
    exact ⟨r :: rs, h2, fun k' h => by simp only [resA]; rw [h1, bnd_some]; exact h3 (fun rs => k' (r :: rs)) h⟩
  | .cell a t :: l, k, x => by
    obtain ⟨p, h1, x⟩ := bnd_elim x
    obtain ⟨r, x, h4⟩ := opLoad_ex x
    obtain ⟨rs, h2, h3⟩ := resA_ex x
    exact ⟨r :: rs, h2, fun k' h => by simp only [resA]; rw [h1, bnd_some]; exact h4 _ (h3 (fun rs => k' (r :: rs)) h)⟩
structure XCut (n : Nat) (D : List Nat) (H : List Blk) (r : AV) (k : AV → List Blk → Prop) : Prop where
  o : ∃ H1 l, H = H1 ++ l ∧ H1.length = n ∧ (∀ x ∈ H1, x.low n = true) ∧ D.Nodup ∧ (∀ i ∈ D, n ≤ i ∧ H[i]? = some (.raw (.deferred (some [])))) ∧ r.low n = true ∧ k r H1
def XFk (T : Tab) (res : List ResultVar) (n : Nat) (k : AV → List Blk → Prop) : Post := fun e D σ H =>
  match e with
  | .normal | .ret => xRes T σ H res fun rs => XCut n D H (pack rs) k
  | _ => False
theorem ACall.bodyK {f : FuncId} {fn : Func} {c : Code} {rs : List AV} {res : List ResultVar} {k : AV → List Blk → Prop} (ok : TabOk P T) (own : List Nat) (hf : P.funcs[f]? = some fn) (hb : fn.body = some c) (hn : (fn.name == "runtime.NumGoroutine") = false)
    (hN : fn.ntmps = N) (hr : fn.results = res.toArray) (hl : rs.length ≤ N) (x : XRun P T N none own c (XFk T res H.length k) [] (argX rs) H) : ACall P f rs H k := by
  subst hN
  refine ACall.of_body hf hb hn hl ?_
  rw [hr, ← argX_eq]
  refine (XRun.sound ok x).mono fun e D σ H' q => ?_
  have go : xRes T σ H' res (fun rs => XCut H.length D H' (pack rs) k) → ∃ H1 l, H' = H1 ++ l ∧ H.length ≤ H1.length ∧ (∀ x ∈ H1, x ∈ H ∨ x.low H1.length = true) ∧ D.Nodup ∧
    (∀ i ∈ D, H1.length ≤ i ∧ H'[i]? = some (.raw (.deferred (some [])))) ∧ resA P σ H' res fun rs => (pack rs).low H1.length = true ∧ k (pack rs) H1 := by
    intro x
    obtain ⟨rs, ⟨H1, l, h1, h2, h3, h4, h5, h6, h7⟩, hx⟩ := resA_ex (xRes_sound ok x)
    exact ⟨H1, l, h1, by omega, fun x hx => .inr (by rw [h2]; exact h3 x hx), h4, by rw [h2]; exact h5, hx _ ⟨by rw [h2]; exact h6, h7⟩⟩
  cases e <;> first | exact ⟨.inl rfl, go q⟩ | exact ⟨.inr rfl, go q⟩ | exact q.elim
theorem XCut.mk' {n : Nat} {H : List Blk} {r : AV} {k : AV → List Blk → Prop} (H1 l : List Blk) (h1 : H1 ++ l = H) (h2 : H1.length = n) (h3 : ∀ x ∈ H1, x.low n = true) (h4 : r.low n = true) (h5 : k r H1) : XCut n [] H r k :=
  ⟨H1, l, h1.symm, h2, h3, by simp, by simp, h4, h5⟩
end
end GA
end
