/- Part 7 of a proof: D53, Abs38, D36, D45, D54, Abs39, D55, D56, D57. -/
import Derived.Test.YtfpggfdojnnaiaaP6
section
namespace GA
open Go Go.RowKit Go.Proofs
set_option pp.deepTerms true
set_option maxRecDepth 8000
set_option linter.unusedVariables false
set_option linter.unusedSimpArgs false

def conP (L : List Int) : Nat → Bool := fun i => L.contains (i : Int)
def clB (b : Bd) (L : List Int) : Bool := noneB b (conP L)
theorem conF_c (b : Bd) (nl : Bool) (L : List Int) (hL : L.length ≤ 100000) : Flt b 138 [.pim [.sl nl (ints L)]] (conP L) := by
  refine ⟨by simp only [lowL, AV.low, lowI]; rfl, fun i hi => ?_⟩
  have hc := contains_c nl L i hL
  show Comp Try.prog _ _ (.bool (L.contains (i : Int)))
  generalize L.contains (i : Int) = r at hc
  refine Comp.body (T := tab) (res := [.tmp 3]) tab_ok [] Try.func138 rfl (by kernel_rfl) Try.ntmps138 rfl (by simp only [List.length_cons, List.length_nil]; decide) (by simp only [lowL, AV.low, lowI]; rfl) ?_; conv => whnf
  repeat' first | ((refine XCall.ret hc ?_); conv => whnf) | fail
  exact ⟨.low rfl⟩
theorem clash1_c (b : Bd) (ok : BdOk b) (nl : Bool) (L : List Int) (hL : L.length ≤ 100000) : Comp Try.prog 136 [.sl nl (ints L), .pim [dskA b]] (.bool (clB b L)) := by
  have hc := can_c b ok 138 [.pim [.sl nl (ints L)]] (conP L) (conF_c b nl L hL)
  have hn : (vecF 121 (cnB b (conP L) 0) == List.replicate 121 false) = clB b L := rfl
  generalize clB b L = r at hn
  refine Comp.body (T := tab) (res := [.tmp 3]) tab_ok [] Try.func136 rfl (by kernel_rfl) Try.ntmps136 rfl (by simp only [List.length_cons, List.length_nil]; decide) (by simp only [lowL, AV.low, lowI, dskL]; rfl) ?_; conv => whnf
  repeat' first | ((first | (refine XCall.ret hc ?_) | (refine XIx.mat 0 rfl (by omega) rfl ?_) | (refine xtk_vec rfl ?_) | ((refine xeqb0 ?_); rw [hn])); conv => whnf) | fail
  exact ⟨.low rfl⟩
def clH (b : Bd) (d c o m : Nat) (out : AV) : List Blk := [.cells [dskA b], .cells [.fn 136 [.ptr d 0]], .cells [out], .cells [.fn 139 [.ptr o 0, .ptr c 0, .pim (bedC b), .ptr m 0]]]
theorem clH_low (b : Bd) (l : List Int) : ∀ x ∈ clH b 0 1 2 3 (slA l), x.low 4 = true := by
  intro x hx
  simp only [clH, List.mem_cons, List.not_mem_nil, or_false] at hx
  rcases hx with rfl | rfl | rfl | rfl
  · simp only [Blk.low, lowL, dskL]; rfl
  · rfl
  · simp only [Blk.low, lowL, slA_low]; rfl
  · simp only [Blk.low, lowL, AV.low, show lowL 4 (bedC b) = true from lowBd b]; rfl
def outL (o : Option (List Int)) : List Int := o.getD []
def MoreOk (b : Bd) (k : Nat) (l : List Int) (f : Nat) : Prop :=
  ACall Try.prog 139 [slA l, natA f, natA k, .ptr 2 0, .ptr 1 0, .pim (bedC b), .ptr 3 0] (clH b 0 1 2 3 (slA [])) fun r H' => r = .bool (moreF (clB b) b.surveys.length k l f).isSome ∧ H' = clH b 0 1 2 3 (slA (outL (moreF (clB b) b.surveys.length k l f)))
def rho4 (d c o m : Nat) : Nat → Nat
  | 0 => d
  | 1 => c
  | 2 => o
  | _ => m
theorem XCall.more {b : Bd} {k : Nat} {l : List Int} {f : Nat} (x : MoreOk b k l f) {v : AV} (hv : v = slA l) {H : List Blk} {K : AV → List Blk → Prop} (d c o m : Nat) (hd : d < c ∧ c < o ∧ o < m) (h0 : lget H d = some (.cells [dskA b])) (h1 : lget H c = some (.cells [.fn 136 [.ptr d 0]])) (h2 : lget H o = some (.cells [slA []]))
    (h3 : lget H m = some (.cells [.fn 139 [.ptr o 0, .ptr c 0, .pim (bedC b), .ptr m 0]])) (hk : K (.bool (moreF (clB b) b.surveys.length k l f).isSome) (H.set o (.cells [slA (outL (moreF (clB b) b.surveys.length k l f))]))) :
    XCall Try.prog 139 [v, natA f, natA k, .ptr o 0, .ptr c 0, .pim (bedC b), .ptr m 0] H K := by
  subst hv
  have hb : renL (rho4 d c o m) (bedC b) = bedC b := renL_low0 (lowBd b)
  have hD : renL (rho4 d c o m) (dskC b) = dskC b := renL_low0 (lowDk1 b)
  have hL : ∀ xs : List Int, renL (rho4 d c o m) (ints xs) = ints xs := fun xs => renL_low0 (lowI xs)
  rw [lget_eq] at h0 h1 h2 h3
  constructor
  have e := ACall.frame (ρ := rho4 d c o m) (H := H) (k := K) x ?_ ?_ (clH_low b []) ?_ ?_
  · simp only [List.map_cons, List.map_nil, slA, natA, AV.ren, hb, hL] at e
    exact e
  · intro i j hi hj he
    simp only [clH, List.length_cons, List.length_nil] at hi hj
    rcases i with _ | _ | _ | _ | i <;> rcases j with _ | _ | _ | _ | j <;> simp only [rho4] at he <;> omega
  · intro i x1 hi
    rcases i with _ | _ | _ | _ | i
    · simp only [clH, List.getElem?_cons_zero, Option.some.injEq] at hi; subst hi
      simp only [Blk.ren, renL, dskA, AV.ren, hD]; exact h0
    · simp only [clH, List.getElem?_cons_succ, List.getElem?_cons_zero, Option.some.injEq] at hi; subst hi
      exact h1
    · simp only [clH, List.getElem?_cons_succ, List.getElem?_cons_zero, Option.some.injEq] at hi; subst hi
      exact h2
    · simp only [clH, List.getElem?_cons_succ, List.getElem?_cons_zero, Option.some.injEq] at hi; subst hi
      simp only [Blk.ren, renL, AV.ren, hb]; exact h3
    · simp [clH] at hi
  · simp only [clH, List.length_cons, List.length_nil, lowL, AV.low, natA, slA, lowI, show lowL 4 (bedC b) = true from lowBd b]; rfl
  · rintro r1 H1' ⟨rfl, rfl⟩
    have ho := (List.getElem?_eq_some_iff.1 h2).1
    refine ⟨rfl, H.set o (.cells [slA (outL (moreF (clB b) b.surveys.length k l f))]), by simp, fun i x1 hi => ?_, fun q hq => ?_, hk⟩
    · rcases i with _ | _ | _ | _ | i
      · simp only [clH, List.getElem?_cons_zero, Option.some.injEq] at hi; subst hi
        simp only [Blk.ren, renL, dskA, AV.ren, hD]
        rw [List.getElem?_set_ne (by simp only [rho4]; omega)]; exact h0
      · simp only [clH, List.getElem?_cons_succ, List.getElem?_cons_zero, Option.some.injEq] at hi; subst hi
        rw [List.getElem?_set_ne (by simp only [rho4]; omega)]; exact h1
      · simp only [clH, List.getElem?_cons_succ, List.getElem?_cons_zero, Option.some.injEq] at hi; subst hi
        simp only [Blk.ren, renL, slA, AV.ren, hL]
        exact List.getElem?_set_self ho
      · simp only [clH, List.getElem?_cons_succ, List.getElem?_cons_zero, Option.some.injEq] at hi; subst hi
        simp only [Blk.ren, renL, AV.ren, hb]
        rw [List.getElem?_set_ne (by simp only [rho4]; omega)]; exact h3
      · simp [clH] at hi
    · exact List.getElem?_set_ne (by have := hq 2 (by simp [clH]); simpa [rho4] using this)
theorem more_c (b : Bd) (ok : BdOk b) (q0 : clB b [] = false) : ∀ (k : Nat) (l : List Int) (f : Nat), l.length + k ≤ 100 → f ≤ 100 → MoreOk b k l f
  | 0, l, f, hl, hf => by
    have hc := clash1_c b ok l.isEmpty l (by omega)
    have e2 : ((ints l).length : Int) = l.length := by rw [ints_len]
    have hfr : FrozL Try.prog (clH b 0 1 2 3 (slA [])) [slA l, .ptr 0 0] [.sl l.isEmpty (ints l), .pim [dskA b]] := .cons (.low (lowI _)) (.cons (Froz.ptr rfl (one1 rfl) (.cons (.low (dskL b)) .nil)) .nil)
    have hq : moreF (clB b) b.surveys.length 0 l f = if clB b l = true then some l else none := rfl
    unfold MoreOk
    rw [hq]
    cases hb : clB b l with
    | true =>
      have hne : l ≠ [] := fun e => by rw [e, q0] at hb; cases hb
      have hne2 := List.length_pos_iff.2 hne
      rw [hb] at hc
      refine ACall.bodyK (T := tab) (res := [.tmp 10]) tab_ok [] Try.func139 rfl (by kernel_rfl) Try.ntmps139 rfl (by simp only [List.length_cons, List.length_nil]; decide) ?_; conv => whnf
      repeat' first | ((with_reducible apply XBr.tt); conv => whnf) | ((with_reducible apply XBr.beq) <;> (intro h; first | (exfalso; omega) | (conv => whnf))) | ((refine XCall.lend hc (.cons (.low (lowI _)) (.cons (Froz.ptr rfl (one1 rfl) (.cons (.low (dskL b)) .nil)) .nil)) rfl ?_); conv => whnf) | fail
      exact XCut.mk' (clH b 0 1 2 3 (slA l)) [] rfl rfl (clH_low b l) rfl ⟨congrArg AV.bool (decide_eq_true (by omega)), rfl⟩
    | false =>
      rw [hb] at hc
      refine ACall.bodyK (T := tab) (res := [.tmp 10]) tab_ok [] Try.func139 rfl (by kernel_rfl) Try.ntmps139 rfl (by simp only [List.length_cons, List.length_nil]; decide) ?_; conv => whnf
      repeat' first | ((with_reducible apply XBr.ff); conv => whnf) | ((with_reducible apply XBr.beq) <;> (intro h; first | (exfalso; omega) | (conv => whnf))) | ((refine XCall.lend hc (.cons (.low (lowI _)) (.cons (Froz.ptr rfl (one1 rfl) (.cons (.low (dskL b)) .nil)) .nil)) rfl ?_); conv => whnf) | fail
      exact XCut.mk' (clH b 0 1 2 3 (slA [])) [] rfl rfl (clH_low b []) rfl ⟨rfl, rfl⟩
  | k + 1, l, f, hl, hf => by
    have e3 : ((b.surveys.map suA).length : Int) = b.surveys.length := by rw [List.length_map]
    have s1 := ok.s1
    unfold MoreOk
    refine ACall.bodyK (T := tab) (res := [.tmp 10]) tab_ok [] Try.func139 rfl (by kernel_rfl) Try.ntmps139 rfl (by simp only [List.length_cons, List.length_nil]; decide) ?_; conv => whnf
    repeat' first | ((with_reducible apply XBr.beq) <;> (intro h; first | (exfalso; omega) | (conv => whnf))) | fail
    refine Walk.loopGK tab_ok [] [(0, _), (2, _), (5, _), (6, _)] ⟨rfl, rfl, rfl, rfl, trivial⟩ (fun i : Nat => f ≤ i ∧ i ≤ max f b.surveys.length ∧ moreF (clB b) b.surveys.length (k + 1) l f = moreF (clB b) b.surveys.length (k + 1) l i) (fun i => [(11, natA i)]) (fun _ => clH b 0 1 2 3 (slA [])) (fun i => b.surveys.length - i) f ⟨Nat.le_refl _, by omega, rfl⟩ rfl ⟨rfl, trivial⟩ ?_ (fun _ _ => (show (4 : Nat) ≤ 4 from Nat.le_refl 4)) ?_
    · intro q _
      refine ⟨clH_low b [], fun z hz => ?_⟩
      simp only [List.cons_append, List.nil_append, List.mem_cons, List.not_mem_nil, or_false] at hz
      rcases hz with rfl | rfl | rfl | rfl | rfl <;> first | rfl | exact slA_low _ | exact lowBd b
    rintro i ⟨hi1, hi2, hi3⟩
    rw [hi3]
    conv => whnf
    by_cases hlt : i < b.surveys.length
    · have hmo := more_c b ok q0 k (l ++ [(i : Int)]) (i + 1) (by rw [List.length_append, List.length_cons, List.length_nil]; omega) (by omega)
      have hk1 : ((k + 1 : Nat) : Int) - 1 = (k : Nat) := by omega
      cases hl0 : l with
      | nil =>
        subst hl0
        have hnl : True := trivial
        have hll : True := trivial
        have hsl : True := trivial
        cases hR : moreF (clB b) b.surveys.length k (([] : List Int) ++ [(i : Int)]) (i + 1) with
        | none =>
          repeat' first | ((with_reducible apply XBr.dec) <;> (intro h; first | (exfalso; omega) | ((try simp only [List.length_map] at h); first | (exfalso; omega) | (conv => whnf)))) | fail
          apply Walk.drawX tab_ok mixed_ok [] [5, 10] (hsC [clH b 0 1 2 3 (slA []), clH b 0 1 2 3 (slA []) ++ [.grow 3 false [natA i]], clH b 0 1 2 3 (slA []) ++ [.dead]]) [_, _, .sl true [], _, _, .gr 4 1, _, _, _, _, .bool false] (by kernel_rfl) rfl
          · skip
            repeat' first | ((with_reducible refine XInt.i64 (by omega) (by omega) ?_); conv => whnf) | ((with_reducible refine XHold.mk ?_ ?_); (first | omega | rfl | decide | exact ⟨rfl, by decide, rfl⟩ | exact wideI _ | exact widePr _ | exact wideSk _ | (unfold Room; constructor <;> ((try simp) <;> omega)) | exact ⟨rfl, by simp only [List.length_map], by unfold Room; constructor <;> ((try simp) <;> omega)⟩ | exact ⟨by omega, by omega, by unfold Room; constructor <;> ((try simp) <;> omega)⟩); conv => whnf) | (with_reducible apply XAnd.mk) | ((first | (with_reducible apply Chk.go) | (with_reducible apply ChkA.go)); conv => whnf) | (exact XSame.mk rfl rfl) | (with_reducible exact trivial) | (refine XCall.inl (T := tab) (res := [.tmp 2]) tab_ok [] Try.func140 rfl (by kernel_rfl) Try.ntmps140 rfl (by simp only [List.length_append, List.length_cons, List.length_nil]; decide) ?_; conv => whnf) | ((with_reducible refine XBr.yes rfl ?_); conv => whnf) | (rw [hk1]; (refine XCall.freeze 4 _ rfl (by first | rfl | (rw [List.length_append, hll]; rfl)) (.gr (.same (.same (.same (.same (.same (.same .nil))))))) ?_); (refine XCall.more hmo (by first | rfl | exact hsl.symm) 0 1 2 3 (by omega) rfl rfl rfl rfl ?_); rw [hR]; exact XSame.mk rfl rfl) | fail
          · skip
            repeat' first | ((with_reducible refine XInt.i64 (by omega) (by omega) ?_); conv => whnf) | (with_reducible apply XAnd.mk) | ((first | (with_reducible apply Chk.go) | (with_reducible apply ChkF.go) | (with_reducible apply ChkB.go)); conv => whnf) | (exact XSame.mk rfl rfl) | (with_reducible exact trivial) | fail
          conv => whnf
          repeat' first | ((first | (with_reducible apply XBr.ff) | (with_reducible refine XInt.i64 (by omega) (by omega) ?_)); conv => whnf) | fail
          exact XAgainG.go (i + 1) [.dead] ⟨by omega, by omega, moreF_miss hlt hR⟩ (by omega) rfl ⟨rfl, rfl, rfl, rfl, rfl, trivial⟩
        | some L =>
          repeat' first | ((with_reducible apply XBr.dec) <;> (intro h; first | (exfalso; omega) | ((try simp only [List.length_map] at h); first | (exfalso; omega) | (conv => whnf)))) | fail
          apply Walk.drawX tab_ok mixed_ok [] [5, 10] (hsC [clH b 0 1 2 3 (slA []), clH b 0 1 2 3 (slA []) ++ [.grow 3 false [natA i]], clH b 0 1 2 3 (slA L) ++ [.dead]]) [_, _, .sl true [], _, _, .gr 4 1, _, _, _, _, .bool true] (by kernel_rfl) rfl
          · skip
            repeat' first | ((with_reducible refine XInt.i64 (by omega) (by omega) ?_); conv => whnf) | ((with_reducible refine XHold.mk ?_ ?_); (first | omega | rfl | decide | exact ⟨rfl, by decide, rfl⟩ | exact wideI _ | exact widePr _ | exact wideSk _ | (unfold Room; constructor <;> ((try simp) <;> omega)) | exact ⟨rfl, by simp only [List.length_map], by unfold Room; constructor <;> ((try simp) <;> omega)⟩ | exact ⟨by omega, by omega, by unfold Room; constructor <;> ((try simp) <;> omega)⟩); conv => whnf) | (with_reducible apply XAnd.mk) | ((first | (with_reducible apply Chk.go) | (with_reducible apply ChkA.go)); conv => whnf) | (exact XSame.mk rfl rfl) | (with_reducible exact trivial) | (refine XCall.inl (T := tab) (res := [.tmp 2]) tab_ok [] Try.func140 rfl (by kernel_rfl) Try.ntmps140 rfl (by simp only [List.length_append, List.length_cons, List.length_nil]; decide) ?_; conv => whnf) | ((with_reducible refine XBr.yes rfl ?_); conv => whnf) | (rw [hk1]; (refine XCall.freeze 4 _ rfl (by first | rfl | (rw [List.length_append, hll]; rfl)) (.gr (.same (.same (.same (.same (.same (.same .nil))))))) ?_); (refine XCall.more hmo (by first | rfl | exact hsl.symm) 0 1 2 3 (by omega) rfl rfl rfl rfl ?_); rw [hR]; exact XSame.mk rfl rfl) | fail
          · skip
            repeat' first | ((with_reducible refine XInt.i64 (by omega) (by omega) ?_); conv => whnf) | (with_reducible apply XAnd.mk) | ((first | (with_reducible apply Chk.go) | (with_reducible apply ChkF.go) | (with_reducible apply ChkB.go)); conv => whnf) | (exact XSame.mk rfl rfl) | (with_reducible exact trivial) | fail
          conv => whnf
          repeat' first | ((with_reducible apply XBr.tt); conv => whnf) | fail
          rw [moreF_hit hlt hR]
          exact XCut.mk' (clH b 0 1 2 3 (slA L)) [.dead] rfl rfl (clH_low b L) rfl ⟨rfl, rfl⟩
      | cons x0 xs0 =>
        have hnl : l.isEmpty = false := by rw [hl0]; rfl
        have hll : (ints l).length = l.length := ints_len _
        have hsl : slA (l ++ [(i : Int)]) = .sl false (ints l ++ [natA i]) := by unfold slA; rw [isEmpty_app, ints, List.map_append, Bool.and_false]; rfl
        rw [← hl0]
        clear hl0
        cases hR : moreF (clB b) b.surveys.length k (l ++ [(i : Int)]) (i + 1) with
        | none =>
          repeat' first | ((with_reducible apply XBr.dec) <;> (intro h; first | (exfalso; omega) | ((try simp only [List.length_map] at h); first | (exfalso; omega) | (conv => whnf)))) | fail
          apply Walk.drawX tab_ok mixed_ok [] [2, 5, 10] (hsC [clH b 0 1 2 3 (slA []), clH b 0 1 2 3 (slA []) ++ [.grow 3 false (ints l)], clH b 0 1 2 3 (slA []) ++ [.grow 3 false (ints l ++ [natA i])], clH b 0 1 2 3 (slA []) ++ [.dead]]) [_, _, .gr 4 l.length, _, _, .gr 4 (l.length + 1), _, _, _, _, .bool false] (by kernel_rfl) rfl
          · skip
            repeat' first | ((with_reducible refine XInt.i64 (by omega) (by omega) ?_); conv => whnf) | ((with_reducible refine XHold.mk ?_ ?_); (first | omega | rfl | decide | exact ⟨rfl, by decide, rfl⟩ | exact wideI _ | exact widePr _ | exact wideSk _ | (unfold Room; constructor <;> ((try simp) <;> omega)) | exact ⟨rfl, by simp only [List.length_map], by unfold Room; constructor <;> ((try simp) <;> omega)⟩ | exact ⟨by omega, by omega, by unfold Room; constructor <;> ((try simp) <;> omega)⟩); conv => whnf) | (with_reducible apply XAnd.mk) | ((first | (with_reducible apply Chk.go) | (with_reducible apply ChkA.go)); conv => whnf) | (exact XSame.mk rfl rfl) | (exact XSame.mk (by first | rfl | (simp only [List.map_append, List.length_append, List.length_map]; done) | (simp only [List.map_append, List.length_append, List.length_map]; rfl)) (by first | rfl | (simp only [List.map_append]; done) | (simp only [List.map_append]; rfl))) | (with_reducible exact trivial) | (refine XCall.inl (T := tab) (res := [.tmp 2]) tab_ok [] Try.func140 rfl (by kernel_rfl) Try.ntmps140 rfl (by simp only [List.length_append, List.length_cons, List.length_nil]; decide) ?_; conv => whnf) | ((with_reducible refine XBr.no hnl ?_); conv => whnf) | (rw [hk1]; (refine XCall.freeze 4 _ rfl (by first | rfl | (rw [List.length_append, hll]; rfl)) (.gr (.same (.same (.same (.same (.same (.same .nil))))))) ?_); (refine XCall.more hmo (by first | rfl | exact hsl.symm) 0 1 2 3 (by omega) rfl rfl rfl rfl ?_); rw [hR]; exact XSame.mk rfl rfl) | fail
          · skip
            repeat' first | ((with_reducible refine XInt.i64 (by omega) (by omega) ?_); conv => whnf) | ((with_reducible refine XHold.mk ?_ ?_); (first | omega | rfl | decide | exact ⟨rfl, by decide, rfl⟩ | exact wideI _ | exact widePr _ | exact wideSk _ | (unfold Room; constructor <;> ((try simp) <;> omega)) | exact ⟨rfl, by simp only [List.length_map], by unfold Room; constructor <;> ((try simp) <;> omega)⟩ | exact ⟨by omega, by omega, by unfold Room; constructor <;> ((try simp) <;> omega)⟩); conv => whnf) | (with_reducible apply XAnd.mk) | ((first | (with_reducible apply Chk.go) | (with_reducible apply ChkF.go) | (with_reducible apply ChkB.go)); conv => whnf) | (exact XSame.mk rfl rfl) | (with_reducible exact trivial) | fail
          conv => whnf
          repeat' first | ((first | (with_reducible apply XBr.ff) | (with_reducible refine XInt.i64 (by omega) (by omega) ?_)); conv => whnf) | fail
          exact XAgainG.go (i + 1) [.dead] ⟨by omega, by omega, moreF_miss hlt hR⟩ (by omega) rfl ⟨rfl, rfl, rfl, rfl, rfl, trivial⟩
        | some L =>
          repeat' first | ((with_reducible apply XBr.dec) <;> (intro h; first | (exfalso; omega) | ((try simp only [List.length_map] at h); first | (exfalso; omega) | (conv => whnf)))) | fail
          apply Walk.drawX tab_ok mixed_ok [] [2, 5, 10] (hsC [clH b 0 1 2 3 (slA []), clH b 0 1 2 3 (slA []) ++ [.grow 3 false (ints l)], clH b 0 1 2 3 (slA []) ++ [.grow 3 false (ints l ++ [natA i])], clH b 0 1 2 3 (slA L) ++ [.dead]]) [_, _, .gr 4 l.length, _, _, .gr 4 (l.length + 1), _, _, _, _, .bool true] (by kernel_rfl) rfl
          · skip
            repeat' first | ((with_reducible refine XInt.i64 (by omega) (by omega) ?_); conv => whnf) | ((with_reducible refine XHold.mk ?_ ?_); (first | omega | rfl | decide | exact ⟨rfl, by decide, rfl⟩ | exact wideI _ | exact widePr _ | exact wideSk _ | (unfold Room; constructor <;> ((try simp) <;> omega)) | exact ⟨rfl, by simp only [List.length_map], by unfold Room; constructor <;> ((try simp) <;> omega)⟩ | exact ⟨by omega, by omega, by unfold Room; constructor <;> ((try simp) <;> omega)⟩); conv => whnf) | (with_reducible apply XAnd.mk) | ((first | (with_reducible apply Chk.go) | (with_reducible apply ChkA.go)); conv => whnf) | (exact XSame.mk rfl rfl) | (exact XSame.mk (by first | rfl | (simp only [List.map_append, List.length_append, List.length_map]; done) | (simp only [List.map_append, List.length_append, List.length_map]; rfl)) (by first | rfl | (simp only [List.map_append]; done) | (simp only [List.map_append]; rfl))) | (with_reducible exact trivial) | (refine XCall.inl (T := tab) (res := [.tmp 2]) tab_ok [] Try.func140 rfl (by kernel_rfl) Try.ntmps140 rfl (by simp only [List.length_append, List.length_cons, List.length_nil]; decide) ?_; conv => whnf) | ((with_reducible refine XBr.no hnl ?_); conv => whnf) | (rw [hk1]; (refine XCall.freeze 4 _ rfl (by first | rfl | (rw [List.length_append, hll]; rfl)) (.gr (.same (.same (.same (.same (.same (.same .nil))))))) ?_); (refine XCall.more hmo (by first | rfl | exact hsl.symm) 0 1 2 3 (by omega) rfl rfl rfl rfl ?_); rw [hR]; exact XSame.mk rfl rfl) | fail
          · skip
            repeat' first | ((with_reducible refine XInt.i64 (by omega) (by omega) ?_); conv => whnf) | ((with_reducible refine XHold.mk ?_ ?_); (first | omega | rfl | decide | exact ⟨rfl, by decide, rfl⟩ | exact wideI _ | exact widePr _ | exact wideSk _ | (unfold Room; constructor <;> ((try simp) <;> omega)) | exact ⟨rfl, by simp only [List.length_map], by unfold Room; constructor <;> ((try simp) <;> omega)⟩ | exact ⟨by omega, by omega, by unfold Room; constructor <;> ((try simp) <;> omega)⟩); conv => whnf) | (with_reducible apply XAnd.mk) | ((first | (with_reducible apply Chk.go) | (with_reducible apply ChkF.go) | (with_reducible apply ChkB.go)); conv => whnf) | (exact XSame.mk rfl rfl) | (with_reducible exact trivial) | fail
          conv => whnf
          repeat' first | ((with_reducible apply XBr.tt); conv => whnf) | fail
          rw [moreF_hit hlt hR]
          exact XCut.mk' (clH b 0 1 2 3 (slA L)) [.dead] rfl rfl (clH_low b L) rfl ⟨rfl, rfl⟩
    · rw [moreF_end (by omega)]
      repeat' first | ((with_reducible apply XBr.dec) <;> (intro h; first | (exfalso; omega) | ((try simp only [List.length_map] at h); first | (exfalso; omega) | (conv => whnf)))) | fail
      exact XCut.mk' (clH b 0 1 2 3 (slA [])) [] rfl rfl (clH_low b []) rfl ⟨rfl, rfl⟩
end GA
end

section
namespace GA
open Go Go.RowKit
set_option linter.unusedVariables false
section
variable {P : Program} {N : Nat} {ρ : Option Nat} {H : List Blk} {σ : St} {D : List Nat} {Q : Post}

structure XFrz (u i n : Nat) (σ : St) (H : List Blk) (k : St → List Blk → Prop) : Prop where
  o : ∃ t nl els, σ u = some (.gr i n) ∧ lget H i = some (.grow t nl els) ∧ els.length = n ∧ k (updX σ u (.sl nl els)) (H.set i .dead)
theorem XFrz.go {u i n : Nat} {k : St → List Blk → Prop} {t : TypeId} {nl : Bool} {els : List AV} (hu : σ u = some (.gr i n)) (hi : lget H i = some (.grow t nl els)) (hn : els.length = n) (x : k (updX σ u (.sl nl els)) (H.set i .dead)) : XFrz u i n σ H k := ⟨t, nl, els, hu, hi, hn, x⟩
end
end GA
end

section
namespace GA
open Go Go.RowKit Go.Proofs
set_option pp.deepTerms true
set_option maxRecDepth 8000
set_option linter.unusedVariables false
set_option linter.unusedSimpArgs false

structure NI (b : Bd) (m n : Nat) (G : Nat → Bool) (D : Int → Int → Prop) : Prop where
  o : ∀ k : Nat, G k = true ↔ ∃ sp st, InC b m sp st ∧ D sp st ∧ grC b m n sp st - (moB b m).r = k
theorem NI.to {b : Bd} {m n : Nat} {G : Nat → Bool} {D D' : Int → Int → Prop} (h : NI b m n G D) (hd : ∀ x y, InC b m x y → (D' x y ↔ D x y)) : NI b m n G D' :=
  ⟨fun k => (h.o k).trans ⟨fun ⟨x, y, h1, h2, h3⟩ => ⟨x, y, h1, (hd x y h1).2 h2, h3⟩, fun ⟨x, y, h1, h2, h3⟩ => ⟨x, y, h1, (hd x y h1).1 h2, h3⟩⟩⟩
theorem NI.skip {b : Bd} {m n : Nat} {G : Nat → Bool} {D D' : Int → Int → Prop} {sp st : Int} (h : NI b m n G D) (hd : ∀ x y, InC b m x y → (D' x y ↔ D x y ∨ (x = sp ∧ y = st))) (hv : grC b m n sp st - (moB b m).r < 0) : NI b m n G D' := by
  refine ⟨fun k => (h.o k).trans ⟨fun ⟨x, y, h1, h2, h3⟩ => ⟨x, y, h1, (hd x y h1).2 (.inl h2), h3⟩, fun ⟨x, y, h1, h2, h3⟩ => ⟨x, y, h1, ?_, h3⟩⟩⟩
  rcases (hd x y h1).1 h2 with h4 | ⟨rfl, rfl⟩
  · exact h4
  · omega
theorem NI.put {b : Bd} {m n : Nat} {G : Nat → Bool} {D D' : Int → Int → Prop} {sp st : Int} (h : NI b m n G D) (hin : InC b m sp st) (hd : ∀ x y, InC b m x y → (D' x y ↔ D x y ∨ (x = sp ∧ y = st))) (hv : 0 ≤ grC b m n sp st - (moB b m).r) : NI b m n (updV G (grC b m n sp st - (moB b m).r).toNat true) D' := by
  refine ⟨fun k => ?_⟩
  unfold updV
  by_cases e : k = (grC b m n sp st - (moB b m).r).toNat
  · rw [if_pos e]
    exact ⟨fun _ => ⟨sp, st, hin, (hd sp st hin).2 (.inr ⟨rfl, rfl⟩), by omega⟩, fun _ => rfl⟩
  · rw [if_neg e]
    refine (h.o k).trans ⟨fun ⟨x, y, h1, h2, h3⟩ => ⟨x, y, h1, (hd x y h1).2 (.inl h2), h3⟩, fun ⟨x, y, h1, h2, h3⟩ => ⟨x, y, h1, ?_, h3⟩⟩
    rcases (hd x y h1).1 h2 with h4 | ⟨rfl, rfl⟩
    · exact h4
    · omega
def nxF (b : Bd) (m n k : Nat) : Bool := befF b m k n
theorem NI.all {b : Bd} (ok : BedOk b) {m n : Nat} (hm : m < b.months.length) {G : Nat → Bool} {D : Int → Int → Prop} (h : NI b m n G D) (hd : ∀ x y, InC b m x y → D x y) (k : Nat) : G k = nxF b m n k := by
  unfold nxF befF
  rw [Bool.eq_iff_iff, decide_eq_true_iff, h.o k, mem_lv ok hm]
  exact ⟨fun ⟨x, y, h1, h2, h3⟩ => ⟨x, y, h1, h3⟩, fun ⟨x, y, h1, h3⟩ => ⟨x, y, h1, hd x y h1, h3⟩⟩
end GA
end

section
namespace GA
open Go Go.RowKit Go.Proofs
set_option pp.deepTerms true
set_option maxRecDepth 8000
set_option linter.unusedVariables false
set_option linter.unusedSimpArgs false

def ivs (W : Nat) (F : Nat → Int) : List AV := ints (vecF W F)
theorem ivs_len (W : Nat) (F : Nat → Int) : (ivs W F).length = W := by rw [ivs, ints_len, vecF_len]
theorem ivs_rep (W : Nat) (v : Int) : List.replicate W (AV.int .i64 v) = ivs W fun _ => v := by unfold ivs ints; rw [vecF_replicate, List.map_replicate]
theorem ivs_congr {W : Nat} {F G : Nat → Int} (h : ∀ i, i < W → F i = G i) : ivs W F = ivs W G := congrArg ints (vecF_congr h)
theorem XGet.ivs {W : Nat} {F : Nat → Int} {n e : Nat} {k : List AV → Prop} (j : Nat) (he : e = j) (h1 : n = W) (h2 : j < W) (h : k [.int .i64 (F j)]) : XGet (ivs W F) n e k := by
  subst he; subst h1
  refine XGet.mapF (f := AV.int .i64) default (by rw [vecF_len]) h2 ?_
  rw [vecF_get _ h2]; exact h
theorem XPut.ivs {W : Nat} {F : Nat → Int} {n e : Nat} {v : Int} {k : List AV → Prop} (j : Nat) (he : e = j) (h1 : n = W) (h2 : j < W) (h : k (ivs W (updV F j v))) : XPut (ivs W F) n e (.int .i64 v) k := by
  subst he; subst h1
  refine XPut.map (f := AV.int .i64) v rfl (by rw [vecF_len]) h2 ?_
  rw [vecF_set]; exact h
theorem XIx.ivs {W : Nat} {F : Nat → Int} {n : Int} {k : AV → Prop} (i : Nat) (hn : n = i) (h2 : i < W) (h : k (.pim [.int .i64 (F i)])) : XIx (ivs W F) n 1 k := by
  subst hn
  have e : nth (GA.ivs W F) (i : Int) = .int .i64 (F i) := by
    unfold nth
    rw [Int.toNat_natCast, List.getD_eq_getElem?_getD]; unfold GA.ivs; rw [vec_at h2]; rfl
  refine ⟨by omega, by rw [ivs_len]; omega, by rw [e]; rfl, ?_⟩
  rw [e]; exact h
end GA
end

section
namespace GA
open Go Go.RowKit Go.Proofs
set_option pp.deepTerms true
set_option maxRecDepth 8000
set_option linter.unusedVariables false
set_option linter.unusedSimpArgs false

def evrL (b : Bd) : List Int := vecF b.surveys.length fun q => (q : Int)
theorem evrL_len (b : Bd) : (evrL b).length = b.surveys.length := vecF_len _ _
def clashV (b : Bd) : AV := if bedE b ≠ 0 then .tup [.sl true [], .int .i64 (bedE b)] else if (clB b [] || !clB b (evrL b)) = true then .tup [.sl true [], .int .i64 6] else .tup [slA (outL (clsF (clB b) b.surveys.length)), .int .i64 0]
set_option maxHeartbeats 1000000 in
theorem clash_c (b : Bd) (hm : b.months.length ≤ 100000) (hs : b.surveys.length ≤ 100000) : Comp Try.prog 61 [bedA b] (clashV b) := by
  have e2 : ((b.surveys.map suA).length : Int) = b.surveys.length := by rw [List.length_map]
  unfold clashV
  by_cases hE : bedE b = 0
  · have ok := (bedE_iff b).1 hE
    have ho := bOpened_c b ok
    have s1 := ok.s1
    have hc0 := clash1_c b ok true [] (by simp)
    have hevl : (ints (evrL b)).length = b.surveys.length := by rw [ints_len, evrL_len]
    have hc1 := clash1_c b ok false (evrL b) (by rw [evrL_len]; omega)
    have hmore := fun (q0 : clB b [] = false) (k : Nat) (hk : k ≤ 8) => more_c b ok q0 k [] 0 (by simp; omega) (by omega)
    have hev0 : List.replicate (((b.surveys.map suA).length : Int)).toNat (AV.int .i64 0) = ivs b.surveys.length fun q => if q < 0 then (q : Int) else 0 := by
      rw [show (((b.surveys.map suA).length : Int)).toNat = b.surveys.length by omega, ivs_rep]
      exact ivs_congr fun q _ => by rw [if_neg (by omega)]
    rw [if_neg (fun h => h hE)]
    cases h0 : clB b [] with
    | true =>
      rw [h0] at hc0
      refine Comp.body (T := tab) (res := [.tmp 2, .tmp 3]) tab_ok [] Try.func61 rfl (by kernel_rfl) Try.ntmps61 rfl (by simp only [List.length_cons, List.length_nil]; decide) (by simp only [lowL, bedL]; rfl) ?_; conv => whnf
      skip
      refine Walk.scope tab_ok [] ?_
      conv => whnf
      repeat' first | ((with_reducible apply XBr.bne) <;> (intro h; first | (exfalso; omega) | (conv => whnf))) | ((with_reducible refine XHold.mk ?_ ?_); (first | omega | rfl | decide | exact ⟨rfl, by decide, rfl⟩ | exact wideI _ | exact widePr _ | exact wideSk _ | (unfold Room; constructor <;> ((try simp) <;> omega)) | exact ⟨rfl, by simp only [List.length_map], by unfold Room; constructor <;> ((try simp) <;> omega)⟩ | exact ⟨by omega, by omega, by unfold Room; constructor <;> ((try simp) <;> omega)⟩); conv => whnf) | ((first | (refine XCall.ret ho ?_) | (refine XHold.mk (by rw [List.length_replicate]) ?_)); conv => whnf) | fail
      refine Walk.loopK tab_ok [] [(1, _), (2, _), (3, _), (6, _), (7, .gr 2 b.surveys.length), (26, .int .i64 b.surveys.length)] ⟨rfl, rfl, rfl, rfl, by rw [show b.surveys.length = (((b.surveys.map suA).length : Int)).toNat by omega]; rfl, by rw [show (b.surveys.length : Int) = ((((b.surveys.map suA).length : Int)).toNat : Nat) by omega]; rfl, trivial⟩ (fun i : Nat => i ≤ b.surveys.length) (fun i => [(27, natA i)]) (fun i => [.cells [dskA b], .cells [.fn 136 [.ptr 0 0]], .grow 3 false (ivs b.surveys.length fun q => if q < i then (q : Int) else 0)]) (fun i => b.surveys.length - i) 0 (Nat.zero_le _) (by rw [← hev0]) ⟨rfl, trivial⟩ ?_
      intro i hi
      have hvl := ivs_len b.surveys.length fun q => if q < i then (q : Int) else 0
      conv => whnf
      by_cases hlt : i < b.surveys.length
      · skip
        repeat' first | ((with_reducible apply XBr.dec) <;> (intro h; first | (exfalso; omega) | ((try simp only [List.length_map] at h); first | (exfalso; omega) | (conv => whnf)))) | ((first | (with_reducible refine XInt.i64 (by omega) (by omega) ?_) | (refine XHold.mk ⟨hvl, rfl, by omega, by omega⟩ ?_) | (refine XPut.ivs i (by omega) rfl (by omega) ?_)); conv => whnf) | fail
        refine XAgain.go (i + 1) (by omega) (by omega) ?_ ⟨rfl, rfl, rfl, rfl, rfl, rfl, rfl, trivial⟩
        show [_, _, Blk.grow _ false (ivs _ _)] = [_, _, Blk.grow _ false (ivs _ _)]
        refine congrArg (fun z => [_, _, Blk.grow _ false z]) (ivs_congr fun q _ => ?_)
        unfold updV
        by_cases hq : q = i
        · rw [if_pos hq, if_pos (by omega), hq]
        · rw [if_neg hq]
          show (if q < i + 1 then (q : Int) else 0) = if q < i then (q : Int) else 0
          by_cases hq2 : q < i
          · rw [if_pos hq2, if_pos (by omega)]
          · rw [if_neg hq2, if_neg (by omega)]
      obtain rfl : i = b.surveys.length := by omega
      rw [show (ivs b.surveys.length fun q => if q < b.surveys.length then (q : Int) else 0) = ints (evrL b) from ivs_congr fun q hq => if_pos hq]
      repeat' first | ((with_reducible apply XBr.tt); conv => whnf) | ((with_reducible apply XBr.dec) <;> (intro h; first | (exfalso; omega) | ((try simp only [List.length_map] at h); first | (exfalso; omega) | (conv => whnf)))) | ((refine XCall.lend hc0 (.cons (.low rfl) (.cons (Froz.ptr rfl (one1 rfl) (.cons (.low (dskL b)) .nil)) .nil)) rfl ?_); conv => whnf) | fail
      exact ⟨.low rfl⟩
    | false =>
      have hmore := hmore h0
      rw [h0] at hc0
      cases h1 : clB b (evrL b) with
      | false =>
        rw [h1] at hc1
        refine Comp.body (T := tab) (res := [.tmp 2, .tmp 3]) tab_ok [] Try.func61 rfl (by kernel_rfl) Try.ntmps61 rfl (by simp only [List.length_cons, List.length_nil]; decide) (by simp only [lowL, bedL]; rfl) ?_; conv => whnf
        skip
        refine Walk.scope tab_ok [] ?_
        conv => whnf
        repeat' first | ((with_reducible apply XBr.bne) <;> (intro h; first | (exfalso; omega) | (conv => whnf))) | ((with_reducible refine XHold.mk ?_ ?_); (first | omega | rfl | decide | exact ⟨rfl, by decide, rfl⟩ | exact wideI _ | exact widePr _ | exact wideSk _ | (unfold Room; constructor <;> ((try simp) <;> omega)) | exact ⟨rfl, by simp only [List.length_map], by unfold Room; constructor <;> ((try simp) <;> omega)⟩ | exact ⟨by omega, by omega, by unfold Room; constructor <;> ((try simp) <;> omega)⟩); conv => whnf) | ((first | (refine XCall.ret ho ?_) | (refine XHold.mk (by rw [List.length_replicate]) ?_)); conv => whnf) | fail
        refine Walk.loopK tab_ok [] [(1, _), (2, _), (3, _), (6, _), (7, .gr 2 b.surveys.length), (26, .int .i64 b.surveys.length)] ⟨rfl, rfl, rfl, rfl, by rw [show b.surveys.length = (((b.surveys.map suA).length : Int)).toNat by omega]; rfl, by rw [show (b.surveys.length : Int) = ((((b.surveys.map suA).length : Int)).toNat : Nat) by omega]; rfl, trivial⟩ (fun i : Nat => i ≤ b.surveys.length) (fun i => [(27, natA i)]) (fun i => [.cells [dskA b], .cells [.fn 136 [.ptr 0 0]], .grow 3 false (ivs b.surveys.length fun q => if q < i then (q : Int) else 0)]) (fun i => b.surveys.length - i) 0 (Nat.zero_le _) (by rw [← hev0]) ⟨rfl, trivial⟩ ?_
        intro i hi
        have hvl := ivs_len b.surveys.length fun q => if q < i then (q : Int) else 0
        conv => whnf
        by_cases hlt : i < b.surveys.length
        · skip
          repeat' first | ((with_reducible apply XBr.dec) <;> (intro h; first | (exfalso; omega) | ((try simp only [List.length_map] at h); first | (exfalso; omega) | (conv => whnf)))) | ((first | (with_reducible refine XInt.i64 (by omega) (by omega) ?_) | (refine XHold.mk ⟨hvl, rfl, by omega, by omega⟩ ?_) | (refine XPut.ivs i (by omega) rfl (by omega) ?_)); conv => whnf) | fail
          refine XAgain.go (i + 1) (by omega) (by omega) ?_ ⟨rfl, rfl, rfl, rfl, rfl, rfl, rfl, trivial⟩
          show [_, _, Blk.grow _ false (ivs _ _)] = [_, _, Blk.grow _ false (ivs _ _)]
          refine congrArg (fun z => [_, _, Blk.grow _ false z]) (ivs_congr fun q _ => ?_)
          unfold updV
          by_cases hq : q = i
          · rw [if_pos hq, if_pos (by omega), hq]
          · rw [if_neg hq]
            show (if q < i + 1 then (q : Int) else 0) = if q < i then (q : Int) else 0
            by_cases hq2 : q < i
            · rw [if_pos hq2, if_pos (by omega)]
            · rw [if_neg hq2, if_neg (by omega)]
        obtain rfl : i = b.surveys.length := by omega
        rw [show (ivs b.surveys.length fun q => if q < b.surveys.length then (q : Int) else 0) = ints (evrL b) from ivs_congr fun q hq => if_pos hq]
        repeat' first | ((with_reducible apply XBr.ff); conv => whnf) | (with_reducible apply XBr.not) | ((with_reducible apply XBr.dec) <;> (intro h; first | (exfalso; omega) | ((try simp only [List.length_map] at h); first | (exfalso; omega) | (conv => whnf)))) | ((first | (refine XCall.lend hc0 (.cons (.low rfl) (.cons (Froz.ptr rfl (one1 rfl) (.cons (.low (dskL b)) .nil)) .nil)) rfl ?_) | (refine XCall.lend hc1 (.cons (Froz.grow rfl hevl (lowI _)) (.cons (Froz.ptr rfl (one1 rfl) (.cons (.low (dskL b)) .nil)) .nil)) rfl ?_)); conv => whnf) | fail
        exact ⟨.low rfl⟩
      | true =>
        rw [h1] at hc1
        have hcx : clsF (clB b) b.surveys.length ≠ none := clsF_ex (by rw [← h1]; unfold evrL; rw [vecF_eq])
        refine Comp.body (T := tab) (res := [.tmp 2, .tmp 3]) tab_ok [] Try.func61 rfl (by kernel_rfl) Try.ntmps61 rfl (by simp only [List.length_cons, List.length_nil]; decide) (by simp only [lowL, bedL]; rfl) ?_; conv => whnf
        skip
        refine Walk.scope tab_ok [] ?_
        conv => whnf
        repeat' first | ((with_reducible apply XBr.bne) <;> (intro h; first | (exfalso; omega) | (conv => whnf))) | ((with_reducible refine XHold.mk ?_ ?_); (first | omega | rfl | decide | exact ⟨rfl, by decide, rfl⟩ | exact wideI _ | exact widePr _ | exact wideSk _ | (unfold Room; constructor <;> ((try simp) <;> omega)) | exact ⟨rfl, by simp only [List.length_map], by unfold Room; constructor <;> ((try simp) <;> omega)⟩ | exact ⟨by omega, by omega, by unfold Room; constructor <;> ((try simp) <;> omega)⟩); conv => whnf) | ((first | (refine XCall.ret ho ?_) | (refine XHold.mk (by rw [List.length_replicate]) ?_)); conv => whnf) | fail
        refine Walk.loopK tab_ok [] [(1, _), (2, _), (3, _), (6, _), (7, .gr 2 b.surveys.length), (26, .int .i64 b.surveys.length)] ⟨rfl, rfl, rfl, rfl, by rw [show b.surveys.length = (((b.surveys.map suA).length : Int)).toNat by omega]; rfl, by rw [show (b.surveys.length : Int) = ((((b.surveys.map suA).length : Int)).toNat : Nat) by omega]; rfl, trivial⟩ (fun i : Nat => i ≤ b.surveys.length) (fun i => [(27, natA i)]) (fun i => [.cells [dskA b], .cells [.fn 136 [.ptr 0 0]], .grow 3 false (ivs b.surveys.length fun q => if q < i then (q : Int) else 0)]) (fun i => b.surveys.length - i) 0 (Nat.zero_le _) (by rw [← hev0]) ⟨rfl, trivial⟩ ?_
        intro i hi
        have hvl := ivs_len b.surveys.length fun q => if q < i then (q : Int) else 0
        conv => whnf
        by_cases hlt : i < b.surveys.length
        · skip
          repeat' first | ((with_reducible apply XBr.dec) <;> (intro h; first | (exfalso; omega) | ((try simp only [List.length_map] at h); first | (exfalso; omega) | (conv => whnf)))) | ((first | (with_reducible refine XInt.i64 (by omega) (by omega) ?_) | (refine XHold.mk ⟨hvl, rfl, by omega, by omega⟩ ?_) | (refine XPut.ivs i (by omega) rfl (by omega) ?_)); conv => whnf) | fail
          refine XAgain.go (i + 1) (by omega) (by omega) ?_ ⟨rfl, rfl, rfl, rfl, rfl, rfl, rfl, trivial⟩
          show [_, _, Blk.grow _ false (ivs _ _)] = [_, _, Blk.grow _ false (ivs _ _)]
          refine congrArg (fun z => [_, _, Blk.grow _ false z]) (ivs_congr fun q _ => ?_)
          unfold updV
          by_cases hq : q = i
          · rw [if_pos hq, if_pos (by omega), hq]
          · rw [if_neg hq]
            show (if q < i + 1 then (q : Int) else 0) = if q < i then (q : Int) else 0
            by_cases hq2 : q < i
            · rw [if_pos hq2, if_pos (by omega)]
            · rw [if_neg hq2, if_neg (by omega)]
        obtain rfl : i = b.surveys.length := by omega
        rw [show (ivs b.surveys.length fun q => if q < b.surveys.length then (q : Int) else 0) = ints (evrL b) from ivs_congr fun q hq => if_pos hq]
        repeat' first | ((first | (with_reducible apply XBr.tt) | (with_reducible apply XBr.ff)); conv => whnf) | (with_reducible apply XBr.not) | ((with_reducible apply XBr.dec) <;> (intro h; first | (exfalso; omega) | ((try simp only [List.length_map] at h); first | (exfalso; omega) | (conv => whnf)))) | ((first | (refine XCall.lend hc0 (.cons (.low rfl) (.cons (Froz.ptr rfl (one1 rfl) (.cons (.low (dskL b)) .nil)) .nil)) rfl ?_) | (refine XCall.lend hc1 (.cons (Froz.grow rfl hevl (lowI _)) (.cons (Froz.ptr rfl (one1 rfl) (.cons (.low (dskL b)) .nil)) .nil)) rfl ?_)); conv => whnf) | fail
        refine Walk.label ?_
        conv => whnf
        repeat' first | ((with_reducible refine XInt.i64 (by omega) (by omega) ?_); conv => whnf) | fail
        refine Walk.loopGK tab_ok [] [(1, _), (2, _), (3, _), (6, _), (9, _), (46, _)] ⟨rfl, rfl, rfl, rfl, rfl, rfl, trivial⟩ (fun j : Nat => j ≤ b.surveys.length + 1 ∧ ∀ k, k < j → moreF (clB b) b.surveys.length k [] 0 = none) (fun j => [(47, natA j)]) (fun _ => [.cells [dskA b], .cells [.fn 136 [.ptr 0 0]], .grow 3 false (ints (evrL b)), .cells [slA []]]) (fun j => b.surveys.length + 1 - j) 0 ⟨Nat.zero_le _, fun k hk => by omega⟩ rfl ⟨rfl, trivial⟩ ?_ (fun _ _ => (show (4 : Nat) ≤ 4 from Nat.le_refl 4)) ?_
        · intro q _
          refine ⟨fun z hz => ?_, fun z hz => ?_⟩
          · simp only [List.mem_cons, List.not_mem_nil, or_false] at hz
            rcases hz with rfl | rfl | rfl | rfl
            · simp only [Blk.low, lowL, dskL]; rfl
            · rfl
            · exact lowI _
            · rfl
          · simp only [List.cons_append, List.nil_append, List.mem_cons, List.not_mem_nil, or_false] at hz
            rcases hz with rfl | rfl | rfl | rfl | rfl | rfl | rfl <;> first | rfl | exact lowBd b
        rintro j ⟨hj, hno⟩
        conv => whnf
        by_cases hlt : j < b.surveys.length + 1
        · have hm := hmore j (by omega)
          cases hR : moreF (clB b) b.surveys.length j [] 0 with
          | none =>
            repeat' first | ((with_reducible apply XBr.ff); conv => whnf) | ((with_reducible apply XBr.dec) <;> (intro h; first | (exfalso; omega) | ((try simp only [List.length_map] at h); first | (exfalso; omega) | (conv => whnf)))) | ((first | (with_reducible refine XInt.i64 (by omega) (by omega) ?_) | ((refine XCall.more hm rfl 0 1 3 4 (by omega) rfl rfl rfl rfl ?_); rw [hR, show (none : Option (List Int)).isSome = false from rfl])); conv => whnf) | fail
            refine XAgainG.go (j + 1) [.cells [.fn 139 [.ptr 3 0, .ptr 1 0, .pim (bedC b), .ptr 4 0]]] ⟨by omega, fun k hk => ?_⟩ (by omega) rfl ⟨rfl, rfl, rfl, rfl, rfl, rfl, rfl, trivial⟩
            by_cases hk2 : k = j
            · rw [hk2]; exact hR
            · exact hno k (by omega)
          | some L =>
            have hcl : clsF (clB b) b.surveys.length = some L := findSome_range (by omega) hno hR
            repeat' first | ((with_reducible apply XBr.tt); conv => whnf) | ((with_reducible apply XBr.dec) <;> (intro h; first | (exfalso; omega) | ((try simp only [List.length_map] at h); first | (exfalso; omega) | (conv => whnf)))) | (((refine XCall.more hm rfl 0 1 3 4 (by omega) rfl rfl rfl rfl ?_); rw [hR, show (some L).isSome = true from rfl]); conv => whnf) | fail
            rw [hcl]
            exact ⟨.low (show lowL 0 [slA L, _] = true by simp only [lowL, slA_low, AV.low]; rfl)⟩
        · exfalso
          refine hcx ?_
          unfold clsF
          rw [List.findSome?_eq_none_iff]
          exact fun k hk => hno k (by have := List.mem_range.1 hk; omega)
  · have ho := bOpenedE_c b hm hs hE
    rw [if_pos hE]
    generalize bedE b = e at ho hE
    refine Comp.body (T := tab) (res := [.tmp 2, .tmp 3]) tab_ok [] Try.func61 rfl (by kernel_rfl) Try.ntmps61 rfl (by simp only [List.length_cons, List.length_nil]; decide) (by simp only [lowL, bedL]; rfl) ?_; conv => whnf
    skip
    refine Walk.scope tab_ok [] ?_
    conv => whnf
    repeat' first | ((with_reducible apply XBr.bne) <;> (intro h; first | (exfalso; omega) | (conv => whnf))) | ((refine XCall.ret ho ?_); conv => whnf) | fail
    exact ⟨.low rfl⟩
end GA
end

section
namespace GA
open Go Go.RowKit
set_option linter.unusedVariables false
section
variable {P : Program} {N : Nat} {ρ : Option Nat} {H : List Blk} {σ : St} {D : List Nat} {Q : Post} {E : Env} {h : Nat → Option Obj} {β : Nat → Value} {a : Act} {w : World}

theorem keep_stands (H1 l : List Blk) (L : List (Nat × AV)) (hlow : ∀ x ∈ H1, x.low H1.length = true) (hs : SubF P H1.length (H1 ++ l) L σ) (s : Stands P E N h β D σ (H1 ++ l) a w) :
    ∃ h', Ext h β (H1 ++ l) h' β (H1 ++ l.map fun _ => .dead) ∧ Stands P E N h' β D (stX L) (H1 ++ l.map fun _ => .dead) a w := by
  have hd : ∀ (l : List Blk) (i : Nat) x, (l.map fun _ => Blk.dead)[i]? = some x → x = .dead := fun l i x e => by
    rw [List.getElem?_map] at e
    cases hx : l[i]? with
    | none => rw [hx] at e; cases e
    | some y => rw [hx] at e; cases e; rfl
  have X : Ext h β (H1 ++ l) (hallN H1.length h β (H1 ++ l) w) β (H1 ++ l.map fun _ => .dead) := by
    refine ⟨fun b o e => hallN_imm s.sr e, by simp, fun i x x' e e' => ?_⟩
    by_cases hi : i < H1.length
    · rw [List.getElem?_append_left hi] at e e'
      rw [e] at e'; cases e'; exact Blk.to_refl _ _ _
    · rw [List.getElem?_append_right (by omega)] at e'
      have := hd _ _ _ e'
      subst this
      cases x <;> first | rfl | trivial | exact .inl rfl
  have s1 := s.sr.allN hlow
  have X1 : Ext (hallN H1.length h β (H1 ++ l) w) β H1 (hallN H1.length h β (H1 ++ l) w) β (H1 ++ l.map fun _ => .dead) :=
    ⟨fun _ _ e => e, by simp, fun i x x' e e' => by rw [List.getElem?_append_left (List.getElem?_eq_some_iff.1 e).1, e] at e'; cases e'; exact Blk.to_refl _ _ _⟩
  have hbo : ∀ i b, blkOf β (H1 ++ l.map fun _ => .dead) i = some b → blkOf β H1 i = some b := fun i b e => by
    have hlt := (blkOf_some e).1
    by_cases hi : i < H1.length
    · rw [← e]; exact (blkOf_congr rfl (List.getElem?_append_left hi)).symm
    · exfalso
      unfold blkOf at e
      cases hx : (H1 ++ l.map fun _ => Blk.dead)[i]? with
      | none => rw [hx] at e; cases e
      | some x =>
        rw [hx] at e
        rw [List.getElem?_append_right (by omega)] at hx
        have := hd _ _ _ hx
        subst this; cases e
  have s2 : SR P E (hallN H1.length h β (H1 ++ l) w) β (H1 ++ l.map fun _ => .dead) w := by
    refine s1.grown X1 s1.env s1.imm (fun i x e => ?_) (fun i j b e1 e2 => s1.own i j b (hbo _ _ e1) (hbo _ _ e2)) (fun i b e => s1.fresh i b (hbo _ _ e)) s1.frm (fun i b e => s1.fro i b (hbo _ _ e))
    by_cases hi : i < H1.length
    · rw [List.getElem?_append_left hi] at e; exact .inl ⟨e, rfl, fun _ _ => rfl⟩
    · rw [List.getElem?_append_right (by omega)] at e
      have := hd _ _ _ e
      subst this; exact .inr trivial
  refine ⟨_, X, ⟨s2, fun t r e => ?_, s.size, s.df.ext X⟩⟩
  obtain ⟨r0, e1, e2⟩ := stX_subF hs t r e
  obtain ⟨v, h1, h2⟩ := s.fits t r0 e1
  rcases e2 with e2 | ⟨rfl, e2⟩
  · exact ⟨v, h1, e2 E h β w s.sr v h2 _⟩
  · refine ⟨v, h1, X1.rep (Rep.cut (l := l) ?_ e2)⟩
    have XA : Ext h β (H1 ++ l) (hallN H1.length h β (H1 ++ l) w) β (H1 ++ l) := ⟨fun b o e => hallN_imm s.sr e, Nat.le_refl _, fun i x x' e e' => by rw [e] at e'; cases e'; exact Blk.to_refl _ _ _⟩
    exact XA.rep h2
structure XKeepE (P : Program) (σ : St) (H : List Blk) (k : St → List Blk → Prop) : Prop where
  o : ∃ (H1 l : List Blk) (L : List (Nat × AV)), H1 ++ l = H ∧ (∀ x ∈ H1, x.low H1.length = true) ∧ SubF P H1.length H L σ ∧ k (stX L) (H1 ++ l.map fun _ => .dead)
theorem XKeepE.go {k : St → List Blk → Prop} (H1 l : List Blk) (L : List (Nat × AV)) (hH : H1 ++ l = H) (hlow : ∀ x ∈ H1, x.low H1.length = true) (hs : SubF P H1.length H L σ) (x : k (stX L) (H1 ++ l.map fun _ => .dead)) : XKeepE P σ H k := ⟨H1, l, L, hH, hlow, hs, x⟩
def keepQ (P : Program) (Q : Post) : Post
  | .exit id, D, σ, H => XKeepE P σ H (Q (.exit id) D)
  | e, D, σ, H => Q e D σ H
theorem Walk.thenKeep {c : Code} (x : Walk P N ρ c (keepQ P Q) D σ H) : Walk P N ρ c Q D σ H := by
  constructor
  intro E h β a w s
  refine wpIn_mono (x.o E h β a w s) fun e a' w' hc => ?_
  obtain ⟨D', σ', H', h', β', q, X, s'⟩ := hc
  cases e with
  | exit id =>
    obtain ⟨H1, l, L, rfl, hlow, hs, q⟩ := q.o
    obtain ⟨h'', X1, s1⟩ := keep_stands H1 l L hlow hs s'
    exact ⟨D', _, _, h'', β', q, X.trans X1, s1⟩
  | _ => exact ⟨D', σ', H', h', β', q, X, s'⟩
theorem hallN_zero {h : Nat → Option Obj} {β : Nat → Value} {H : List Blk} {w : World} : hallN 0 h β H w = hall h β H w := by
  funext b
  by_cases hx : ∃ i, blkOf β H i = some b
  · obtain ⟨i, hi⟩ := hx
    rw [hallN_own (Nat.zero_le i) hi]
    unfold hall; rw [if_pos ⟨i, hi⟩]
  · unfold hallN hall
    rw [if_neg hx, if_neg (fun ⟨i, _, h⟩ => hx ⟨i, h⟩)]
theorem Froz.n0 {r r' : AV} (f : Froz P H r r') : FrozN P 0 H r r' := fun E h β w s v hr H1 => by
  rw [hallN_zero]
  exact (f E h β w s v hr).none
theorem XKeep.all {r r' : AV} (f : Froz P H r r') : XKeep P 0 H r r' := .inl f.n0
end
end GA
end

section
namespace GA
open Go Go.RowKit Go.Proofs
set_option pp.deepTerms true
set_option maxRecDepth 8000
set_option linter.unusedVariables false
set_option linter.unusedSimpArgs false

theorem susRen {ρ : Nat → Nat} (t : TypeId) (nl : Bool) (l : List Su) : (Blk.grow t nl (sus l)).ren ρ = .grow t nl (sus l) := by simp only [Blk.ren, renL_low0 (sus_low l)]
theorem dup_su_g (nl : Bool) (xs : List Su) (hx : xs.length ≤ 100000) : Gives Try.prog 100 [.sl nl (xs.map suA)] (.gr 0 xs.length) [.grow 122 false (sus xs)] := by
  refine Gives.body (T := tab) (res := [.tmp 2]) tab_ok [] Try.func100 rfl (by kernel_rfl) Try.ntmps100 rfl (by simp only [List.length_cons, List.length_nil]; decide) (by simp only [lowL, AV.low, lowSu]; rfl) rfl (fun x hx => by simp only [List.mem_cons, List.not_mem_nil, or_false] at hx; subst hx; exact sus_low _) ?_; conv => whnf
  refine XHold.mk ⟨by omega, by simp, by unfold Room; simp; omega⟩ ?_
  conv => whnf
  refine XHold.mk (wideSu xs) ?_
  conv => whnf
  refine XHold.mk ⟨rfl, rfl, by unfold Room; simp; omega⟩ ?_
  conv => whnf
  exact XGive.mk' [0] rfl (by decide) ⟨congrArg some (susRen _ _ _).symm, trivial⟩ (by show AV.gr 0 _ = AV.gr 0 _; congr 1; show 0 + (xs.map suA).length = _; rw [List.length_map, Nat.zero_add])
theorem XCall.dupSu {nl : Bool} {xs : List Su} {H : List Blk} {k : AV → List Blk → Prop} (hx : xs.length ≤ 100000) (hk : k (.gr H.length xs.length) (H ++ [.grow 122 false (sus xs)])) : XCall Try.prog 100 [.sl nl (xs.map suA)] H k := by
  refine XCall.give (dup_su_g nl xs hx) ?_
  rw [List.map_cons, susRen, List.map_nil]; exact hk
def bedG (b : Bd) (i n : Nat) : List AV := [.int .i64 b.room, .int .i64 b.first, .int .i64 b.unsure, .sl b.nlm (b.months.map moA), .gr i n]
theorem own04_g (b : Bd) (h1 : b.months.length ≤ 100000) (h2 : b.surveys.length ≤ 100000) : Gives Try.prog 26 [bedA b] (.agg (bedG (ownB b) 0 b.surveys.length)) [.grow 122 false (sus b.surveys)] := by
  refine Gives.body (T := tab) (res := [.cell 2 26]) tab_ok [1] Try.func26 rfl (by kernel_rfl) Try.ntmps26 rfl (by simp only [List.length_cons, List.length_nil]; decide) (by simp only [lowL, bedL]; rfl) (by simp only [bedG, AV.low, lowL, lowMo]; rfl) (fun x hx => by simp only [List.mem_cons, List.not_mem_nil, or_false] at hx; subst hx; exact sus_low _) ?_; conv => whnf
  apply Walk.drawX tab_ok mixed_ok [] [5, 7, 9] (fun fl => match fl with
    | [a, y, z] => [.cells [.int .i64 b.room, .int .i64 b.first, .int .i64 b.unsure, (bif y then .sl false (b.months.map moA) else .sl b.nlm (b.months.map moA)), (bif z then .gr 2 b.surveys.length else .sl b.nls (b.surveys.map suA))], .cells bzero] ++ (bif a then [.grow 122 false (sus b.surveys)] else [])
    | _ => []) [_, _, .sl false (b.months.map moA), _, _, .gr 2 b.surveys.length, _, _, _, _] (by kernel_rfl) rfl
  · skip
    repeat' first | (with_reducible apply XAnd.mk) | ((first | (with_reducible apply Chk.go) | (with_reducible apply ChkA.go)); conv => whnf) | (exact XSame.mk rfl rfl) | (with_reducible exact trivial) | ((first | (refine XCall.ret (dup_mo _ b.months h1) ?_) | (refine XCall.dupSu h2 ?_)); conv => whnf) | fail
  · skip
    repeat' first | (with_reducible apply XAnd.mk) | ((first | (with_reducible apply Chk.go) | (with_reducible apply ChkF.go) | (with_reducible apply ChkB.go)); conv => whnf) | (exact XSame.mk rfl rfl) | (with_reducible exact trivial) | fail
  conv => whnf
  skip
  exact XGive.mk' [2] rfl (by decide) ⟨congrArg some (susRen _ _ _).symm, trivial⟩ (by show AV.agg _ = AV.agg (renL _ _); simp only [bedG, renL, AV.ren, renL_low0 (lowMo _)]; rfl)
theorem XCall.own04 {b : Bd} {H : List Blk} {k : AV → List Blk → Prop} (h1 : b.months.length ≤ 100000) (h2 : b.surveys.length ≤ 100000) (hk : k (.agg (bedG (ownB b) H.length b.surveys.length)) (H ++ [.grow 122 false (sus b.surveys)])) : XCall Try.prog 26 [bedA b] H k := by
  refine XCall.give (own04_g b h1 h2) ?_
  rw [List.map_cons, susRen, List.map_nil]
  simp only [bedG, AV.ren, renL, renL_low0 (lowMo _)]
  exact hk
theorem survey1_c (b : Bd) (m : Nat) (hm : m ≤ b.months.length) (hM : b.months.length ≤ 10) (x : Int) : Comp Try.prog 78 [.int .i64 x, .pim [.sl false (rowsA (canRs b))], .pim [natA m]] (.bool (!(canL b m).contains x)) := by
  have hc := contains_c (canL b m).isEmpty (canL b m) x (by have := lstF_len (cnB b alwP m) 121; unfold canL; omega)
  have hg := canRs_get hm
  have e1 := canRs_len b
  generalize (canL b m).contains x = r at hc
  rw [← hg] at hc
  refine Comp.body (T := tab) (res := [.tmp 4]) tab_ok [] Try.func78 rfl (by kernel_rfl) Try.ntmps78 rfl (by simp only [List.length_cons, List.length_nil]; decide) (by simp only [lowL, AV.low, rowsA_low]; rfl) ?_; conv => whnf
  repeat' first | ((first | ((with_reducible refine XIx.nat ?_ ?_ ?_); omega; (intro _; rfl)) | (refine XCall.ret hc ?_)); conv => whnf) | fail
  exact ⟨.low rfl⟩
end GA
end

section
namespace GA
open Go Go.RowKit Go.Proofs
set_option maxRecDepth 8000
set_option linter.unusedVariables false
set_option linter.unusedSimpArgs false

theorem mem_getD2 {α : Type} {l : List α} {x d : α} (h : x ∈ l) : ∃ i, i < l.length ∧ l.getD i d = x := by
  obtain ⟨i, hi, rfl⟩ := List.mem_iff_getElem.1 h
  exact ⟨i, hi, by rw [List.getD_eq_getElem?_getD, List.getElem?_eq_getElem hi]; rfl⟩
theorem suB_mem {b : Bd} {s : Su} : s ∈ b.surveys ↔ ∃ i, i < b.surveys.length ∧ suB b i = s := by
  constructor
  · exact fun h => mem_getD2 h
  · rintro ⟨i, hi, rfl⟩; exact getD_mem hi
theorem agB_mem {b : Bd} {m n : Nat} : agB b alwP m n = true ↔ ∀ s ∈ b.surveys, s.m = m → s.lo ≤ n ∧ (n : Int) ≤ s.hi := by
  rw [agB_iff]
  constructor
  · intro h s hs h1
    obtain ⟨i, hi, rfl⟩ := suB_mem.1 hs
    exact h i hi h1 rfl
  · intro h i hi h1 _
    exact h _ (suB_mem.2 ⟨i, hi, rfl⟩) h1
theorem none_mono {b b' : Bd} (ok : BedOk b) (ok' : BedOk b') (e : SameB b b') {p p' : Nat → Bool} (h : ∀ m n, agB b p m n = true → agB b' p' m n = true) (hn : noneB b p = false) : noneB b' p' = false := by
  obtain ⟨c, hc⟩ := (none_iff ok).1 hn
  exact (none_iff ok').2 ⟨c, hc.other e fun m _ h1 => h m _ h1⟩
theorem SameB.symm {b c : Bd} (h : SameB b c) : SameB c b := ⟨h.r.symm, h.f.symm, h.u.symm, h.m.symm⟩
theorem none_eq {b b' : Bd} (ok : BedOk b) (ok' : BedOk b') (e : SameB b b') {p p' : Nat → Bool} (h : ∀ m n, agB b p m n = true ↔ agB b' p' m n = true) : noneB b p = noneB b' p' := by
  cases h1 : noneB b p with
  | false => exact (none_mono ok ok' e (fun m n => (h m n).1) h1).symm
  | true =>
    cases h2 : noneB b' p' with
    | true => rfl
    | false =>
      rw [none_mono ok' ok e.symm (fun m n => (h m n).2) h2] at h1; cases h1
theorem cls_all {b : Bd} (ok : BedOk b) : clB b (evrL b) = noneB b alwP := by
  refine none_eq ok ok ⟨rfl, rfl, rfl, rfl⟩ fun m n => ?_
  rw [agB_iff, agB_iff]
  constructor
  · intro h i hi h1 _
    refine h i hi h1 ?_
    unfold conP evrL
    rw [List.contains_iff_mem]
    exact vecF_mem.2 ⟨i, hi, rfl⟩
  · intro h i hi h1 _
    exact h i hi h1 rfl
theorem cls_nil {b b0 : Bd} (ok : BedOk b) (e : SameB b0 b) {c : Nat → Nat} {p : Nat → Bool} (hc : Crs b0 p c) : clB b [] = false := by
  refine (none_iff ok).2 ⟨c, hc.other e fun m _ _ => agB_iff.2 fun i hi h1 h2 => ?_⟩
  unfold conP at h2
  simp at h2
def selL (u : Bd) (L : List Int) : List Su := L.map fun x => suB u x.toNat
def selB (u : Bd) (L : List Int) : Bd := { ownB u with nls := (selL u L).isEmpty, surveys := selL u L }
theorem selB_same (u : Bd) (L : List Int) : SameB u (selB u L) := ⟨rfl, rfl, rfl, rfl⟩
theorem selB_ok {u : Bd} (ok : BdOk u) {L : List Int} (hL : ∀ x ∈ L, 0 ≤ x ∧ x < u.surveys.length) (h8 : L.length ≤ 8) : BdOk (selB u L) := by
  refine ⟨⟨ok.r1, ok.r2, ok.m1, ok.m2, ok.f1, ok.f2, ok.u1, ok.u2, ok.mo⟩, ?_, fun s hs => ?_⟩
  · show (L.map _).length ≤ 8
    rw [List.length_map]; exact h8
  · obtain ⟨x, hx, rfl⟩ := List.mem_map.1 hs
    have := hL x hx
    exact ok.su _ (suB_mem.2 ⟨x.toNat, by omega, rfl⟩)
theorem selB_none {u : Bd} (ok : BdOk u) {L : List Int} (hL : ∀ x ∈ L, 0 ≤ x ∧ x < u.surveys.length) (h8 : L.length ≤ 8) : noneB (selB u L) alwP = clB u L := by
  refine (none_eq ok.toBedOk (selB_ok ok hL h8).toBedOk (selB_same u L) fun m n => ?_).symm
  rw [agB_mem, agB_iff]
  constructor
  · intro h s hs h1
    obtain ⟨x, hx, rfl⟩ := List.mem_map.1 hs
    have h2 := hL x hx
    refine h x.toNat (by omega) h1 ?_
    unfold conP
    rw [Int.toNat_of_nonneg h2.1, List.contains_iff_mem]; exact hx
  · intro h i hi h1 h2
    unfold conP at h2
    rw [List.contains_iff_mem] at h2
    exact h _ (List.mem_map.2 ⟨(i : Int), h2, by rw [Int.toNat_natCast]⟩) h1
def exS (b : Bd) (u : Hp) : Su := ⟨modV (hpS u) b.months.length, modV u b.room, min b.room (modV u b.room + modV (hpS (hpS u)) 5)⟩
def exK (b : Bd) (u : Hp) : Nat → List Su × Hp
  | 0 => ([], u)
  | k + 1 => ((exK b u k).1 ++ [exS b (exK b u k).2], hpS (hpS (hpS (exK b u k).2)))
theorem exK_ok {b : Bd} {u : Hp} (o : u.Ok) : ∀ k, (exK b u k).2.Ok ∧ (exK b u k).1.length = k
  | 0 => ⟨o, rfl⟩
  | k + 1 => by
    obtain ⟨h1, h2⟩ := exK_ok (b := b) o k
    exact ⟨hpS_ok (hpS_ok (hpS_ok h1)), by show ((exK b u k).1 ++ [_]).length = _; rw [List.length_append, h2]; rfl⟩
theorem exK_mem {b : Bd} {u : Hp} : ∀ {k : Nat} {s : Su}, s ∈ (exK b u k).1 → ∃ v, s = exS b v
  | k + 1, s, h => by
    have h' : s ∈ (exK b u k).1 ++ [exS b (exK b u k).2] := h
    rw [List.mem_append, List.mem_singleton] at h'
    rcases h' with h' | h'
    · exact exK_mem h'
    · exact ⟨_, h'⟩
theorem exS_ok {b : Bd} (ok : BedOk b) (u : Hp) : 0 ≤ (exS b u).m ∧ (exS b u).m ≤ b.months.length ∧ 0 ≤ (exS b u).lo ∧ (exS b u).lo ≤ (exS b u).hi ∧ (exS b u).hi ≤ b.room := by
  have h1 := modV_bound u b.room
  have h2 := modV_bound (hpS u) b.months.length
  have h3 := modV_bound (hpS (hpS u)) 5
  have r1 := ok.r1
  have h4 : (exS b u).m = modV (hpS u) b.months.length := rfl
  have h5 : (exS b u).lo = modV u b.room := rfl
  have h6 : (exS b u).hi = min b.room (modV u b.room + modV (hpS (hpS u)) 5) := rfl
  rw [h4, h5, h6]
  omega
def exB (b : Bd) (ms : List Su) : Bd := { ownB b with surveys := b.surveys ++ ms }
theorem exB_same (b : Bd) (ms : List Su) : SameB b (exB b ms) := ⟨rfl, rfl, rfl, rfl⟩
theorem exB_ok {b : Bd} (ok : BdOk b) {u : Hp} {k : Nat} (o : u.Ok) (hk : b.surveys.length + k ≤ 8) : BdOk (exB b (exK b u k).1) := by
  refine ⟨⟨ok.r1, ok.r2, ok.m1, ok.m2, ok.f1, ok.f2, ok.u1, ok.u2, ok.mo⟩, ?_, fun s hs => ?_⟩
  · show (b.surveys ++ _).length ≤ 8
    rw [List.length_append, (exK_ok o k).2]; exact hk
  · have hs' : s ∈ b.surveys ++ (exK b u k).1 := hs
    rw [List.mem_append] at hs'
    rcases hs' with h | h
    · exact ok.su s h
    · obtain ⟨v, rfl⟩ := exK_mem h
      exact exS_ok ok.toBedOk v
theorem exB_ag {b : Bd} {ms : List Su} {m n : Nat} (h : agB (exB b ms) alwP m n = true) : agB b alwP m n = true := by
  rw [agB_mem] at h ⊢
  exact fun s hs => h s (List.mem_append_left _ hs)
theorem exB_can {b : Bd} (ok : BedOk b) {ms : List Su} {m : Nat} (hm : m ≤ b.months.length) {x : Int} (h : x ∈ canL (exB b ms) m) : x ∈ canL b m := by
  obtain ⟨n, hn, hc, rfl⟩ := lstF_mem.1 h
  have ok2 : BedOk (exB b ms) := ⟨ok.r1, ok.r2, ok.m1, ok.m2, ok.f1, ok.f2, ok.u1, ok.u2, ok.mo⟩
  obtain ⟨c, hc, e⟩ := (cn_iff ok2 (m := m) hm).1 hc
  exact lstF_mem.2 ⟨n, hn, (cn_iff ok hm).2 ⟨c, hc.other (exB_same b ms).symm fun i _ h1 => exB_ag h1, e⟩, rfl⟩
structure ClsL (u : Bd) (L : List Int) : Prop where
  b : ∀ x ∈ L, 0 ≤ x ∧ x < u.surveys.length
  le : L.length ≤ u.surveys.length
  lt : L.Pairwise (· < ·)
  all : clB u L = !L.isEmpty
  less : ∀ x ∈ L, clB u (L.filter fun i => i != x) = false
theorem clsL_nil {u : Bd} (h : clB u [] = false) : ClsL u [] := ⟨nofun, Nat.zero_le _, List.Pairwise.nil, h, nofun⟩
theorem clsL_some {u : Bd} (h0 : clB u [] = false) {L : List Int} (h : clsF (clB u) u.surveys.length = some L) : ClsL u L := by
  obtain ⟨h1, h2, h3, h4⟩ := clsF_some h
  refine ⟨fun x hx => by have := h1.b x hx; omega, h3, h1.lt, ?_, fun x hx => clsF_less h hx⟩
  cases L with
  | nil => rw [h0] at h2; cases h2
  | cons x l => rw [h2]; rfl
theorem ClsL.poss {u : Bd} (ok : BdOk u) {L : List Int} (h : ClsL u L) {j : Nat} (hj : j < L.length + 1) : possE (selB u (L.filter fun i => i != (-1 :: L).getD j default)) = if j = 0 ∧ L ≠ [] then 7 else 0 := by
  have s1 := ok.s1
  have hle := h.le
  have hb : ∀ (g : Int), ∀ x ∈ (L.filter fun i => i != g), 0 ≤ x ∧ x < u.surveys.length := fun g x hx => h.b x (List.mem_filter.1 hx).1
  have hl : ∀ (g : Int), (L.filter fun i => i != g).length ≤ 8 := fun g => by have := List.length_filter_le (fun i => i != g) L; omega
  have hE : ∀ g, bedE (selB u (L.filter fun i => i != g)) = 0 := fun g => (bedE_iff _).2 (selB_ok ok (hb g) (hl g))
  unfold possE
  rw [if_neg (fun h => h (hE _)), selB_none ok (hb _) (hl _)]
  by_cases hj0 : j = 0
  · subst hj0
    have hf : (L.filter fun i => i != (-1 :: L).getD 0 default) = L := List.filter_eq_self.2 fun x hx => by
      have := h.b x hx
      show (x != -1) = true
      simp; omega
    rw [hf, h.all]
    cases L with
    | nil => rfl
    | cons x l => rw [show (!(x :: l).isEmpty) = true from rfl, if_pos rfl, if_pos ⟨rfl, by simp⟩]
  · obtain ⟨i, rfl⟩ : ∃ i, j = i + 1 := ⟨j - 1, by omega⟩
    have hg : (-1 :: L).getD (i + 1) default = L.getD i default := rfl
    rw [hg, h.less _ (getD_mem (by omega)), if_neg (by simp), if_neg (fun h => by omega)]
theorem ClsL.sorted {u : Bd} {L : List Int} (h : ClsL u L) : ∀ j, j + 1 < L.length → L.getD j default ≤ L.getD (j + 1) default := fun j hj => by
  have := List.pairwise_iff_getElem.1 h.lt j (j + 1) (by omega) hj (by omega)
  rw [List.getD_eq_getElem?_getD, List.getD_eq_getElem?_getD, List.getElem?_eq_getElem (by omega), List.getElem?_eq_getElem hj]
  exact Int.le_of_lt this
end GA
end

section
namespace GA
open Go Go.RowKit Go.Proofs
set_option pp.deepTerms true
set_option maxRecDepth 8000
set_option linter.unusedVariables false
set_option linter.unusedSimpArgs false

set_option maxHeartbeats 2000000 in
theorem bedSurvey_c (n1 n2 : Bool) (xs ys : List Int) (hx : xs.length < 9223372036854775808) (hy : ys.length < 9223372036854775808) :
    Comp Try.prog 15 [.sl n1 (bytes xs), .sl n2 (bytes ys)] (.bool true) := by
  obtain ⟨b0, re, ch, u1, mo, B, uo, R⟩ := made_real (hp0_ok (nl := n1) hx) (room := 40) (months := 5) (by omega) (by omega) (by omega) (by omega)
  have hsv := surveyed_c b0 B.ok.toBedOk B.sv B.nls false re B.rl R.b0 3 (by omega) (by omega) u1 uo
  have hmb := modV_bound u1 3
  obtain ⟨w1, b, hb0, hb1, okb, hcr, hb3, hbs⟩ : ∃ w1 b, svB b0 re (hpS u1) (modV u1 3).toNat = b ∧ (svK b0 re (hpS u1) (modV u1 3).toNat).2 = w1 ∧ BdOk b ∧ (∀ p, Crs b p fun m => (re.getD m default).toNat) ∧ b.surveys.length ≤ 3 ∧ SameB b0 b :=
    ⟨_, _, rfl, rfl, svB_ok B.ok.toBedOk B.rl R.b0 (hpS_ok uo) (by omega), fun p => R.crs B.ok.toBedOk B.rl (svB_same b0 re (hpS u1) _) fun m hm => svB_ag B.ok.toBedOk B.rl R.b0 m (by exact hm), by
      show (svK b0 re (hpS u1) _).1.length ≤ 3
      rw [(svK_ok (hpS_ok uo) _).2]; omega, svB_same b0 re (hpS u1) _⟩
  rw [hb0, hb1] at hsv
  clear hb0 hb1
  have hro := B.ro
  have hmo := B.mo
  rw [hbs.r] at hro
  rw [hbs.m] at hmo
  have r1 := okb.r1
  have m1 := okb.m1
  have hnb : ∀ p, noneB b p = false := fun p => (none_iff okb.toBedOk).2 ⟨_, hcr p⟩
  have hcl := clash_c b (by omega) (by omega)
  unfold clashV at hcl
  rw [if_neg (fun h => h ((bedE_iff b).2 okb)), show clB b [] = false from hnb _, show clB b (evrL b) = false from hnb _, if_pos (by rfl)] at hcl
  have hca := can_all_c b (by omega) (by omega)
  unfold canV at hca
  rw [if_neg (fun h => h (possE_iff.2 ⟨okb, hnb alwP⟩))] at hca
  have hq := hp0_ok (nl := n2) hy
  have hfr := from_c (hp0 n2 ys) 1 3 hq (by omega) (by omega) (by omega) (by omega)
  have hfb := modV_bound (hp0 n2 ys) (3 - 1)
  have hq1 := hpS_ok hq
  obtain ⟨N, hN⟩ : ∃ N : Nat, (1 : Int) + modV (hp0 n2 ys) (3 - 1) = N := ⟨(1 + modV (hp0 n2 ys) (3 - 1)).toNat, by omega⟩
  rw [hN] at hfr
  have hN3 : N ≤ 3 := by omega
  generalize hpS (hp0 n2 ys) = v0 at hfr hq1
  refine Comp.body' (T := tab) (res := [.tmp 4]) tab_ok [139] Try.func15 rfl (by kernel_rfl) Try.ntmps15 rfl (by simp only [List.length_cons, List.length_nil]; decide) (by simp only [lowL, AV.low, lowBy]; rfl) ?_; conv => whnf
  repeat' first | ((with_reducible apply XBr.bne) <;> (intro h; first | (exfalso; omega) | (conv => whnf))) | (refine XCall.inl (T := tab) (res := [.tmp 2]) tab_ok [5] Try.func20 rfl (by kernel_rfl) Try.ntmps20 rfl (by simp only [List.length_append, List.length_cons, List.length_nil]; decide) ?_; conv => whnf) | ((first | (refine XCall.hp (j := 0) mo (by simp only [AV.low, lowL, bedL, lowI, lowPr]; rfl) rfl ?_) | (refine XCall.hp (j := 0) hsv (bedL b) rfl ?_) | (refine XCall.ret hcl ?_) | (refine XCall.ret hca ?_) | (refine XCall.own04 (by omega) (by omega) ?_) | (refine XCall.hp (j := 1) hfr rfl rfl ?_)); conv => whnf) | fail
  refine Walk.thenKeep ?_
  refine Walk.loopK tab_ok [] [(4, _), (6, _), (7, _), (12, _), (13, _), (14, _), (56, _)] ⟨rfl, rfl, rfl, rfl, rfl, rfl, rfl, trivial⟩ (fun k : Nat => k ≤ N) (fun k => [(57, natA k)]) (fun k => [hpC w1, hpC (exK b v0 k).2, .cells (bedC b), .cells [.sl false (rowsA (canRs b))], .grow 122 false (sus (b.surveys ++ (exK b v0 k).1)), .cells (bedG (ownB b) 4 (b.surveys.length + k))]) (fun k => N - k) 0 (Nat.zero_le _) (by rw [show (exK b v0 0).1 = [] from rfl, List.append_nil]; rfl) ⟨rfl, trivial⟩ ?_
  intro k hk
  obtain ⟨vo, vl⟩ := exK_ok (b := b) hq1 k
  by_cases hlt : k < N
  · have hnx : exK b v0 (k + 1) = ((exK b v0 k).1 ++ [exS b (exK b v0 k).2], hpS (hpS (hpS (exK b v0 k).2))) := rfl
    generalize exK b v0 k = st at vo vl hnx
    obtain ⟨ms, v⟩ := st
    dsimp only at vo vl hnx
    have v1 := hpS_ok vo
    have v2 := hpS_ok v1
    have c1 := upto_c v b.room vo (by omega) (by omega)
    have c2 := upto_c (hpS v) b.months.length v1 (by omega) (by omega)
    have c3 := upto_c (hpS (hpS v)) 5 v2 (by omega) (by omega)
    have b1 := modV_bound v b.room
    have b2 := modV_bound (hpS v) b.months.length
    have b3 := modV_bound (hpS (hpS v)) 5
    have e1 : ((b.months.map moA).length : Int) = b.months.length := by rw [List.length_map]
    rw [← e1] at c2
    have hcl2 : (sus (b.surveys ++ ms)).length = b.surveys.length + k := by unfold sus; rw [List.length_map, List.length_append, vl]
    have hes : exS b v = ⟨modV (hpS v) b.months.length, modV v b.room, min b.room (modV v b.room + modV (hpS (hpS v)) 5)⟩ := rfl
    have hfo := found_c (modV (hpS v) b.months.length) (modV v b.room) (min b.room (modV v b.room + modV (hpS (hpS v)) 5))
    rw [← hes] at hfo
    rw [e1] at c2
    rw [← e1] at c2
    generalize modV v b.room = x1 at c1 b1 hfo
    generalize modV (hpS (hpS v)) 5 = x3 at c3 b3 hfo
    have hx2 : modV (hpS v) ((b.months.map moA).length : Nat) = modV (hpS v) b.months.length := by rw [e1]
    rw [hx2] at c2
    generalize modV (hpS v) b.months.length = x2 at c2 b2 hfo
    generalize exS b v = s at hnx hfo
    dsimp only
    conv => whnf
    repeat' first | ((with_reducible apply XBr.dec) <;> (intro h; first | (exfalso; omega) | ((try simp only [List.length_map] at h); first | (exfalso; omega) | (conv => whnf)))) | ((refine XCall.hp (j := 1) c1 rfl rfl ?_); conv => whnf) | fail
    apply Walk.drawX tab_ok mixed_ok [] [6, 12, 17, 19] (fun fl => match fl with
      | [a, b', x, y] => [hpC w1, hpC (bif b' then hpS (hpS (hpS v)) else bif a then hpS (hpS v) else hpS v), .cells (bedC b), .cells [.sl false (rowsA (canRs b))], (bif x then .grow 122 (false && false) (sus (b.surveys ++ ms) ++ [suA s]) else .grow 122 false (sus (b.surveys ++ ms))), .cells (bif y then bedG (ownB b) 4 (b.surveys.length + k + 1) else bedG (ownB b) 4 (b.surveys.length + k))]
      | _ => []) [_, _, _, _, _, _, _, _, _, _, _, _, _, _, _, _, _, _, _, _] (by kernel_rfl) rfl
    · skip
      repeat' first | ((with_reducible refine XInt.i64 (by omega) (by omega) ?_); conv => whnf) | ((with_reducible refine XHold.mk ?_ ?_); (first | omega | rfl | decide | exact ⟨rfl, by decide, rfl⟩ | exact wideI _ | exact widePr _ | exact wideSk _ | (unfold Room; constructor <;> ((try simp) <;> omega)) | exact ⟨rfl, by simp only [List.length_map], by unfold Room; constructor <;> ((try simp) <;> omega)⟩ | exact ⟨by omega, by omega, by unfold Room; constructor <;> ((try simp) <;> omega)⟩); conv => whnf) | (with_reducible apply XAnd.mk) | ((first | (with_reducible apply Chk.go) | (with_reducible apply ChkA.go)); conv => whnf) | (exact XSame.mk rfl rfl) | (with_reducible exact trivial) | ((first | (refine XCall.hp (j := 1) c2 rfl rfl ?_) | (refine XCall.hp (j := 1) c3 rfl rfl ?_) | (refine XCall.ret hfo ?_)); conv => whnf) | fail
    · skip
      repeat' first | ((with_reducible refine XInt.i64 (by omega) (by omega) ?_); conv => whnf) | ((with_reducible refine XHold.mk ?_ ?_); (first | omega | rfl | decide | exact ⟨rfl, by decide, rfl⟩ | exact wideI _ | exact widePr _ | exact wideSk _ | (unfold Room; constructor <;> ((try simp) <;> omega)) | exact ⟨rfl, by simp only [List.length_map], by unfold Room; constructor <;> ((try simp) <;> omega)⟩ | exact ⟨by omega, by omega, by unfold Room; constructor <;> ((try simp) <;> omega)⟩); conv => whnf) | (with_reducible apply XAnd.mk) | ((first | (with_reducible apply Chk.go) | (with_reducible apply ChkF.go) | (with_reducible apply ChkB.go)); conv => whnf) | (exact XSame.mk rfl rfl) | (with_reducible exact trivial) | ((first | (refine XCall.hp (j := 1) c2 rfl rfl ?_) | (refine XCall.hp (j := 1) c3 rfl rfl ?_)); conv => whnf) | fail
    conv => whnf
    repeat' first | ((with_reducible refine XInt.i64 (by omega) (by omega) ?_); conv => whnf) | fail
    refine XAgain.go (k + 1) (by omega) (by omega) ?_ ⟨rfl, rfl, rfl, rfl, rfl, rfl, rfl, rfl, trivial⟩
    rw [hnx]
    show [_, _, _, _, Blk.grow _ false (sus (b.surveys ++ (ms ++ [s]))), _] = _
    rw [← List.append_assoc]
    unfold sus
    rw [List.map_append]; rfl
  obtain rfl : k = N := by omega
  have hbs8 : b.surveys.length + k ≤ 8 := by omega
  have oku := exB_ok okb (u := v0) hq1 hbs8
  have hus : (exB b (exK b v0 k).1).surveys.length = b.surveys.length + k := by show (b.surveys ++ _).length = _; rw [List.length_append, vl]
  have hcan : ∀ m, m ≤ b.months.length → ∀ x ∈ canL (exB b (exK b v0 k).1) m, x ∈ canL b m := fun m hm x h => exB_can okb.toBedOk hm h
  have hsur : (exB b (exK b v0 k).1).surveys = b.surveys ++ (exK b v0 k).1 := rfl
  have hB : bedG (ownB b) 4 (b.surveys.length + k) = [.int .i64 (exB b (exK b v0 k).1).room, .int .i64 (exB b (exK b v0 k).1).first, .int .i64 (exB b (exK b v0 k).1).unsure, .sl (exB b (exK b v0 k).1).nlm ((exB b (exK b v0 k).1).months.map moA), .gr 4 (exB b (exK b v0 k).1).surveys.length] := by unfold bedG; rw [hus]; rfl
  have h0 : clB (exB b (exK b v0 k).1) [] = false := cls_nil oku.toBedOk (exB_same b _) (hcr alwP)
  have hnls : (exB b (exK b v0 k).1).nls = false := rfl
  have hum : (exB b (exK b v0 k).1).months = b.months := rfl
  have hur : (exB b (exK b v0 k).1).room = b.room := rfl
  rw [← hsur, hB]
  generalize exB b (exK b v0 k).1 = u at oku hus hcan h0 hnls hum hur
  clear hsur hB
  conv => whnf
  repeat' first | ((with_reducible apply XBr.dec) <;> (intro h; first | (exfalso; omega) | ((try simp only [List.length_map] at h); first | (exfalso; omega) | (conv => whnf)))) | fail
  refine XKeepE.go [] _ [(4, .bool false), (12, .pim [.sl false (rowsA (canRs b))]), (13, .int .i64 0), (14, .pim (bedC u))] rfl (fun x hx => by cases hx) ⟨⟨_, rfl, .same rfl⟩, ⟨_, rfl, .all (Froz.ptr rfl (one1 rfl) (.cons (.low (rowsA_low _)) .nil))⟩, ⟨_, rfl, .same rfl⟩, ⟨_, rfl, .all (Froz.ptr rfl (bedOne u) ?_)⟩, trivial⟩ ?_
  · refine .cons (.low rfl) (.cons (.low rfl) (.cons (.low rfl) (.cons (.low (lowMo _)) (.cons ?_ .nil))))
    rw [hnls]
    exact Froz.grow rfl (List.length_map _) (sus_low _)
  conv => whnf
  have hum2 : u.months.length = b.months.length := congrArg List.length hum
  have hcu := can_all_c u (by omega) (by have := oku.s1; omega)
  unfold canV at hcu
  have hku := clash_c u (by omega) (by have := oku.s1; omega)
  unfold clashV at hku
  rw [if_neg (fun h => h ((bedE_iff u).2 oku)), h0, cls_all oku.toBedOk] at hku
  have s1u := oku.s1
  cases hz : noneB u alwP with
  | false =>
    rw [if_neg (fun h => h (possE_iff.2 ⟨oku, hz⟩))] at hcu
    rw [hz, if_pos (by rfl)] at hku
    have hL := clsL_nil h0
    have ecu : ((rowsA (canRs u)).length : Int) = b.months.length + 1 := by rw [List.length_map, canRs_len]; omega
    have ecb : ((rowsA (canRs b)).length : Int) = b.months.length + 1 := by rw [List.length_map, canRs_len]; omega
    repeat' first | ((refine XCall.ret hcu ?_); conv => whnf) | fail
    refine Walk.norm tab_ok [] [(4, _), (12, _), (13, _), (14, _), (16, _), (17, _)] ⟨rfl, rfl, rfl, rfl, rfl, rfl, trivial⟩ ?_
    conv => whnf
    repeat' first | ((first | (with_reducible apply XBr.tt) | (with_reducible apply XBr.ff)); conv => whnf) | ((with_reducible apply XBr.beq) <;> (intro h; first | (exfalso; omega) | (conv => whnf))) | ((with_reducible apply XBr.bne) <;> (intro h; first | (exfalso; omega) | (conv => whnf))) | fail
    refine Walk.loopGK tab_ok [139] [(12, _), (14, _), (16, _), (17, _), (110, _)] ⟨rfl, rfl, rfl, rfl, rfl, trivial⟩ (fun i : Nat => i ≤ b.months.length + 1) (fun i => [(4, .bool false), (111, natA i)]) (fun _ => [.dead, .dead, .dead, .dead, .dead, .dead]) (fun i => b.months.length + 1 - i) 0 (Nat.zero_le _) rfl ⟨rfl, rfl, trivial⟩ ?_ (fun _ _ => (show (6 : Nat) ≤ 6 from Nat.le_refl 6)) ?_
    · intro q _
      refine ⟨fun z hz => ?_, fun z hz => ?_⟩
      · simp only [List.mem_cons, List.not_mem_nil, or_false] at hz
        rcases hz with rfl | rfl | rfl | rfl | rfl | rfl <;> rfl
      · simp only [List.cons_append, List.nil_append, List.mem_cons, List.not_mem_nil, or_false] at hz
        rcases hz with rfl | rfl | rfl | rfl | rfl | rfl | rfl <;> first | rfl | exact rowsA_low _ | exact lowBd u | (simp only [AV.low, lowL, rowsA_low]; rfl)
    intro i hi
    conv => whnf
    by_cases hlt : i < b.months.length + 1
    · have hcf := contf_int (canL u i).isEmpty (canL u i) 78 [.pim [.sl false (rowsA (canRs b))], .pim [natA i]] (fun x => !(canL b i).contains x) (by simp only [lowL, AV.low, rowsA_low]; rfl) (by have := lstF_len (cnB u alwP i) 121; unfold canL; omega) (fun x _ => survey1_c b i (by omega) (by omega) x)
      rw [show ((canL u i).any fun x => !(canL b i).contains x) = false from List.any_eq_false.2 fun x hx => by
        have := hcan i (by omega) x hx
        simp [this], ← canRs_get (b := u) (m := i) (by omega)] at hcf
      repeat' first | ((with_reducible apply XBr.ff); conv => whnf) | ((with_reducible apply XBr.dec) <;> (intro h; first | (exfalso; omega) | ((try simp only [List.length_map] at h); first | (exfalso; omega) | (conv => whnf)))) | ((first | (with_reducible refine XInt.i64 (by omega) (by omega) ?_) | ((with_reducible refine XIx.nat ?_ ?_ ?_); omega; (intro _; rfl)) | (refine XCall.lend hcf (.cons (.low (slA_low _)) (.cons (Froz.fn (.cons (.low (by simp only [AV.low, lowL, rowsA_low]; rfl)) (.cons (Froz.ptr rfl (one1 rfl) (.cons (.low rfl) .nil)) .nil))) .nil)) rfl ?_)); conv => whnf) | fail
      exact XAgainG.go (i + 1) [.cells [natA i]] (by omega) (by omega) rfl ⟨rfl, rfl, rfl, rfl, rfl, rfl, rfl, trivial⟩
    · obtain rfl : i = b.months.length + 1 := by omega
      repeat' first | ((first | (with_reducible apply XBr.tt) | (with_reducible apply XBr.ff)); conv => whnf) | ((with_reducible apply XBr.dec) <;> (intro h; first | (exfalso; omega) | ((try simp only [List.length_map] at h); first | (exfalso; omega) | (conv => whnf)))) | ((with_reducible apply XBr.bne) <;> (intro h; first | (exfalso; omega) | (conv => whnf))) | ((with_reducible refine XHold.mk ?_ ?_); (first | omega | rfl | decide | exact ⟨rfl, by decide, rfl⟩ | exact wideI _ | exact widePr _ | exact wideSk _ | (unfold Room; constructor <;> ((try simp) <;> omega)) | exact ⟨rfl, by simp only [List.length_map], by unfold Room; constructor <;> ((try simp) <;> omega)⟩ | exact ⟨by omega, by omega, by unfold Room; constructor <;> ((try simp) <;> omega)⟩); conv => whnf) | ((first | (refine XCall.ret hku ?_) | (with_reducible refine XBr.no (by decide) ?_)); conv => whnf) | fail
      refine Walk.freeze 141 6 _ rfl rfl (by first | rfl | (rw [List.length_append]; rfl)) ?_
      refine Walk.loopGK tab_ok [] [(14, _), (19, slA ([] : List Int)), (141, .sl false (ints (-1 :: ([] : List Int)))), (142, .int .i64 (1 + (ints ([] : List Int)).length : Nat))] ⟨rfl, rfl, rfl, rfl, trivial⟩ (fun j : Nat => j ≤ (([] : List Int)).length + 1) (fun j => [(4, .bool false), (143, natA j)]) (fun _ => [.dead, .dead, .dead, .dead, .dead, .dead, .dead]) (fun j => (([] : List Int)).length + 1 - j) 0 (Nat.zero_le _) rfl ⟨rfl, rfl, trivial⟩ ?_ (fun _ _ => (show (7 : Nat) ≤ 7 from Nat.le_refl 7)) ?_
      · intro q _
        refine ⟨fun z hz => ?_, fun z hz => ?_⟩
        · simp only [List.mem_cons, List.not_mem_nil, or_false] at hz
          rcases hz with rfl | rfl | rfl | rfl | rfl | rfl | rfl <;> rfl
        · simp only [List.cons_append, List.nil_append, List.mem_cons, List.not_mem_nil, or_false] at hz
          rcases hz with rfl | rfl | rfl | rfl | rfl | rfl <;> first | rfl | exact slA_low _ | exact lowBd u | exact lowI _
      intro j hj
      have hLl : ((ints ([] : List Int)).length : Int) = (([] : List Int)).length := by rw [ints_len]
      have hLl2 : (ints ([] : List Int)).length = (([] : List Int)).length := by rw [ints_len]
      have hLb := hL.b
      have hLe := hL.le
      by_cases hltj : j < (([] : List Int)).length + 1
      · have hpo := hL.poss oku hltj
        have hg : (j = 0 → (-1 :: ([] : List Int)).getD j default = -1) ∧ (0 < j → 0 ≤ (-1 :: ([] : List Int)).getD j default) := by
          refine ⟨fun h => by rw [h]; rfl, fun h => ?_⟩
          obtain ⟨i, rfl⟩ : ∃ i, j = i + 1 := ⟨j - 1, by omega⟩
          exact (hLb ((([] : List Int)).getD i default) (getD_mem (by omega))).1
        have hsel := selB_ok oku (L := (([] : List Int)).filter fun i => i != (-1 :: ([] : List Int)).getD j default) (fun x hx => hLb x (List.mem_filter.1 hx).1) (by have := List.length_filter_le (fun i => i != (-1 :: ([] : List Int)).getD j default) ([] : List Int); omega)
        have hcv := can_all_c (selB u ((([] : List Int)).filter fun i => i != (-1 :: ([] : List Int)).getD j default)) (by have := hsel.m2; omega) (by have := hsel.s1; omega)
        unfold canV at hcv
        rw [hpo] at hcv
        conv => whnf
        repeat' first | ((with_reducible apply XBr.dec) <;> (intro h; first | (exfalso; omega) | ((try simp only [List.length_map] at h); first | (exfalso; omega) | (conv => whnf)))) | ((first | ((with_reducible refine XIx.nat ?_ ?_ ?_); omega; (intro _; rfl)) | (refine XCall.ret (own04_c u (by omega) (by omega)) ?_)); conv => whnf) | fail
        generalize (-1 :: ([] : List Int)).getD j default = g at hpo hg hsel hcv ⊢
        refine Walk.nilcell 7 4 122 rfl rfl ?_
        refine Walk.thenKeep ?_
        refine Walk.loopK tab_ok [] [(14, _), (19, _), (21, _), (22, _), (141, _), (142, _), (143, _), (150, _), (151, _)] ⟨rfl, rfl, rfl, rfl, rfl, rfl, rfl, rfl, rfl, trivial⟩ (fun i : Nat => i ≤ (([] : List Int)).length) (fun i => [(4, .bool false), (152, natA i)]) (fun i => [.dead, .dead, .dead, .dead, .dead, .dead, .dead, .cells (bedG (ownB u) 8 (selL u (((([] : List Int)).take i).filter fun x => x != g)).length), .grow 122 (selL u (((([] : List Int)).take i).filter fun x => x != g)).isEmpty (sus (selL u (((([] : List Int)).take i).filter fun x => x != g)))]) (fun i => (([] : List Int)).length - i) 0 (Nat.zero_le _) rfl ⟨rfl, rfl, trivial⟩ ?_
        intro i hi
        by_cases hlti : i < (([] : List Int)).length
        · have hLi := hLb ((([] : List Int)).getD i default) (getD_mem hlti)
          have htk : (([] : List Int)).take (i + 1) = (([] : List Int)).take i ++ [(([] : List Int)).getD i default] := take_next hlti
          have hsl : (sus (selL u (((([] : List Int)).take i).filter fun x => x != g))).length = (selL u (((([] : List Int)).take i).filter fun x => x != g)).length := List.length_map _
          have hsb : (selL u (((([] : List Int)).take i).filter fun x => x != g)).length ≤ i := by
            unfold selL
            rw [List.length_map]
            have := List.length_filter_le (fun x => x != g) ((([] : List Int)).take i)
            rw [List.length_take] at this; omega
          have eus : ((u.surveys.map suA).length : Int) = u.surveys.length := by rw [List.length_map]
          by_cases hxg : (([] : List Int)).getD i default = g
          · have hnx : ((([] : List Int)).take (i + 1)).filter (fun x => x != g) = ((([] : List Int)).take i).filter fun x => x != g := by
              rw [htk, List.filter_append, List.filter_cons, if_neg (by rw [hxg]; simp)]
              exact List.append_nil _
            conv => whnf
            repeat' first | ((with_reducible apply XBr.ff); conv => whnf) | ((with_reducible apply XBr.dec) <;> (intro h; first | (exfalso; omega) | ((try simp only [List.length_map] at h); first | (exfalso; omega) | (conv => whnf)))) | ((with_reducible apply XBr.bne) <;> (intro h; first | (exfalso; omega) | (conv => whnf))) | ((first | (with_reducible refine XInt.i64 (by omega) (by omega) ?_) | ((with_reducible refine XIx.nat ?_ ?_ ?_); omega; (intro _; rfl))); conv => whnf) | fail
            refine XAgain.go (i + 1) (by omega) (by omega) (by rw [hnx]) ⟨rfl, rfl, rfl, rfl, rfl, rfl, rfl, rfl, rfl, rfl, rfl, trivial⟩
          · have hnx : ((([] : List Int)).take (i + 1)).filter (fun x => x != g) = (((([] : List Int)).take i).filter fun x => x != g) ++ [(([] : List Int)).getD i default] := by
              rw [htk, List.filter_append, List.filter_cons, if_pos (bne_iff_ne.2 hxg)]; rfl
            conv => whnf
            repeat' first | ((with_reducible apply XBr.ff); conv => whnf) | ((with_reducible apply XBr.dec) <;> (intro h; first | (exfalso; omega) | ((try simp only [List.length_map] at h); first | (exfalso; omega) | (conv => whnf)))) | ((with_reducible apply XBr.bne) <;> (intro h; first | (exfalso; omega) | (conv => whnf))) | ((with_reducible refine XInt.i64 (by omega) (by omega) ?_); conv => whnf) | ((with_reducible refine XHold.mk ?_ ?_); (first | omega | rfl | decide | exact ⟨rfl, by decide, rfl⟩ | exact wideI _ | exact widePr _ | exact wideSk _ | (unfold Room; constructor <;> ((try simp) <;> omega)) | exact ⟨rfl, by simp only [List.length_map], by unfold Room; constructor <;> ((try simp) <;> omega)⟩ | exact ⟨by omega, by omega, by unfold Room; constructor <;> ((try simp) <;> omega)⟩); conv => whnf) | ((first | ((with_reducible refine XIx.nat ?_ ?_ ?_); omega; (intro _; rfl)) | ((with_reducible refine XIx.map ?_ ?_ ?_ ?_); omega; omega; (intro _; rfl))); conv => whnf) | (with_reducible apply XAnd.mk) | ((first | (with_reducible apply Chk.go) | (with_reducible apply ChkA.go) | (with_reducible apply ChkF.go) | (with_reducible apply ChkB.go)); conv => whnf) | (exact XSame.mk rfl rfl) | (with_reducible exact trivial) | (apply Walk.drawN (id := 37) tab_ok mixed_ok [139] [8, 10] (hsC [_, _, _]) [_, _, _, _, _, _, _, _, _, _, _] (by kernel_rfl) rfl) | ((with_reducible apply XNext.mk); conv => whnf) | ((refine XHold.mk ⟨rfl, hsl, by unfold Room; constructor <;> (simp only [List.length_cons, List.length_nil]; omega)⟩ ?_); conv => whnf) | fail
            refine XAgain.go (i + 1) (by omega) (by omega) ?_ ⟨rfl, rfl, rfl, rfl, rfl, rfl, rfl, rfl, rfl, rfl, rfl, trivial⟩
            rw [hnx, show ∀ (F : List Int) (x : Int), selL u (F ++ [x]) = selL u F ++ [suB u x.toNat] from fun F x => by unfold selL; rw [List.map_append]; rfl]
            show [_, _, _, _, _, _, _, .cells (bedG (ownB u) 8 (selL u _ ++ [_]).length), Blk.grow _ (selL u _ ++ [_]).isEmpty ((selL u _ ++ [_]).map suA)] = _
            rw [List.length_append, isEmpty_app, List.map_append]
            rfl
        · obtain rfl : i = (([] : List Int)).length := by omega
          rw [List.take_length]
          conv => whnf
          repeat' first | ((with_reducible apply XBr.dec) <;> (intro h; first | (exfalso; omega) | ((try simp only [List.length_map] at h); first | (exfalso; omega) | (conv => whnf)))) | fail
          refine XKeepE.go [] _ [(4, .bool false), (14, _), (19, _), (21, _), (22, .pim (bedC (selB u ((([] : List Int)).filter fun x => x != g)))), (141, _), (142, _), (143, _)] rfl (fun x hx => by cases hx) ⟨⟨_, rfl, .same rfl⟩, ⟨_, rfl, .same (lowBd u)⟩, ⟨_, rfl, .same (slA_low _)⟩, ⟨_, rfl, .same rfl⟩, ⟨_, rfl, .all (Froz.ptr rfl (bedOne _) ?_)⟩, ⟨_, rfl, .same (lowI _)⟩, ⟨_, rfl, .same rfl⟩, ⟨_, rfl, .same rfl⟩, trivial⟩ ?_
          · exact .cons (.low rfl) (.cons (.low rfl) (.cons (.low rfl) (.cons (.low (lowMo _)) (.cons (Froz.grow rfl (List.length_map _) (sus_low _)) .nil))))
          conv => whnf
          by_cases h7 : j = 0 ∧ ([] : List Int) ≠ []
          · try exact absurd rfl h7.2
            all_goals
              rw [if_pos h7, if_pos (by decide)] at hcv
              have hg1 := hg.1 h7.1
              have hlp : 0 < (([] : List Int)).length := List.length_pos_iff.2 h7.2
              skip
              all_goals first | exact XAgainG.go (j + 1) [.dead, .dead] (by omega) (by omega) rfl ⟨rfl, rfl, rfl, rfl, rfl, rfl, trivial⟩ | (exfalso; rename_i h; rw [decide_eq_true (by omega)] at h; exact absurd h (by decide)) | (exfalso; rename_i h; rw [decide_eq_false (by omega)] at h; exact absurd h (by decide))
          · rw [if_neg h7, if_neg (by simp)] at hcv
            have hg1 : 0 ≤ g ∨ (([] : List Int)).length = 0 := by
              by_cases hj0 : j = 0
              · refine .inr (List.length_eq_zero_iff.2 ?_)
                exact Classical.byContradiction fun h => h7 ⟨hj0, h⟩
              · exact .inl (hg.2 (by omega))
            repeat' first | ((first | (with_reducible apply XBr.tt) | (with_reducible apply XBr.ff)); conv => whnf) | ((with_reducible apply XBr.dec) <;> (intro h; first | (exfalso; omega) | ((try simp only [List.length_map] at h); first | (exfalso; omega) | (conv => whnf)))) | ((with_reducible apply XBr.bne) <;> (intro h; first | (exfalso; omega) | (conv => whnf))) | ((first | (with_reducible refine XInt.i64 (by omega) (by omega) ?_) | (refine XCall.ret hcv ?_) | (with_reducible refine XBr.no (by decide) ?_)); conv => whnf) | fail
            all_goals first | exact XAgainG.go (j + 1) [.dead, .dead] (by omega) (by omega) rfl ⟨rfl, rfl, rfl, rfl, rfl, rfl, trivial⟩ | (exfalso; rename_i h; rw [decide_eq_true (by omega)] at h; exact absurd h (by decide)) | (exfalso; rename_i h; rw [decide_eq_false (by omega)] at h; exact absurd h (by decide))
      · obtain rfl : j = (([] : List Int)).length + 1 := by omega
        have hso := sorted_c (([] : List Int)).isEmpty ([] : List Int) (by have := oku.s1; omega) hL.sorted
        conv => whnf
        repeat' first | ((with_reducible apply XBr.tt); conv => whnf) | ((with_reducible apply XBr.dec) <;> (intro h; first | (exfalso; omega) | ((try simp only [List.length_map] at h); first | (exfalso; omega) | (conv => whnf)))) | ((first | (refine XCall.ret hso ?_) | (refine XCall.ret awake04_c ?_)); conv => whnf) | fail
        exact ⟨.low rfl⟩
  | true =>
    have hE7 : possE u = 7 := by unfold possE; rw [if_neg (fun h => h ((bedE_iff u).2 oku)), if_pos hz]
    rw [hE7, if_pos (by decide)] at hcu
    rw [hz, if_neg (by simp)] at hku
    have hcx : clsF (clB u) u.surveys.length ≠ none := clsF_ex (by rw [← hz, ← cls_all oku.toBedOk]; unfold evrL; rw [vecF_eq])
    cases hcf : clsF (clB u) u.surveys.length with
    | none => exact absurd hcf hcx
    | some L =>
      have hL := clsL_some h0 hcf
      have hLb0 : ((ints L).length : Int) = L.length := by rw [ints_len]
      have hLe0 := hL.le
      rw [hcf] at hku
      change Comp Try.prog _ _ (.tup [slA L, .int .i64 0]) at hku
      repeat' first | ((refine XCall.ret hcu ?_); conv => whnf) | fail
      refine Walk.norm tab_ok [] [(4, _), (12, _), (13, _), (14, _), (16, _), (17, _)] ⟨rfl, rfl, rfl, rfl, rfl, rfl, trivial⟩ ?_
      conv => whnf
      repeat' first | ((first | (with_reducible apply XBr.tt) | (with_reducible apply XBr.ff)); conv => whnf) | ((with_reducible apply XBr.beq) <;> (intro h; first | (exfalso; omega) | (conv => whnf))) | ((with_reducible apply XBr.bne) <;> (intro h; first | (exfalso; omega) | (conv => whnf))) | fail
      refine Walk.loopK tab_ok [] [(12, _), (14, _), (16, _), (17, _), (110, _)] ⟨rfl, rfl, rfl, rfl, rfl, trivial⟩ (fun _ : Unit => True) (fun _ => [(4, .bool false), (111, .int .i64 0)]) (fun _ => [.dead, .dead, .dead, .dead, .dead, .dead]) (fun _ => 0) () trivial rfl ⟨rfl, rfl, trivial⟩ ?_
      intro _ _
      conv => whnf
      repeat' first | ((with_reducible apply XBr.ff); conv => whnf) | ((with_reducible apply XBr.dec) <;> (intro h; first | (exfalso; omega) | ((try simp only [List.length_map] at h); first | (exfalso; omega) | (conv => whnf)))) | ((with_reducible apply XBr.bne) <;> (intro h; first | (exfalso; omega) | (conv => whnf))) | ((with_reducible refine XHold.mk ?_ ?_); (first | omega | rfl | decide | exact ⟨rfl, by decide, rfl⟩ | exact wideI _ | exact widePr _ | exact wideSk _ | (unfold Room; constructor <;> ((try simp) <;> omega)) | exact ⟨rfl, by simp only [List.length_map], by unfold Room; constructor <;> ((try simp) <;> omega)⟩ | exact ⟨by omega, by omega, by unfold Room; constructor <;> ((try simp) <;> omega)⟩); conv => whnf) | ((first | (refine XCall.ret hku ?_) | (with_reducible refine XBr.no (by decide) ?_) | (refine XHold.mk (by rw [List.length_append]; rfl) ?_)); conv => whnf) | fail
      · rename_i h; simp at h
      refine Walk.freeze 141 6 _ rfl rfl (by first | rfl | (rw [List.length_append]; rfl)) ?_
      refine Walk.loopGK tab_ok [] [(14, _), (19, slA L), (141, .sl false (ints (-1 :: L))), (142, .int .i64 (1 + (ints L).length : Nat))] ⟨rfl, rfl, rfl, rfl, trivial⟩ (fun j : Nat => j ≤ (L).length + 1) (fun j => [(4, .bool false), (143, natA j)]) (fun _ => [.dead, .dead, .dead, .dead, .dead, .dead, .dead]) (fun j => (L).length + 1 - j) 0 (Nat.zero_le _) rfl ⟨rfl, rfl, trivial⟩ ?_ (fun _ _ => (show (7 : Nat) ≤ 7 from Nat.le_refl 7)) ?_
      · intro q _
        refine ⟨fun z hz => ?_, fun z hz => ?_⟩
        · simp only [List.mem_cons, List.not_mem_nil, or_false] at hz
          rcases hz with rfl | rfl | rfl | rfl | rfl | rfl | rfl <;> rfl
        · simp only [List.cons_append, List.nil_append, List.mem_cons, List.not_mem_nil, or_false] at hz
          rcases hz with rfl | rfl | rfl | rfl | rfl | rfl <;> first | rfl | exact slA_low _ | exact lowBd u | exact lowI _
      intro j hj
      have hLl : ((ints L).length : Int) = (L).length := by rw [ints_len]
      have hLl2 : (ints L).length = (L).length := by rw [ints_len]
      have hLb := hL.b
      have hLe := hL.le
      by_cases hltj : j < (L).length + 1
      · have hpo := hL.poss oku hltj
        have hg : (j = 0 → (-1 :: L).getD j default = -1) ∧ (0 < j → 0 ≤ (-1 :: L).getD j default) := by
          refine ⟨fun h => by rw [h]; rfl, fun h => ?_⟩
          obtain ⟨i, rfl⟩ : ∃ i, j = i + 1 := ⟨j - 1, by omega⟩
          exact (hLb ((L).getD i default) (getD_mem (by omega))).1
        have hsel := selB_ok oku (L := (L).filter fun i => i != (-1 :: L).getD j default) (fun x hx => hLb x (List.mem_filter.1 hx).1) (by have := List.length_filter_le (fun i => i != (-1 :: L).getD j default) L; omega)
        have hcv := can_all_c (selB u ((L).filter fun i => i != (-1 :: L).getD j default)) (by have := hsel.m2; omega) (by have := hsel.s1; omega)
        unfold canV at hcv
        rw [hpo] at hcv
        conv => whnf
        repeat' first | ((with_reducible apply XBr.dec) <;> (intro h; first | (exfalso; omega) | ((try simp only [List.length_map] at h); first | (exfalso; omega) | (conv => whnf)))) | ((first | ((with_reducible refine XIx.nat ?_ ?_ ?_); omega; (intro _; rfl)) | (refine XCall.ret (own04_c u (by omega) (by omega)) ?_)); conv => whnf) | fail
        generalize (-1 :: L).getD j default = g at hpo hg hsel hcv ⊢
        refine Walk.nilcell 7 4 122 rfl rfl ?_
        refine Walk.thenKeep ?_
        refine Walk.loopK tab_ok [] [(14, _), (19, _), (21, _), (22, _), (141, _), (142, _), (143, _), (150, _), (151, _)] ⟨rfl, rfl, rfl, rfl, rfl, rfl, rfl, rfl, rfl, trivial⟩ (fun i : Nat => i ≤ (L).length) (fun i => [(4, .bool false), (152, natA i)]) (fun i => [.dead, .dead, .dead, .dead, .dead, .dead, .dead, .cells (bedG (ownB u) 8 (selL u (((L).take i).filter fun x => x != g)).length), .grow 122 (selL u (((L).take i).filter fun x => x != g)).isEmpty (sus (selL u (((L).take i).filter fun x => x != g)))]) (fun i => (L).length - i) 0 (Nat.zero_le _) rfl ⟨rfl, rfl, trivial⟩ ?_
        intro i hi
        by_cases hlti : i < (L).length
        · have hLi := hLb ((L).getD i default) (getD_mem hlti)
          have htk : (L).take (i + 1) = (L).take i ++ [(L).getD i default] := take_next hlti
          have hsl : (sus (selL u (((L).take i).filter fun x => x != g))).length = (selL u (((L).take i).filter fun x => x != g)).length := List.length_map _
          have hsb : (selL u (((L).take i).filter fun x => x != g)).length ≤ i := by
            unfold selL
            rw [List.length_map]
            have := List.length_filter_le (fun x => x != g) ((L).take i)
            rw [List.length_take] at this; omega
          have eus : ((u.surveys.map suA).length : Int) = u.surveys.length := by rw [List.length_map]
          by_cases hxg : (L).getD i default = g
          · have hnx : ((L).take (i + 1)).filter (fun x => x != g) = ((L).take i).filter fun x => x != g := by
              rw [htk, List.filter_append, List.filter_cons, if_neg (by rw [hxg]; simp)]
              exact List.append_nil _
            conv => whnf
            repeat' first | ((with_reducible apply XBr.ff); conv => whnf) | ((with_reducible apply XBr.dec) <;> (intro h; first | (exfalso; omega) | ((try simp only [List.length_map] at h); first | (exfalso; omega) | (conv => whnf)))) | ((with_reducible apply XBr.bne) <;> (intro h; first | (exfalso; omega) | (conv => whnf))) | ((first | (with_reducible refine XInt.i64 (by omega) (by omega) ?_) | ((with_reducible refine XIx.nat ?_ ?_ ?_); omega; (intro _; rfl))); conv => whnf) | fail
            refine XAgain.go (i + 1) (by omega) (by omega) (by rw [hnx]) ⟨rfl, rfl, rfl, rfl, rfl, rfl, rfl, rfl, rfl, rfl, rfl, trivial⟩
          · have hnx : ((L).take (i + 1)).filter (fun x => x != g) = (((L).take i).filter fun x => x != g) ++ [(L).getD i default] := by
              rw [htk, List.filter_append, List.filter_cons, if_pos (bne_iff_ne.2 hxg)]; rfl
            conv => whnf
            repeat' first | ((with_reducible apply XBr.ff); conv => whnf) | ((with_reducible apply XBr.dec) <;> (intro h; first | (exfalso; omega) | ((try simp only [List.length_map] at h); first | (exfalso; omega) | (conv => whnf)))) | ((with_reducible apply XBr.bne) <;> (intro h; first | (exfalso; omega) | (conv => whnf))) | ((with_reducible refine XInt.i64 (by omega) (by omega) ?_); conv => whnf) | ((with_reducible refine XHold.mk ?_ ?_); (first | omega | rfl | decide | exact ⟨rfl, by decide, rfl⟩ | exact wideI _ | exact widePr _ | exact wideSk _ | (unfold Room; constructor <;> ((try simp) <;> omega)) | exact ⟨rfl, by simp only [List.length_map], by unfold Room; constructor <;> ((try simp) <;> omega)⟩ | exact ⟨by omega, by omega, by unfold Room; constructor <;> ((try simp) <;> omega)⟩); conv => whnf) | ((first | ((with_reducible refine XIx.nat ?_ ?_ ?_); omega; (intro _; rfl)) | ((with_reducible refine XIx.map ?_ ?_ ?_ ?_); omega; omega; (intro _; rfl))); conv => whnf) | (with_reducible apply XAnd.mk) | ((first | (with_reducible apply Chk.go) | (with_reducible apply ChkA.go) | (with_reducible apply ChkF.go) | (with_reducible apply ChkB.go)); conv => whnf) | (exact XSame.mk rfl rfl) | (with_reducible exact trivial) | (apply Walk.drawN (id := 37) tab_ok mixed_ok [139] [8, 10] (hsC [_, _, _]) [_, _, _, _, _, _, _, _, _, _, _] (by kernel_rfl) rfl) | ((with_reducible apply XNext.mk); conv => whnf) | fail
            refine XAgain.go (i + 1) (by omega) (by omega) ?_ ⟨rfl, rfl, rfl, rfl, rfl, rfl, rfl, rfl, rfl, rfl, rfl, trivial⟩
            rw [hnx, show ∀ (F : List Int) (x : Int), selL u (F ++ [x]) = selL u F ++ [suB u x.toNat] from fun F x => by unfold selL; rw [List.map_append]; rfl]
            show [_, _, _, _, _, _, _, .cells (bedG (ownB u) 8 (selL u _ ++ [_]).length), Blk.grow _ (selL u _ ++ [_]).isEmpty ((selL u _ ++ [_]).map suA)] = _
            rw [List.length_append, isEmpty_app, List.map_append]
            rfl
        · obtain rfl : i = (L).length := by omega
          rw [List.take_length]
          conv => whnf
          repeat' first | ((with_reducible apply XBr.dec) <;> (intro h; first | (exfalso; omega) | ((try simp only [List.length_map] at h); first | (exfalso; omega) | (conv => whnf)))) | fail
          refine XKeepE.go [] _ [(4, .bool false), (14, _), (19, _), (21, _), (22, .pim (bedC (selB u ((L).filter fun x => x != g)))), (141, _), (142, _), (143, _)] rfl (fun x hx => by cases hx) ⟨⟨_, rfl, .same rfl⟩, ⟨_, rfl, .same (lowBd u)⟩, ⟨_, rfl, .same (slA_low _)⟩, ⟨_, rfl, .same rfl⟩, ⟨_, rfl, .all (Froz.ptr rfl (bedOne _) ?_)⟩, ⟨_, rfl, .same (lowI _)⟩, ⟨_, rfl, .same rfl⟩, ⟨_, rfl, .same rfl⟩, trivial⟩ ?_
          · exact .cons (.low rfl) (.cons (.low rfl) (.cons (.low rfl) (.cons (.low (lowMo _)) (.cons (Froz.grow rfl (List.length_map _) (sus_low _)) .nil))))
          conv => whnf
          by_cases h7 : j = 0 ∧ L ≠ []
          · try exact absurd rfl h7.2
            all_goals
              rw [if_pos h7, if_pos (by decide)] at hcv
              have hg1 := hg.1 h7.1
              have hlp : 0 < (L).length := List.length_pos_iff.2 h7.2
              repeat' first | ((first | (with_reducible apply XBr.tt) | (with_reducible apply XBr.ff)); conv => whnf) | ((with_reducible apply XBr.dec) <;> (intro h; first | (exfalso; omega) | ((try simp only [List.length_map] at h); first | (exfalso; omega) | (conv => whnf)))) | ((with_reducible apply XBr.bne) <;> (intro h; first | (exfalso; omega) | (conv => whnf))) | ((first | (with_reducible refine XInt.i64 (by omega) (by omega) ?_) | (refine XCall.ret hcv ?_)); conv => whnf) | ((with_reducible apply XBr.mk') <;> (intro h; conv => whnf)) | fail
              all_goals first | exact XAgainG.go (j + 1) [.dead, .dead] (by omega) (by omega) rfl ⟨rfl, rfl, rfl, rfl, rfl, rfl, trivial⟩ | (exfalso; rename_i h; rw [decide_eq_true (by omega)] at h; exact absurd h (by decide)) | (exfalso; rename_i h; rw [decide_eq_false (by omega)] at h; exact absurd h (by decide))
          · rw [if_neg h7, if_neg (by simp)] at hcv
            have hg1 : 0 ≤ g ∨ (L).length = 0 := by
              by_cases hj0 : j = 0
              · refine .inr (List.length_eq_zero_iff.2 ?_)
                exact Classical.byContradiction fun h => h7 ⟨hj0, h⟩
              · exact .inl (hg.2 (by omega))
            repeat' first | ((first | (with_reducible apply XBr.tt) | (with_reducible apply XBr.ff)); conv => whnf) | ((with_reducible apply XBr.dec) <;> (intro h; first | (exfalso; omega) | ((try simp only [List.length_map] at h); first | (exfalso; omega) | (conv => whnf)))) | ((with_reducible apply XBr.bne) <;> (intro h; first | (exfalso; omega) | (conv => whnf))) | ((first | (with_reducible refine XInt.i64 (by omega) (by omega) ?_) | (refine XCall.ret hcv ?_) | (with_reducible refine XBr.no (by decide) ?_)); conv => whnf) | ((with_reducible apply XBr.mk') <;> (intro h; conv => whnf)) | fail
            all_goals first | exact XAgainG.go (j + 1) [.dead, .dead] (by omega) (by omega) rfl ⟨rfl, rfl, rfl, rfl, rfl, rfl, trivial⟩ | (exfalso; rename_i h; rw [decide_eq_true (by omega)] at h; exact absurd h (by decide)) | (exfalso; rename_i h; rw [decide_eq_false (by omega)] at h; exact absurd h (by decide))
      · obtain rfl : j = (L).length + 1 := by omega
        have hso := sorted_c (L).isEmpty L (by have := oku.s1; omega) hL.sorted
        conv => whnf
        repeat' first | ((with_reducible apply XBr.tt); conv => whnf) | ((with_reducible apply XBr.dec) <;> (intro h; first | (exfalso; omega) | ((try simp only [List.length_map] at h); first | (exfalso; omega) | (conv => whnf)))) | ((first | (refine XCall.ret hso ?_) | (refine XCall.ret awake04_c ?_)); conv => whnf) | fail
        exact ⟨.low rfl⟩
end GA
end
