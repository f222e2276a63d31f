/- Part 6 of a proof: F18, F50, F51, F52, F55, F56, F30, F57, F58, F19, F59. -/
import Derived.Test.YtmeankpoalkloaaP5
section
namespace GA
open Go Go.RowKit Go.Proofs
set_option pp.deepTerms true
set_option maxRecDepth 8000
set_option linter.unusedVariables false
set_option linter.unusedSimpArgs false

theorem wTab_at (s : Sn) (ok : SnOk s) {p m l : Nat} (hv : vld s ⟨p, m, l⟩) : (wTab s)[976 * p + 16 * m + l]? = some (.int .i64 (worthZ s ⟨p, m, l⟩)) := by
  have p2 := ok.p2; have l2 := ok.l2; have hal := allN_lt ok
  obtain ⟨v1, v2, v3⟩ := hv
  dsimp only at v1 v2 v3
  have h := vec_at (f := AV.int .i64) (W := 4880) (F := G3 (wNum s (vldB s))) (j := 976 * p + 16 * m + l) (by omega)
  rw [G3_at _ (by omega) (by omega), wNum_at (vldB_iff.2 ⟨v1, v2, v3⟩)] at h
  exact h
theorem wof_c (s : Sn) (ok : SnOk s) (x : Sta) (hv : vld s x) : Comp Try.prog 74 [wsA s, staA x] (.int .i64 (worthZ s x)) := by
  have p2 := ok.p2; have l2 := ok.l2; have hal := allN_lt ok
  have ha := wTab_at s ok hv
  obtain ⟨v1, v2, v3⟩ := hv
  refine Comp.body (T := tab) (res := [.tmp 4]) tab_ok [] Try.func74 rfl (by kernel_rfl) Try.ntmps74 rfl (by simp only [List.length_cons, List.length_nil]; decide) (by simp only [lowL, worsL, staL]; rfl) ?_; conv => whnf
  repeat' first | (with_reducible apply XAnd.mk) | ((first | (with_reducible apply Chk.go) | (with_reducible apply ChkA.go) | (with_reducible apply ChkF.go) | (with_reducible apply ChkB.go)); conv => whnf) | (exact XSame.mk rfl rfl) | (with_reducible exact trivial) | (apply Walk.drawN (id := 1) tab_ok mixed_ok [] [] (hsU _) [_, _, _, _, _, _, _, _, _, _, _, _, _] (by kernel_rfl) rfl) | ((first | (with_reducible apply XNext.mk) | (refine XArr.at _ (by omega) (by omega) (by rw [List.getElem?_drop, List.getElem?_drop, show (x.p : Int).toNat * 976 + ((x.m : Int).toNat * 16 + (x.l : Int).toNat * 1) = 976 * x.p + 16 * x.m + x.l by omega]; exact ha) ?_) | (refine XArr.pim (by omega) (by omega) ?_)); conv => whnf) | fail
  exact ⟨.low rfl⟩
def turnB (s : Sn) (l b : Nat) : Bool := worthZ s ⟨s.bed.toNat, s.last.toNat - b, l⟩ != -1
def turnN (s : Sn) (l : Nat) : Int := match (List.range (s.last.toNat + 1)).find? (turnB s l) with | some b => s.last - b | none => -1
theorem find_range_none {f : Nat → Bool} {n : Nat} (h : ∀ j, j < n → f j = false) : (List.range n).find? f = none := by
  rw [List.find?_eq_none]
  intro j hj
  rw [h j (List.mem_range.1 hj)]; simp
theorem find_range_some {f : Nat → Bool} : ∀ {n k : Nat}, k < n → f k = true → (∀ j, j < k → f j = false) → (List.range n).find? f = some k
  | n + 1, k, hk, h1, h2 => by
    rw [List.range_succ, List.find?_append]
    by_cases e : k < n
    · rw [find_range_some e h1 h2]; rfl
    · obtain rfl : k = n := by omega
      rw [find_range_none h2]
      rw [Option.none_or, List.find?_cons, h1]
theorem fTurn_ok (s : Sn) (hb : SnB s) (l : Nat) (ok : SnOk s) (h1 : 1 ≤ l) (h2 : l ≤ allN s) : Comp Try.prog 25 [snA s, natA l] (.tup [.int .i64 (if turnN s l = -1 then 0 else turnN s l), .int .i64 (if turnN s l = -1 then 6 else 0)]) := by
  have ho := fdOpened_c s hb ok
  have hst := fset_c s ok l
  have p2 := ok.p2; have l1 := ok.l1; have l2 := ok.l2; have b1 := ok.b1; have hal := allN_lt ok
  rw [inZ_iff.2 ⟨by omega, by omega⟩] at hst
  have hw := worths_c s ok
  obtain ⟨L0, hL0⟩ : ∃ L0 : Nat, s.last = L0 := ⟨s.last.toNat, by omega⟩
  refine Comp.body (T := tab) (res := [.tmp 4, .tmp 5]) tab_ok [] Try.func25 rfl (by kernel_rfl) Try.ntmps25 rfl (by simp only [List.length_cons, List.length_nil]; decide) (by simp only [lowL, AV.low, snL]; rfl) ?_; conv => whnf
  skip
  refine Walk.scope tab_ok [] ?_
  conv => whnf
  repeat' first | ((with_reducible apply XBr.tt); conv => whnf) | (with_reducible apply XBr.not) | ((with_reducible apply XBr.bne) <;> (intro h; first | (exfalso; omega) | (conv => whnf))) | ((first | (refine XCall.ret ho ?_) | (refine XCall.ret hst ?_) | (refine XCall.ret hw ?_)); conv => whnf) | fail
  refine Walk.label ?_
  conv => whnf
  repeat' first | ((with_reducible refine XInt.i64 (by omega) (by omega) ?_); conv => whnf) | fail
  refine Walk.loopK tab_ok [] [(1, _), (2, _), (4, _), (5, _), (8, _), (29, _)] ⟨rfl, rfl, rfl, rfl, rfl, rfl, trivial⟩ (fun k : Nat => k ≤ L0 + 1 ∧ ∀ j, j < k → turnB s l j = false) (fun k => [(9, .int .i64 (-1)), (30, natA k)]) (fun _ => []) (fun k => L0 + 1 - k) 0 ⟨Nat.zero_le _, fun j hj => by omega⟩ rfl ⟨rfl, rfl, trivial⟩ ?_
  rintro k ⟨hk, hs⟩
  conv => whnf
  by_cases hlt : k < L0 + 1
  · have hof := wof_c s ok ⟨s.bed.toNat, s.last.toNat - k, l⟩ ⟨by show ((s.bed.toNat : Nat) : Int) < s.places; omega, by show ((s.last.toNat - k : Nat) : Int) ≤ s.last; omega, h2⟩
    have hst2 : staA ⟨s.bed.toNat, s.last.toNat - k, l⟩ = .agg [.int .i64 s.bed, .int .i64 (s.last - k), natA l] := by
      unfold staA natA; dsimp only; rw [show ((s.last.toNat - k : Nat) : Int) = s.last - k by omega, Int.toNat_of_nonneg b1.1]
    rw [hst2] at hof
    have htb : turnB s l k = (worthZ s ⟨s.bed.toNat, s.last.toNat - k, l⟩ != -1) := rfl
    generalize worthZ s ⟨s.bed.toNat, s.last.toNat - k, l⟩ = v at hof htb
    repeat' first | ((with_reducible apply XBr.dec) <;> (intro h; first | (exfalso; omega) | ((try simp only [List.length_map] at h); first | (exfalso; omega) | (conv => whnf)))) | ((with_reducible apply XBr.beq) <;> (intro h; first | (exfalso; omega) | (conv => whnf))) | ((with_reducible apply XBr.bne) <;> (intro h; first | (exfalso; omega) | (conv => whnf))) | ((first | (with_reducible refine XInt.i64 (by omega) (by omega) ?_) | (refine XCall.ret hof ?_)); conv => whnf) | fail
    · have hf : turnN s l = s.last - k := by
        unfold turnN
        rw [find_range_some (k := k) (by omega) (by rw [htb]; simpa using (show v ≠ -1 by assumption)) hs]
      rw [hf, if_neg (by omega), if_neg (by omega)]
      exact ⟨.low rfl⟩
    · refine XAgain.go (k + 1) ⟨by omega, fun j hj => ?_⟩ (by omega) rfl ⟨rfl, rfl, rfl, rfl, rfl, rfl, rfl, rfl, trivial⟩
      by_cases e : j = k
      · subst e; rw [htb]; simpa using (show v = -1 by assumption)
      · exact hs j (by omega)
  obtain rfl : k = L0 + 1 := by omega
  have hf : turnN s l = -1 := by
    unfold turnN
    rw [find_range_none (fun j hj => hs j (by omega))]
  rw [hf, if_pos rfl, if_pos rfl]
  clear hs
  repeat' first | ((with_reducible apply XBr.dec) <;> (intro h; first | (exfalso; omega) | ((try simp only [List.length_map] at h); first | (exfalso; omega) | (conv => whnf)))) | ((with_reducible apply XBr.beq) <;> (intro h; first | (exfalso; omega) | (conv => whnf))) | fail
  exact ⟨.low rfl⟩
theorem index_sg (nl : Bool) (xs : List (Int × Int)) (t : Int × Int) (hx : xs.length ≤ 100000) : Comp Try.prog 144 [.sl nl (xs.map sgA), sgA t] (.int .i64 (idxR (fun y => t == y) xs)) := by
  have e1 : ((xs.map sgA).length : Int) = xs.length := by rw [List.length_map]
  refine Comp.body (T := tab) (res := [.tmp 4]) tab_ok [] Try.func144 rfl (by kernel_rfl) Try.ntmps144 rfl (by simp only [List.length_cons, List.length_nil]; decide) (by simp only [lowL, AV.low, lowSg, sgL]; rfl) ?_; conv => whnf
  skip
  refine Walk.loopK tab_ok [] [(0, _), (3, _), (7, _)] ⟨rfl, rfl, rfl, trivial⟩ (fun i : Nat => i ≤ xs.length ∧ ∀ j, j < i → (t == xs.getD j default) = false) (fun i => [(8, natA i)]) (fun _ => []) (fun i => xs.length - i) 0 ⟨Nat.zero_le _, fun j hj => by omega⟩ rfl ⟨rfl, trivial⟩ ?_
  rintro i ⟨hi, hs⟩
  conv => whnf
  by_cases hlt : i < xs.length
  · have hbe : ((t.1 == (xs.getD i default).1) && (t.2 == (xs.getD i default).2)) = (t == xs.getD i default) := rfl
    have hbe2 : (([t.1, t.2] : List Int) == [(xs.getD i default).1, (xs.getD i default).2]) = (t == xs.getD i default) := by rw [← hbe]; show (_ && (_ && true)) = _; rw [Bool.and_true]
    cases hb : t == xs.getD i default with
    | true =>
      rw [hb] at hbe2
      repeat' first | ((with_reducible apply XBr.tt); conv => whnf) | ((with_reducible apply XBr.dec) <;> (intro h; first | (exfalso; omega) | ((try simp only [List.length_map] at h); first | (exfalso; omega) | (conv => whnf)))) | (((with_reducible refine XIx.nat ?_ ?_ ?_); omega; (intro _; rfl)); conv => whnf) | (with_reducible apply XAnd.mk) | ((first | (with_reducible apply Chk.go) | (with_reducible apply ChkA.go) | (with_reducible apply ChkF.go) | (with_reducible apply ChkB.go)); conv => whnf) | (exact XSame.mk rfl rfl) | (with_reducible exact trivial) | (apply Walk.drawN (id := 4) tab_ok mixed_ok [] [] (hsU _) [_, _, _, _, _, _] (by kernel_rfl) rfl) | ((with_reducible apply XNext.mk); conv => whnf) | ((refine XEqA.mk ⟨[_, _], [_, _], rfl, rfl, rfl, rfl, ?_⟩); exact XSame.mk (congrArg AV.bool hbe2) rfl) | fail
      refine XOut.int ?_
      simp only [idxR, find_some (d := default) (i := i) hlt hb hs]
    | false =>
      rw [hb] at hbe2
      repeat' first | ((with_reducible apply XBr.ff); conv => whnf) | ((with_reducible apply XBr.dec) <;> (intro h; first | (exfalso; omega) | ((try simp only [List.length_map] at h); first | (exfalso; omega) | (conv => whnf)))) | ((first | (with_reducible refine XInt.i64 (by omega) (by omega) ?_) | ((with_reducible refine XIx.nat ?_ ?_ ?_); omega; (intro _; rfl))); conv => whnf) | (with_reducible apply XAnd.mk) | ((first | (with_reducible apply Chk.go) | (with_reducible apply ChkA.go) | (with_reducible apply ChkF.go) | (with_reducible apply ChkB.go)); conv => whnf) | (exact XSame.mk rfl rfl) | (with_reducible exact trivial) | (apply Walk.drawN (id := 4) tab_ok mixed_ok [] [] (hsU _) [_, _, _, _, _, _] (by kernel_rfl) rfl) | ((with_reducible apply XNext.mk); conv => whnf) | ((refine XEqA.mk ⟨[_, _], [_, _], rfl, rfl, rfl, rfl, ?_⟩); exact XSame.mk (congrArg AV.bool hbe2) rfl) | fail
      refine XAgain.go (i + 1) ⟨by omega, fun j hj => ?_⟩ (by omega) rfl ⟨rfl, rfl, rfl, rfl, trivial⟩
      by_cases e : j = i
      · subst e; exact hb
      · exact hs j (by omega)
  obtain rfl : i = xs.length := by omega
  have hf := find_none (d := default) hs
  clear hs
  repeat' first | ((with_reducible apply XBr.dec) <;> (intro h; first | (exfalso; omega) | ((try simp only [List.length_map] at h); first | (exfalso; omega) | (conv => whnf)))) | fail
  refine XOut.int ?_
  simp only [idxR, hf]
theorem contains_sg (nl : Bool) (xs : List (Int × Int)) (t : Int × Int) (hx : xs.length ≤ 100000) : Comp Try.prog 72 [.sl nl (xs.map sgA), sgA t] (.bool (xs.contains t)) := by
  have hi := index_sg nl xs t hx
  have hc : decide (0 ≤ idxR (fun y => t == y) xs) = xs.contains t := by
    rw [Bool.eq_iff_iff, decide_eq_true_eq, idxR_pos, List.any_eq_true, List.contains_iff_mem]
    constructor
    · rintro ⟨y, hy, e⟩; rw [beq_iff_eq] at e; subst e; exact hy
    · intro h; exact ⟨t, h, by simp⟩
  generalize idxR (fun y => t == y) xs = v at hi hc
  refine Comp.body (T := tab) (res := [.tmp 4]) tab_ok [] Try.func72 rfl (by kernel_rfl) Try.ntmps72 rfl (by simp only [List.length_cons, List.length_nil]; decide) (by simp only [lowL, AV.low, lowSg, sgL]; rfl) ?_; conv => whnf
  repeat' first | ((refine XCall.ret hi ?_); conv => whnf) | fail
  exact XOut.bool hc
def fixS (s : Sn) : Nat → Nat → Nat → Nat → List (Int × Int) → Option (Nat × Nat × Nat × Nat)
  | p, m, a, w, [] => some (p, m, a, w)
  | p, m, a, w, t :: l => if (waysL s p).contains t = true ∧ (m : Int) + t.2 ≤ s.last then
      fixS s t.1.toNat ((m : Int) + t.2).toNat (a &&& drN s t.1.toNat ((m : Int) + t.2).toNat) (if (p : Int) = s.bed ∧ t.1 = p then w + 1 else w) l else none
def fixR (s : Sn) (m : Int) (l : List (Int × Int)) : Nat × Nat :=
  match fixS s s.home.toNat m.toNat (drN s s.home.toNat m.toNat) 0 l with
  | some (p, _, a, w) => (if (p : Int) = s.home then a else 0, w)
  | none => (0, 0)
theorem fFixed_ok (s : Sn) (hb : SnB s) (ok : SnOk s) (m0 : Nat) (hm0 : (m0 : Int) ≤ s.last) (nl : Bool) (l : List (Int × Int)) (hl : l.length ≤ 100000) : Comp Try.prog 20 [snA s, natA m0, .sl nl (l.map sgA)] (.tup [natA (fixR s m0 l).1, natA (fixR s m0 l).2, .int .i64 (if fixS s s.home.toNat m0 (drN s s.home.toNat m0) 0 l = none then 8 else 0)]) := by
  have p1 := ok.p1; have p2 := ok.p2; have l1 := ok.l1; have l2 := ok.l2; have w1 := ok.w1; have h1 := ok.h1
  have ho := fdOpened_c s hb ok
  have hmn := fminute_c s m0
  rw [inZ_iff.2 ⟨by omega, hm0⟩] at hmn
  have e1 : ((l.map sgA).length : Int) = l.length := by rw [List.length_map]
  obtain ⟨h0, hh0⟩ : ∃ h0 : Nat, s.home = h0 := ⟨s.home.toNat, by omega⟩
  have hfr : fixR s m0 l = match fixS s h0 m0 (drN s h0 m0) 0 l with | some (p, _, a, w) => (if (p : Int) = s.home then a else 0, w) | none => (0, 0) := by unfold fixR; rw [hh0, Int.toNat_natCast, Int.toNat_natCast]
  rw [show s.home.toNat = h0 by omega]
  refine Comp.body (T := tab) (res := [.tmp 6, .tmp 7, .tmp 8]) tab_ok [] Try.func20 rfl (by kernel_rfl) Try.ntmps20 rfl (by simp only [List.length_cons, List.length_nil]; decide) (by simp only [lowL, AV.low, snL, lowSg]; rfl) ?_; conv => whnf
  repeat' first | ((with_reducible apply XBr.tt); conv => whnf) | (with_reducible apply XBr.not) | ((with_reducible apply XBr.bne) <;> (intro h; first | (exfalso; omega) | (conv => whnf))) | ((first | (refine XCall.ret ho ?_) | (refine XCall.ret hmn ?_) | (refine XArr.dryP h0 hh0 (by omega) ?_) | (refine XArr.dryM m0 rfl (by omega) (by omega) ?_)); conv => whnf) | fail
  refine Walk.loopGK tab_ok [] [(3, _), (9, _), (37, _), (38, _)] ⟨rfl, rfl, rfl, rfl, trivial⟩ (fun g : Nat × Nat × Nat × Nat × Nat => g.1 ≤ l.length ∧ (g.2.1 : Int) < s.places ∧ (g.2.2.1 : Int) ≤ s.last ∧ g.2.2.2.1 < 16 ∧ g.2.2.2.2 ≤ g.1 ∧ fixS s h0 m0 (drN s h0 m0) 0 l = fixS s g.2.1 g.2.2.1 g.2.2.2.1 g.2.2.2.2 (l.drop g.1)) (fun g => [(1, natA g.2.2.1), (6, natA g.2.2.2.1), (7, natA g.2.2.2.2), (8, .int .i64 0), (10, natA g.2.1), (39, natA g.1)]) (fun _ => []) (fun g => l.length - g.1) (0, h0, m0, drN s h0 m0, 0) ⟨Nat.zero_le _, by dsimp only; omega, hm0, drN_lt ok _ _, Nat.le_refl _, rfl⟩ rfl ⟨rfl, rfl, rfl, rfl, congrArg (fun z => some (AV.int .i64 z)) hh0, rfl, trivial⟩ ?_ (fun _ _ => Nat.le_refl _) ?_
  · intro g _
    refine ⟨by simp, fun z hz => ?_⟩
    simp only [List.cons_append, List.nil_append, List.mem_cons, List.not_mem_nil, or_false] at hz
    rcases hz with rfl | rfl | rfl | rfl | rfl | rfl | rfl | rfl | rfl | rfl <;> first | rfl | exact snCL s | exact dskFL s | exact lowSg _
  rintro ⟨k, p, m, a, w⟩ ⟨hk, hp, hm, ha, hw, hs⟩
  dsimp only at hk hp hm ha hw hs ⊢
  conv => whnf
  by_cases hlt : k < l.length
  · rw [drop_next hlt, fixS] at hs
    have hct := contains_sg false (waysL s p) (l.getD k default) (by
      have h := waysK_len s p s.places.toNat
      have h2 : s.places.toNat * (1 + s.ways.length) ≤ 5 * 11 := Nat.mul_le_mul (by omega) (by omega)
      show (waysK s p s.places.toNat).length ≤ 100000
      omega)
    have hmg : mget (p : Int) ((keyF s).zip ((esF s s.places.toNat).map (·.2))) = some (.sl false ((waysL s p).map sgA)) := by
      unfold keyF; rw [zip_fs]; exact esF_get s _ _ (by omega)
    cases hc : (waysL s p).contains (l.getD k default) with
    | false =>
      rw [hc] at hct hs
      rw [if_neg (by simp)] at hs
      repeat' first | ((first | (with_reducible apply XBr.tt) | (with_reducible apply XBr.ff)); conv => whnf) | (with_reducible apply XBr.not) | ((with_reducible apply XBr.dec) <;> (intro h; first | (exfalso; omega) | ((try simp only [List.length_map] at h); first | (exfalso; omega) | (conv => whnf)))) | (((with_reducible refine XIx.nat ?_ ?_ ?_); omega; (intro _; rfl)); conv => whnf) | (with_reducible apply XAnd.mk) | ((first | (with_reducible apply Chk.go) | (with_reducible apply ChkA.go) | (with_reducible apply ChkF.go) | (with_reducible apply ChkB.go)); conv => whnf) | (exact XSame.mk rfl rfl) | (with_reducible exact trivial) | (apply Walk.drawN (id := 11) tab_ok mixed_ok [] [] (hsU _) [_, _, _, _, _, _, _, _, _, _, _, _, _, _, _, _, _, _] (by kernel_rfl) rfl) | ((first | (with_reducible apply XNext.mk) | (refine XDrop.dskF ?_) | (refine XGetM.mk' hmg ?_) | (refine XCall.ret hct ?_)); conv => whnf) | fail
      rw [hfr, hs]
      exact ⟨.low rfl⟩
    | true =>
      rw [hc] at hct hs
      have hwy := waysL_pos ok (List.contains_iff_mem.1 hc)
      by_cases hle : (m : Int) + (l.getD k default).2 ≤ s.last
      · rw [if_pos ⟨rfl, hle⟩] at hs
        obtain ⟨q, hq⟩ : ∃ q : Nat, (l.getD k default).1 = q := ⟨(l.getD k default).1.toNat, by omega⟩
        obtain ⟨m', hm'⟩ : ∃ m' : Nat, (m : Int) + (l.getD k default).2 = m' := ⟨((m : Int) + (l.getD k default).2).toNat, by omega⟩
        rw [hm', Int.toNat_natCast, hq, Int.toNat_natCast] at hs
        have hand : iand .i64 (a : Int) (drN s q m' : Int) = ((a &&& drN s q m' : Nat) : Int) := iand_nat (by omega) (by have := drN_lt ok q m'; omega)
        have hal : a &&& drN s q m' ≤ a := Nat.and_le_left
        by_cases c1 : (p : Int) = s.bed
        · by_cases c2 : (l.getD k default).1 = (p : Int)
          · rw [if_pos ⟨c1, by omega⟩] at hs
            repeat' first | ((with_reducible apply XBr.tt); conv => whnf) | (with_reducible apply XBr.not) | ((with_reducible apply XBr.dec) <;> (intro h; first | (exfalso; omega) | ((try simp only [List.length_map] at h); first | (exfalso; omega) | (conv => whnf)))) | ((with_reducible apply XBr.beq) <;> (intro h; first | (exfalso; omega) | (conv => whnf))) | ((first | (with_reducible refine XInt.i64 (by omega) (by omega) ?_) | ((with_reducible refine XIx.nat ?_ ?_ ?_); omega; (intro _; rfl))); conv => whnf) | (with_reducible apply XAnd.mk) | ((first | (with_reducible apply Chk.go) | (with_reducible apply ChkA.go) | (with_reducible apply ChkF.go) | (with_reducible apply ChkB.go)); conv => whnf) | (exact XSame.mk rfl rfl) | (with_reducible exact trivial) | (apply Walk.drawN (id := 11) tab_ok mixed_ok [] [] (hsU _) [_, _, _, _, _, _, _, _, _, _, _, _, _, _, _, _, _, _] (by kernel_rfl) rfl) | (apply Walk.drawN (id := 15) tab_ok mixed_ok [] [] (hsU _) [_, _, _, _, _, _, _, _] (by kernel_rfl) rfl) | ((first | (with_reducible apply XNext.mk) | (refine XDrop.dskF ?_) | (refine XGetM.mk' hmg ?_) | (refine XCall.ret hct ?_) | (refine XArr.dryP q hq (by omega) ?_) | (refine XArr.dryM m' hm' (by omega) (by omega) ?_)); conv => whnf) | fail
            exact XAgainG.go (k + 1, q, m', a &&& drN s q m', w + 1) [.cells (sgA (l.getD k default)).cells] ⟨by dsimp only; omega, by dsimp only; omega, by dsimp only; omega, by dsimp only; omega, by dsimp only; omega, hs⟩ (by dsimp only; omega) rfl ⟨rfl, rfl, rfl, rfl, congrArg (fun z => some (AV.int .i64 z)) hm', congrArg (fun z => some (AV.int .i64 z)) hand, rfl, rfl, congrArg (fun z => some (AV.int .i64 z)) hq, rfl, trivial⟩
          · rw [if_neg (fun h => c2 (by omega))] at hs
            repeat' first | ((with_reducible apply XBr.tt); conv => whnf) | (with_reducible apply XBr.not) | ((with_reducible apply XBr.dec) <;> (intro h; first | (exfalso; omega) | ((try simp only [List.length_map] at h); first | (exfalso; omega) | (conv => whnf)))) | ((with_reducible apply XBr.beq) <;> (intro h; first | (exfalso; omega) | (conv => whnf))) | ((first | (with_reducible refine XInt.i64 (by omega) (by omega) ?_) | ((with_reducible refine XIx.nat ?_ ?_ ?_); omega; (intro _; rfl))); conv => whnf) | (with_reducible apply XAnd.mk) | ((first | (with_reducible apply Chk.go) | (with_reducible apply ChkA.go) | (with_reducible apply ChkF.go) | (with_reducible apply ChkB.go)); conv => whnf) | (exact XSame.mk rfl rfl) | (with_reducible exact trivial) | (apply Walk.drawN (id := 11) tab_ok mixed_ok [] [] (hsU _) [_, _, _, _, _, _, _, _, _, _, _, _, _, _, _, _, _, _] (by kernel_rfl) rfl) | (apply Walk.drawN (id := 15) tab_ok mixed_ok [] [] (hsU _) [_, _, _, _, _, _, _, _] (by kernel_rfl) rfl) | ((first | (with_reducible apply XNext.mk) | (refine XDrop.dskF ?_) | (refine XGetM.mk' hmg ?_) | (refine XCall.ret hct ?_) | (refine XArr.dryP q hq (by omega) ?_) | (refine XArr.dryM m' hm' (by omega) (by omega) ?_)); conv => whnf) | fail
            exact XAgainG.go (k + 1, q, m', a &&& drN s q m', w) [.cells (sgA (l.getD k default)).cells] ⟨by dsimp only; omega, by dsimp only; omega, by dsimp only; omega, by dsimp only; omega, by dsimp only; omega, hs⟩ (by dsimp only; omega) rfl ⟨rfl, rfl, rfl, rfl, congrArg (fun z => some (AV.int .i64 z)) hm', congrArg (fun z => some (AV.int .i64 z)) hand, rfl, rfl, congrArg (fun z => some (AV.int .i64 z)) hq, rfl, trivial⟩
        · rw [if_neg (fun h => c1 h.1)] at hs
          repeat' first | ((first | (with_reducible apply XBr.tt) | (with_reducible apply XBr.ff)); conv => whnf) | (with_reducible apply XBr.not) | ((with_reducible apply XBr.dec) <;> (intro h; first | (exfalso; omega) | ((try simp only [List.length_map] at h); first | (exfalso; omega) | (conv => whnf)))) | ((with_reducible apply XBr.beq) <;> (intro h; first | (exfalso; omega) | (conv => whnf))) | ((first | (with_reducible refine XInt.i64 (by omega) (by omega) ?_) | ((with_reducible refine XIx.nat ?_ ?_ ?_); omega; (intro _; rfl))); conv => whnf) | (with_reducible apply XAnd.mk) | ((first | (with_reducible apply Chk.go) | (with_reducible apply ChkA.go) | (with_reducible apply ChkF.go) | (with_reducible apply ChkB.go)); conv => whnf) | (exact XSame.mk rfl rfl) | (with_reducible exact trivial) | (apply Walk.drawN (id := 11) tab_ok mixed_ok [] [] (hsU _) [_, _, _, _, _, _, _, _, _, _, _, _, _, _, _, _, _, _] (by kernel_rfl) rfl) | (apply Walk.drawN (id := 15) tab_ok mixed_ok [] [] (hsU _) [_, _, _, _, _, _, _, _] (by kernel_rfl) rfl) | ((first | (with_reducible apply XNext.mk) | (refine XDrop.dskF ?_) | (refine XGetM.mk' hmg ?_) | (refine XCall.ret hct ?_) | (refine XArr.dryP q hq (by omega) ?_) | (refine XArr.dryM m' hm' (by omega) (by omega) ?_)); conv => whnf) | fail
          exact XAgainG.go (k + 1, q, m', a &&& drN s q m', w) [.cells (sgA (l.getD k default)).cells] ⟨by dsimp only; omega, by dsimp only; omega, by dsimp only; omega, by dsimp only; omega, by dsimp only; omega, hs⟩ (by dsimp only; omega) rfl ⟨rfl, rfl, rfl, rfl, congrArg (fun z => some (AV.int .i64 z)) hm', congrArg (fun z => some (AV.int .i64 z)) hand, rfl, rfl, congrArg (fun z => some (AV.int .i64 z)) hq, rfl, trivial⟩
      · rw [if_neg (fun h => hle h.2)] at hs
        repeat' first | ((with_reducible apply XBr.tt); conv => whnf) | (with_reducible apply XBr.not) | ((with_reducible apply XBr.dec) <;> (intro h; first | (exfalso; omega) | ((try simp only [List.length_map] at h); first | (exfalso; omega) | (conv => whnf)))) | ((first | (with_reducible refine XInt.i64 (by omega) (by omega) ?_) | ((with_reducible refine XIx.nat ?_ ?_ ?_); omega; (intro _; rfl))); conv => whnf) | (with_reducible apply XAnd.mk) | ((first | (with_reducible apply Chk.go) | (with_reducible apply ChkA.go) | (with_reducible apply ChkF.go) | (with_reducible apply ChkB.go)); conv => whnf) | (exact XSame.mk rfl rfl) | (with_reducible exact trivial) | (apply Walk.drawN (id := 11) tab_ok mixed_ok [] [] (hsU _) [_, _, _, _, _, _, _, _, _, _, _, _, _, _, _, _, _, _] (by kernel_rfl) rfl) | ((first | (with_reducible apply XNext.mk) | (refine XDrop.dskF ?_) | (refine XGetM.mk' hmg ?_) | (refine XCall.ret hct ?_)); conv => whnf) | fail
        rw [hfr, hs]
        exact ⟨.low rfl⟩
  obtain rfl : k = l.length := by omega
  rw [List.drop_length, fixS] at hs
  have hfr2 : fixR s m0 l = (if (p : Int) = s.home then a else 0, w) := by rw [hfr, hs]
  by_cases hph : (p : Int) = s.home
  · rw [if_pos hph] at hfr2
    repeat' first | ((with_reducible apply XBr.dec) <;> (intro h; first | (exfalso; omega) | ((try simp only [List.length_map] at h); first | (exfalso; omega) | (conv => whnf)))) | ((with_reducible apply XBr.bne) <;> (intro h; first | (exfalso; omega) | (conv => whnf))) | fail
    rw [hfr2, hs]
    exact ⟨.low rfl⟩
  · rw [if_neg hph] at hfr2
    repeat' first | ((with_reducible apply XBr.dec) <;> (intro h; first | (exfalso; omega) | ((try simp only [List.length_map] at h); first | (exfalso; omega) | (conv => whnf)))) | ((with_reducible apply XBr.bne) <;> (intro h; first | (exfalso; omega) | (conv => whnf))) | fail
    rw [hfr2, hs]
    exact ⟨.low rfl⟩
end GA
end

section
namespace GA
open Go Go.RowKit Go.Proofs
set_option maxRecDepth 8000
set_option linter.unusedVariables false
set_option linter.unusedSimpArgs false

theorem fixS_app {s : Sn} {l2 : List (Int × Int)} : ∀ {l : List (Int × Int)} {p m a w p' m' a' w' : Nat}, fixS s p m a w l = some (p', m', a', w') → fixS s p m a w (l ++ l2) = fixS s p' m' a' w' l2
  | [], p, m, a, w, p', m', a', w', h => by cases h; rfl
  | t :: l, p, m, a, w, p', m', a', w', h => by
    rw [fixS] at h
    split at h
    · rename_i hc
      rw [List.cons_append, fixS, if_pos hc]; exact fixS_app h
    · cases h
end GA
end

section
namespace GA
open Go Go.RowKit Go.Proofs
set_option maxRecDepth 8000
set_option linter.unusedVariables false
set_option linter.unusedSimpArgs false

def startZ (s : Sn) (m : Nat) : Int := (partsL s s.home.toNat (allN s)).foldl (fun n l => min n (worthZ s ⟨s.home.toNat, m, l⟩)) 60
theorem startZ_le (s : Sn) (m : Nat) : startZ s m ≤ 60 ∧ ∀ l ∈ partsL s s.home.toNat (allN s), startZ s m ≤ worthZ s ⟨s.home.toNat, m, l⟩ := (foldl_min_prop (f := fun l => worthZ s ⟨s.home.toNat, m, l⟩)).2
theorem startZ_ge {s : Sn} {m : Nat} {c : Int} (h0 : c ≤ 60) (h : ∀ l ∈ partsL s s.home.toNat (allN s), c ≤ worthZ s ⟨s.home.toNat, m, l⟩) : c ≤ startZ s m := by
  rcases (foldl_min_prop (f := fun l => worthZ s ⟨s.home.toNat, m, l⟩) (l := partsL s s.home.toNat (allN s)) (b := 60)).1 with e | ⟨l, hl, e⟩
  · unfold startZ; rw [e]; exact h0
  · unfold startZ; rw [e]; exact h l hl
theorem allN_bit (s : Sn) (i : Nat) : (allN s).testBit i = decide (i < s.truths.length) := by unfold allN; exact Nat.testBit_two_pow_sub_one _ _
structure Wider (s u : Sn) : Prop where
  places : s.places = u.places
  home : s.home = u.home
  bed : s.bed = u.bed
  last : s.last = u.last
  ways : s.ways = u.ways
  tr : s.truths.length = u.truths.length
  dry : ∀ i p m, dryT s i p m = true → dryT u i p m = true
  look : ∀ i j p, i < s.truths.length → j < s.truths.length → lookZ u i p = lookZ u j p → lookZ s i p = lookZ s j p
theorem Wider.waysL {s u : Sn} (e : Wider s u) (p : Nat) : waysL s p = waysL u p := by
  unfold GA.waysL
  rw [e.places]
  have : ∀ k, waysK s p k = waysK u p k := fun k => by
    induction k with
    | zero => rfl
    | succ k ih => rw [waysK, waysK, ih]; unfold waysQ; rw [e.ways]
  exact this _
theorem Wider.emb {s u : Sn} (ok : SnOk s) (e : Wider s u) : Emb s u id id fun i => i < s.truths.length := by
  refine ⟨e.last, fun p h => by show (p : Int) < u.places; rw [← e.places]; exact h, fun p h => by rw [← e.home]; exact h, fun p h => by rw [← e.bed]; exact h, fun p t hp ht => ?_, fun i hi => ⟨hi, by show i < _; rw [← e.tr]; exact hi⟩, fun i p m _ h => e.dry i p m h, fun i j p hi hj h => e.look i j p hi hj h⟩
  have hw := waysL_pos ok ht
  rw [e.waysL] at ht
  show (((t.1.toNat : Nat) : Int), t.2) ∈ GA.waysL u p
  rw [Int.toNat_of_nonneg hw.2.2.1]; exact ht
theorem Wider.worth {s u : Sn} (oks : SnOk s) (oku : SnOk u) (e : Wider s u) {p m B A : Nat} (hm : (m : Int) ≤ s.last) (hp : (p : Int) < s.places) (hA : A ≠ 0) (hB : ∀ i, B.testBit i = true → i < s.truths.length) (hAB : ∀ i, A.testBit i = true → B.testBit i = true) : worthZ s ⟨p, m, B⟩ ≤ worthZ u ⟨p, m, A⟩ :=
  worth_mono oks oku (e.emb oks) _ p m B A (Nat.le_refl _) hm hp hA hB fun j hj => ⟨j, hAB j hj, rfl⟩
theorem part_B {s : Sn} (ok : SnOk s) {p left l : Nat} (h : l ∈ partsL s p left) : l ≠ 0 ∧ ∀ i, l.testBit i = true → i < s.truths.length ∧ left.testBit i = true := by
  obtain ⟨n, -, e, hne⟩ := partsL_mem.1 h
  refine ⟨hne, fun i hi => ?_⟩
  rw [e, partN_bit] at hi
  simp only [Bool.and_eq_true, decide_eq_true_eq] at hi
  rw [ok.k1] at hi
  exact ⟨hi.1, hi.2.2⟩
theorem Wider.start {s u : Sn} (oks : SnOk s) (oku : SnOk u) (e : Wider s u) {m : Nat} (hm : (m : Int) ≤ s.last) : startZ s m ≤ startZ u m := by
  refine startZ_ge (startZ_le s m).1 fun l hl => ?_
  obtain ⟨hne, hlB⟩ := part_B oku hl
  have h1 := oks.h1
  obtain ⟨j, hj⟩ := bit_some hne
  have hj' := hlB j hj
  have hjs : j < s.looks.length := by rw [oks.k1, e.tr]; exact hj'.1
  obtain ⟨n, hn, hlk, hpm, hb⟩ := parts_has oks (p := s.home.toNat) (left := allN s) (by omega) hjs (by rw [allN_bit]; exact decide_eq_true (by rw [← oks.k1]; exact hjs))
  refine Int.le_trans ((startZ_le s m).2 _ hpm) ?_
  rw [← e.home]
  obtain ⟨k, -, ek, -⟩ := partsL_mem.1 hl
  have hbits : ∀ i, l.testBit i = true → i < s.truths.length ∧ lookZ u i u.home.toNat = (k : Nat) := fun i hi => by
    rw [ek, partN_bit] at hi
    simp only [Bool.and_eq_true, decide_eq_true_eq, beq_iff_eq] at hi
    rw [oku.k1, ← e.tr] at hi
    exact ⟨hi.1, hi.2.1⟩
  refine e.worth oks oku hm (by omega) hne (fun i hi => ?_) fun i hi => ?_
  · rw [partN_bit, Bool.and_eq_true, decide_eq_true_eq, oks.k1] at hi
    exact hi.1
  · have hi' := hbits i hi
    have hj2 := hbits j hj
    have hll := e.look i j s.home.toNat hi'.1 hj2.1 (by rw [e.home, hi'.2, hj2.2])
    rw [partN_bit, hll, hlk, allN_bit, decide_eq_true hi'.1, decide_eq_true (by rw [oks.k1]; exact hi'.1)]
    simp
where
  bit_some {l : Nat} (h : l ≠ 0) : ∃ j, l.testBit j = true := by
    refine Classical.byContradiction fun h' => h (bit_ext fun j => ?_)
    rw [Nat.zero_testBit]
    cases hb : l.testBit j with
    | false => rfl
    | true => exact absurd ⟨j, hb⟩ h'
end GA
end

section
namespace GA
open Go Go.RowKit Go.Proofs
set_option maxRecDepth 8000
set_option linter.unusedVariables false
set_option linter.unusedSimpArgs false

theorem XGet.to {els : List AV} {n e : Nat} {k : List AV → Prop} (v : AV) (h1 : n = els.length) (h2 : e < n) (hv : els.getD e default = v) (h : k v.cells) : XGet els n e k := ⟨h1, h2, by rw [hv]; exact h⟩
theorem XPut.to {els : List AV} {n e : Nat} {v : AV} {k : List AV → Prop} (els' : List AV) (h1 : n = els.length) (h2 : e < n) (hv : els.set e v = els') (h : k els') : XPut els n e v k := ⟨h1, h2, by rw [hv]; exact h⟩
theorem XRun.heap {P : Program} {T : Tab} {N : Nat} {r : Option Nat} {own : List Nat} {c : Code} {Q : Post} {D : List Nat} {σ : St} {H : List Blk} (H' : List Blk) (h : H' = H) (x : XRun P T N r own c Q D σ H') : XRun P T N r own c Q D σ H := h ▸ x
end GA
end

section
namespace GA
open Go Go.RowKit Go.Proofs
set_option pp.deepTerms true
set_option maxRecDepth 8000
set_option linter.unusedVariables false
set_option linter.unusedSimpArgs false

structure XEndE (P : Program) (n : Nat) (H : List Blk) (r' : AV) (k : AV → List Blk → Prop) : Prop where
  o : ∃ r H1, XEnd P n H r' r H1 ∧ k r H1
theorem ACall.bodyE {P : Program} {T : Tab} {N : Nat} {H : List Blk} {f : FuncId} {fn : Func} {c : Code} {rs : List AV} {res : List ResultVar} {k : AV → List Blk → Prop} (ok : TabOk P T) (own : List Nat) (hf : P.funcs[f]? = some fn) (hb : fn.body = some c) (hn : (fn.name == "runtime.NumGoroutine") = false)
    (hN : fn.ntmps = N) (hr : fn.results = res.toArray) (hl : rs.length ≤ N)
    (x : XRun P T N none own c (XIn T res fun r' H' => XEndE P H.length H' r' k) [] (argX rs) H) : ACall P f rs H k := by
  obtain ⟨h1, h2⟩ := ACall.inl ok own hf hb hn hN hr hl x
  refine ⟨h1, fun E h β w vs s hrs => (h2 E h β w vs s hrs).mono ?_⟩
  rintro e w' ⟨r', H', h', β', v, rfl, ⟨r, H1, ⟨g1, g2, g3, g4⟩, hk⟩, X, s', hrep⟩
  have hH : H' = H1 ++ H'.drop H.length := by rw [← g1, List.take_append_drop]
  rw [hH] at s' X hrep g4
  have s2 := s'.allN (by rw [g2]; exact g3)
  have X2 : Ext h β H h' β' H1 := X.cut (by omega)
  rw [g2] at s2
  exact ⟨r, H1, _, β', v, rfl, hk, ⟨fun b o e => hallN_imm s' (X2.imm b o e), by omega, X2.to⟩, s2, g4 E h' β' w' s' v hrep H1⟩
def HpE (f : FuncId) (qs : List AV) (h : Hp) (Φ : AV → Hp → Prop) : Prop :=
  lowL 0 qs = true ∧ ACall Try.prog f (.ptr 0 0 :: qs) [hpC h] fun r' H' => ∃ r h', r.low 0 = true ∧ Φ r h' ∧ r' = r ∧ H' = [hpC h']
theorem XCall.hpE {f : FuncId} {qs : List AV} {h : Hp} {Φ : AV → Hp → Prop} (x : HpE f qs h Φ) {H : List Blk} {k : AV → List Blk → Prop} {j : Nat} (h0 : lget H j = some (hpC h))
    (hk : ∀ r h', Φ r h' → k r (H.set j (hpC h'))) : XCall Try.prog f (.ptr j 0 :: qs) H k := by
  constructor
  have e := ACall.frame (ρ := fun i => j + i) (H := H) (k := k) x.2 (fun a b _ _ h => by have : j + a = j + b := h; omega) ?_ (fun y hy => by simp at hy; subst hy; exact hpC_low h) ?_ ?_
  · have hd : renL (fun i => j + i) qs = qs := renL_low0 x.1
    rw [List.map_cons, ← renL_eq, hd] at e
    exact e
  · intro i x1 hi
    rw [lget_eq] at h0
    rcases i with _ | i
    · simp only [List.getElem?_cons_zero, Option.some.injEq] at hi; subst hi
      rw [hpC_ren]; exact h0
    · simp at hi
  · simp only [lowL, AV.low, lowL_mono (Nat.zero_le _) x.1]; rfl
  · rintro r1 H1' ⟨r, h', hr, hΦ, rfl, rfl⟩
    rw [lget_eq] at h0
    have hj := (List.getElem?_eq_some_iff.1 h0).1
    refine ⟨rfl, H.set j (hpC h'), by simp, fun i x1 hi => ?_, fun q hq => ?_, ?_⟩
    · rcases i with _ | i
      · simp only [List.getElem?_cons_zero, Option.some.injEq] at hi; subst hi
        rw [hpC_ren]; simp [hj]
      · simp at hi
    · exact List.getElem?_set_ne (by have := hq 0 (by simp); simpa using this)
    · rw [AV.ren_low (n := 0) (fun i hi => by omega) hr]; exact hk _ _ hΦ
theorem upto_e (u : Hp) (n : Int) (o : u.Ok) (h1 : -100000 ≤ n) (h2 : n ≤ 100000) : ∃ z u', (0 ≤ z ∧ z ≤ max 0 n) ∧ Hp.Ok u' ∧ HpOk 14 [.int .i64 n] u (.int .i64 z) u' :=
  ⟨_, _, modV_bound u n, hpS_ok o, upto_c u n o h1 h2⟩
theorem from_e (u : Hp) (lo hi : Int) (o : u.Ok) (h1 : -10000 ≤ lo) (h2 : lo ≤ 10000) (h3 : -10000 ≤ hi) (h4 : hi ≤ 10000) : ∃ z u', (lo ≤ z ∧ z ≤ max lo hi) ∧ Hp.Ok u' ∧ HpOk 46 [.int .i64 lo, .int .i64 hi] u (.int .i64 z) u' :=
  ⟨_, _, by have := modV_bound u (hi - lo); omega, hpS_ok o, from_c u lo hi o h1 h2 h3 h4⟩
theorem once_e (u : Hp) (n : Int) (o : u.Ok) (h1 : -10000 ≤ n) (h2 : n ≤ 10000) : ∃ b u', Hp.Ok u' ∧ HpOk 59 [.int .i64 n] u (.bool b) u' :=
  ⟨_, _, hpS_ok o, once_c u n o h1 h2⟩
structure MkOk (s : Sn) (last : Int) : Prop where
  ok : SnOk s
  b : SnB s
  p : 2 ≤ s.places
  h : s.home = 0
  l1 : 4 ≤ s.last
  l2 : s.last ≤ last
  b1 : 1 ≤ s.bed
structure WyOk (P p : Int) (W : List Wy) : Prop where
  w : ∀ w ∈ W, 1 ≤ w.2.2 ∧ w.2.2 ≤ 5 ∧ ((w.1 = w.2.1 - 1 ∧ 1 ≤ w.2.1 ∧ w.2.1 < p) ∨ (0 ≤ w.2.1 ∧ w.2.1 ≤ w.1 - 2 ∧ w.1 < p))
  n : ∀ i, i < W.length → ((W.getD i default).1 == (W.getD i default).2.1 || (W.take i).any fun x => leadB x (W.getD i default).1 (W.getD i default).2.1) = false
  l : (W.length : Int) ≤ 2 * (p - 1)
theorem WyOk.nil {P : Int} : WyOk P 1 [] := ⟨by simp, fun i hi => by simp at hi, by simp⟩
theorem rep_app {W : List Wy} {w : Wy} (h : ∀ i, i < W.length → ((W.getD i default).1 == (W.getD i default).2.1 || (W.take i).any fun x => leadB x (W.getD i default).1 (W.getD i default).2.1) = false) (h1 : w.1 ≠ w.2.1) (h2 : ∀ x ∈ W, leadB x w.1 w.2.1 = false) :
    ∀ i, i < (W ++ [w]).length → (((W ++ [w]).getD i default).1 == ((W ++ [w]).getD i default).2.1 || ((W ++ [w]).take i).any fun x => leadB x ((W ++ [w]).getD i default).1 ((W ++ [w]).getD i default).2.1) = false := by
  intro i hi
  rw [List.length_append, List.length_singleton] at hi
  by_cases e : i < W.length
  · have e1 : (W ++ [w]).getD i default = W.getD i default := by rw [List.getD_eq_getElem?_getD, List.getD_eq_getElem?_getD, List.getElem?_append_left e]
    rw [e1, List.take_append_of_le_length (by omega)]
    exact h i e
  · have e0 : i = W.length := by omega
    have e1 : (W ++ [w]).getD i default = w := by rw [List.getD_eq_getElem?_getD, e0, List.getElem?_append_right (Nat.le_refl _), Nat.sub_self]; rfl
    rw [e1, e0, List.take_append_of_le_length (Nat.le_refl _), List.take_length, Bool.or_eq_false_iff]
    refine ⟨by simpa using h1, ?_⟩
    rw [List.any_eq_false]
    intro x hx
    rw [h2 x hx]; simp
theorem WyOk.one {P p m : Int} {W : List Wy} (h : WyOk P p W) (hp : 1 ≤ p) (h1 : 1 ≤ m) (h2 : m ≤ 5) : WyOk P (p + 1) (W ++ [(p - 1, p, m)]) := by
  refine ⟨fun w hw => ?_, rep_app h.n (by dsimp only; omega) fun x hx => ?_, ?_⟩
  · rcases List.mem_append.1 hw with hw | hw
    · have := h.w w hw; omega
    · rw [List.mem_singleton] at hw; subst hw; dsimp only; omega
  · rw [← Bool.not_eq_true, leadB_iff]
    have := h.w x hx
    dsimp only; omega
  · have := h.l
    rw [List.length_append, List.length_singleton]; omega
theorem WyOk.two {P p q m m2 : Int} {W : List Wy} (h : WyOk P p W) (hp : 1 ≤ p) (h1 : 1 ≤ m) (h2 : m ≤ 5) (h3 : 1 ≤ m2) (h4 : m2 ≤ 5) (hq : 0 ≤ q) (hq2 : q ≤ p - 2) : WyOk P (p + 1) ((W ++ [(p - 1, p, m)]) ++ [(p, q, m2)]) := by
  have h' := h.one hp h1 h2
  refine ⟨fun w hw => ?_, rep_app h'.n (by dsimp only; omega) fun x hx => ?_, ?_⟩
  · rcases List.mem_append.1 hw with hw | hw
    · exact h'.w w hw
    · rw [List.mem_singleton] at hw; subst hw; dsimp only; omega
  · rw [← Bool.not_eq_true, leadB_iff]
    dsimp only
    rcases List.mem_append.1 hx with hx | hx
    · have := h.w x hx; omega
    · rw [List.mem_singleton] at hx; subst hx; dsimp only; omega
  · have := h.l
    rw [List.length_append, List.length_append, List.length_singleton, List.length_singleton]; omega
theorem mk_ok {P bed last lim : Int} {W : List Wy} {looks : List Rw} {truths : List Tru} {nw nk nt : Bool} (hP : 2 ≤ P ∧ P ≤ 5) (hb : 1 ≤ bed ∧ bed ≤ P - 1) (hl : 4 ≤ last ∧ last ≤ lim) (hlim : lim ≤ 60) (hW : WyOk P P W)
    (hk : ∀ r ∈ looks, (r.2.length : Int) = P ∧ ∀ n ∈ r.2, 0 ≤ n ∧ n ≤ 3) (ht : ∀ t ∈ truths, (t.2.length : Int) = P ∧ ∀ r ∈ t.2, spE last none r.2 = 0 ∧ r.2.length ≤ 2) (hkl : looks.length = truths.length) (ht1 : 1 ≤ truths.length) (ht2 : truths.length ≤ 4) :
    MkOk ⟨P, 0, bed, last, nw, W, nk, looks, nt, truths⟩ lim := by
  have hwl := hW.l
  refine ⟨⟨by dsimp only; omega, by dsimp only; omega, ht1, ht2, by dsimp only; omega, hkl, fun l h => (hk l h).1, fun t h => (ht t h).1, by dsimp only; omega, by dsimp only; omega, fun w hw => ?_, fun l h n hn => (hk l h).2 n hn, by dsimp only; omega, by dsimp only; omega, fun w hw => ?_, by dsimp only; omega, hW.n, fun t h r hr => ((ht t h).2 r hr).1⟩,
    ⟨by dsimp only; omega, by dsimp only; omega, by dsimp only; omega, fun r h => by have := (hk r h).1; omega, fun t h => by have := (ht t h).1; omega, fun t h r hr => by have := ((ht t h).2 r hr).2; omega⟩, hP.1, rfl, hl.1, hl.2, hb.1⟩
  · have := hW.w w hw; first | omega | (dsimp only; omega)
  · have := hW.w w hw; first | omega | (dsimp only; omega)
theorem sp_one {last lo hi : Int} (h1 : 0 ≤ lo) (h2 : lo ≤ hi) (h3 : hi ≤ last) : spE last none [(lo, hi)] = 0 := by
  rw [spE, spE]
  rw [if_neg (by rw [inZ_iff.2 ⟨h1, by first | omega | (dsimp only; omega)⟩, inZ_iff.2 ⟨h2, h3⟩]; simp), if_neg (by simp [spBad])]
theorem sp_two {last lo cut hi : Int} (h1 : 0 ≤ lo) (h2 : lo + 1 < cut) (h3 : cut < hi - 1) (h4 : hi ≤ last) : spE last none [(lo, cut - 1), (cut + 1, hi)] = 0 := by
  rw [spE, spE, spE]
  rw [if_neg (by rw [inZ_iff.2 ⟨h1, by first | omega | (dsimp only; omega)⟩, inZ_iff.2 ⟨by first | omega | (dsimp only; omega), by first | omega | (dsimp only; omega)⟩]; simp), if_neg (by simp [spBad]), if_neg (by rw [inZ_iff.2 ⟨by first | omega | (dsimp only; omega), by first | omega | (dsimp only; omega)⟩, inZ_iff.2 ⟨by first | omega | (dsimp only; omega), by first | omega | (dsimp only; omega)⟩]; simp), if_neg (by show ¬ decide (cut + 1 ≤ cut - 1 + 1) = true; simp; omega)]
end GA
end

section
namespace GA
open Go Go.RowKit Go.Proofs
set_option pp.deepTerms true
set_option maxRecDepth 8000
set_option linter.unusedVariables false
set_option linter.unusedSimpArgs false

def zSn : List AV := [.int .i64 0, .int .i64 0, .int .i64 0, .int .i64 0, .sl true [], .sl true [], .sl true []]
theorem ints_app (a b : List Int) : ints (a ++ b) = ints a ++ ints b := List.map_append
theorem hpLow {h : Hp} {x : Blk} (hx : x ∈ [hpC h]) : x.low 1 = true := by rw [List.mem_singleton] at hx; subst hx; exact hpC_low _
theorem Walk.heapE {P : Program} {N : Nat} {r : Option Nat} {c : Code} {Q : Post} {D : List Nat} {σ : St} {H : List Blk} (H' : List Blk) (h : H' = H) (x : Walk P N r c Q D σ H') : Walk P N r c Q D σ H := h ▸ x
set_option maxHeartbeats 8000000 in
theorem fordMade_c (u : Hp) (last : Int) (o : u.Ok) (hl1 : 4 ≤ last) (hl2 : last ≤ 60) : HpE 12 [.int .i64 last] u fun r u' => ∃ s, r = snA s ∧ MkOk s last ∧ u'.Ok := by
  refine ⟨rfl, ?_⟩
  obtain ⟨P, u1, hP, o1, hc1⟩ := from_e u 2 5 o (by omega) (by omega) (by omega) (by omega)
  have hmn : min 4 last = 4 := by omega
  obtain ⟨L, u2, hL, o2, hc2⟩ := from_e u1 4 last o1 (by omega) (by omega) (by omega) (by omega)
  obtain ⟨bd, u3, hbd, o3, hc3⟩ := from_e u2 1 (P - 1) o2 (by omega) (by omega) (by omega) (by omega)
  rw [← hmn] at hc2
  refine ACall.bodyE (T := tab) (res := [.cell 4 27]) tab_ok [] Try.func12 rfl (by kernel_rfl) Try.ntmps12 rfl (by simp only [List.length_cons, List.length_nil]; decide) ?_; conv => whnf
  repeat' first | ((with_reducible first | apply XBr.tt | apply XBr.ff | apply Chk.go | apply ChkA.go | apply ChkF.go | apply ChkB.go | apply XArr.pim0 | apply XArr.pim1); conv => whnf) | (with_reducible apply XBr.not) | ((with_reducible apply XBr.dec) <;> (intro h; first | (exfalso; omega) | ((try simp only [List.length_map] at h); first | (exfalso; omega) | (conv => whnf)))) | ((with_reducible first | apply XBr.beq | apply XBr.bne) <;> (intro h; first | (exfalso; omega) | (conv => whnf))) | ((with_reducible refine XInt.i64 (by omega) (by omega) ?_); conv => whnf) | ((with_reducible refine XHold.mk ?_ ?_); (first | omega | rfl | decide | exact ⟨rfl, by decide, rfl⟩ | exact wideI _ | exact widePr _ | exact wideSk _ | (unfold Room; constructor <;> ((try simp) <;> omega)) | exact ⟨rfl, by simp only [List.length_map], by unfold Room; constructor <;> ((try simp) <;> omega)⟩ | exact ⟨by omega, by omega, by unfold Room; constructor <;> ((try simp) <;> omega)⟩); conv => whnf) | ((first | ((with_reducible refine XIx.nat ?_ ?_ ?_); omega; (intro _; rfl)) | ((with_reducible refine XIx.map ?_ ?_ ?_ ?_); omega; omega; (intro _; rfl))); conv => whnf) | (with_reducible apply XAnd.mk) | (exact XSame.mk rfl rfl) | (exact XSame.mk (by first | rfl | (simp only [List.map_append, List.length_append, List.length_map]; done) | (simp only [List.map_append, List.length_append, List.length_map]; rfl)) (by first | rfl | (simp only [List.map_append]; done) | (simp only [List.map_append]; rfl))) | (with_reducible exact trivial) | ((first | (with_reducible refine xdrop_app (by rw [List.length_map]; omega) ?_) | (with_reducible refine XDrop.desk (by assumption) ?_) | (with_reducible first | refine XArr.ints (by omega) (by omega) (by omega) ?_ | refine XArr.intsA (by omega) (by omega) (by omega) ?_) | ((with_reducible first | refine XArr.nats ?_ ?_ ?_ | refine XArr.natsA ?_ ?_ ?_ | refine XArr.ptr ?_ ?_ ?_); omega; omega)); conv => whnf) | (apply Walk.drawN (id := 6) tab_ok mixed_ok [] [6, 9, 11] (hsC [_, _, _, _]) [_, _, _, _, _, _, _, _, _, _, _, _] (by kernel_rfl) rfl) | (apply Walk.drawN (id := 17) tab_ok mixed_ok [] [1, 8] (hsC [_, _, _]) [_, _, _, _, _, _, _, _, _, _, _, _] (by kernel_rfl) rfl) | (apply Walk.drawN (id := 19) tab_ok mixed_ok [] [] (hsU _) [_, _, _, _] (by kernel_rfl) rfl) | ((first | (with_reducible apply XNext.mk) | (refine XCall.hp (j := 0) hc1 rfl rfl ?_) | (refine XCall.hp (j := 0) hc2 rfl rfl ?_) | (refine XCall.hp (j := 0) hc3 rfl rfl ?_)); conv => whnf) | ((with_reducible apply XBr.mk') <;> (intro h; conv => whnf))
  refine Walk.nilcell 2 4 86 rfl rfl ?_
  refine Walk.heapE [hpC u3, .cells zSn, .cells [.int .i64 P, .int .i64 0, .int .i64 bd, .int .i64 L, .gr 3 0, .sl true [], .sl true []], .grow 86 true []] rfl ?_
  clear hc1 hc2 hc3 hmn o o1 o2
  refine Walk.loopK tab_ok [] [(0, _), (4, _), (5, _)] ⟨rfl, rfl, rfl, trivial⟩ (fun g : Nat × List Wy × Hp => (1 ≤ g.1 ∧ (g.1 : Int) ≤ P) ∧ g.2.2.Ok ∧ WyOk P g.1 g.2.1) (fun g => [(6, natA g.1)]) (fun g => [hpC g.2.2, .cells zSn, .cells [.int .i64 P, .int .i64 0, .int .i64 bd, .int .i64 L, .gr 3 g.2.1.length, .sl true [], .sl true []], .grow 86 g.2.1.isEmpty (g.2.1.map wyA)]) (fun g => P.toNat - g.1) (1, [], u3) ⟨⟨Nat.le_refl _, by dsimp only; omega⟩, o3, WyOk.nil⟩ rfl ⟨rfl, trivial⟩ ?_
  clear o3
  rintro ⟨p, W, v⟩ ⟨⟨hp1, hp2⟩, ov, hW⟩
  dsimp only at hp1 hp2 ov hW ⊢
  have hWl := hW.l
  have hWm : (W.map wyA).length = W.length := List.length_map _
  conv => whnf
  by_cases hlt : (p : Int) < P
  · obtain ⟨m1, v1, hm1, ov1, hd1⟩ := from_e v 1 3 ov (by omega) (by omega) (by omega) (by omega)
    have hW1 := hW.one (m := m1) (by omega) (by omega) (by omega)
    by_cases hp : 1 < p
    · obtain ⟨b, v2, ov2, hd2⟩ := once_e v1 3 ov1 (by omega) (by omega)
      cases b with
      | false =>
        repeat' first | ((with_reducible first | apply XBr.tt | apply XBr.ff | apply Chk.go | apply ChkA.go | apply ChkF.go | apply ChkB.go | apply XArr.pim0 | apply XArr.pim1); conv => whnf) | (with_reducible apply XBr.not) | ((with_reducible apply XBr.dec) <;> (intro h; first | (exfalso; omega) | ((try simp only [List.length_map] at h); first | (exfalso; omega) | (conv => whnf)))) | ((with_reducible first | apply XBr.beq | apply XBr.bne) <;> (intro h; first | (exfalso; omega) | (conv => whnf))) | ((with_reducible refine XInt.i64 (by omega) (by omega) ?_); conv => whnf) | ((with_reducible refine XHold.mk ?_ ?_); (first | omega | rfl | decide | exact ⟨rfl, by decide, rfl⟩ | exact wideI _ | exact widePr _ | exact wideSk _ | (unfold Room; constructor <;> ((try simp) <;> omega)) | exact ⟨rfl, by simp only [List.length_map], by unfold Room; constructor <;> ((try simp) <;> omega)⟩ | exact ⟨by omega, by omega, by unfold Room; constructor <;> ((try simp) <;> omega)⟩); conv => whnf) | ((first | ((with_reducible refine XIx.nat ?_ ?_ ?_); omega; (intro _; rfl)) | ((with_reducible refine XIx.map ?_ ?_ ?_ ?_); omega; omega; (intro _; rfl))); conv => whnf) | (with_reducible apply XAnd.mk) | (exact XSame.mk rfl rfl) | (exact XSame.mk (by first | rfl | (simp only [List.map_append, List.length_append, List.length_map]; done) | (simp only [List.map_append, List.length_append, List.length_map]; rfl)) (by first | rfl | (simp only [List.map_append]; done) | (simp only [List.map_append]; rfl))) | (with_reducible exact trivial) | ((first | (with_reducible refine xdrop_app (by rw [List.length_map]; omega) ?_) | (with_reducible refine XDrop.desk (by assumption) ?_) | (with_reducible first | refine XArr.ints (by omega) (by omega) (by omega) ?_ | refine XArr.intsA (by omega) (by omega) (by omega) ?_) | ((with_reducible first | refine XArr.nats ?_ ?_ ?_ | refine XArr.natsA ?_ ?_ ?_ | refine XArr.ptr ?_ ?_ ?_); omega; omega)); conv => whnf) | (apply Walk.drawN (id := 6) tab_ok mixed_ok [] [6, 9, 11] (hsC [_, _, _, _]) [_, _, _, _, _, _, _, _, _, _, _, _] (by kernel_rfl) rfl) | (apply Walk.drawN (id := 17) tab_ok mixed_ok [] [1, 8] (hsC [_, _, _]) [_, _, _, _, _, _, _, _, _, _, _, _] (by kernel_rfl) rfl) | (apply Walk.drawN (id := 19) tab_ok mixed_ok [] [] (hsU _) [_, _, _, _] (by kernel_rfl) rfl) | ((first | (with_reducible apply XNext.mk) | (refine XCall.hp (j := 0) hd1 rfl rfl ?_) | (refine XCall.hp (j := 0) hd2 rfl rfl ?_)); conv => whnf) | ((refine XHold.mk ⟨rfl, hWm, by unfold Room; constructor <;> ((try simp) <;> omega)⟩ ?_); conv => whnf) | ((with_reducible apply XBr.mk') <;> (intro h; conv => whnf))
        refine XAgain.go (p + 1, W ++ [((p : Int) - 1, (p : Int), m1)], v2) ⟨⟨by dsimp only; omega, by dsimp only; omega⟩, ov2, hW1⟩ (by dsimp only; omega) ?_ ⟨rfl, rfl, rfl, rfl, trivial⟩
        dsimp only
        rw [List.length_append, isEmpty_app, List.map_append]; rfl
      | true =>
        obtain ⟨q, v3, hq, ov3, hd3⟩ := upto_e v2 ((p : Int) - 2) ov2 (by omega) (by omega)
        obtain ⟨m2, v4, hm2, ov4, hd4⟩ := from_e v3 1 5 ov3 (by omega) (by omega) (by omega) (by omega)
        have hW2 := hW.two (m := m1) (q := q) (m2 := m2) (by omega) (by omega) (by omega) (by omega) (by omega) (by omega) (by omega)
        repeat' first | ((with_reducible first | apply XBr.tt | apply XBr.ff | apply Chk.go | apply ChkA.go | apply ChkF.go | apply ChkB.go | apply XArr.pim0 | apply XArr.pim1); conv => whnf) | (with_reducible apply XBr.not) | ((with_reducible apply XBr.dec) <;> (intro h; first | (exfalso; omega) | ((try simp only [List.length_map] at h); first | (exfalso; omega) | (conv => whnf)))) | ((with_reducible first | apply XBr.beq | apply XBr.bne) <;> (intro h; first | (exfalso; omega) | (conv => whnf))) | ((with_reducible refine XInt.i64 (by omega) (by omega) ?_); conv => whnf) | ((with_reducible refine XHold.mk ?_ ?_); (first | omega | rfl | decide | exact ⟨rfl, by decide, rfl⟩ | exact wideI _ | exact widePr _ | exact wideSk _ | (unfold Room; constructor <;> ((try simp) <;> omega)) | exact ⟨rfl, by simp only [List.length_map], by unfold Room; constructor <;> ((try simp) <;> omega)⟩ | exact ⟨by omega, by omega, by unfold Room; constructor <;> ((try simp) <;> omega)⟩); conv => whnf) | ((first | ((with_reducible refine XIx.nat ?_ ?_ ?_); omega; (intro _; rfl)) | ((with_reducible refine XIx.map ?_ ?_ ?_ ?_); omega; omega; (intro _; rfl))); conv => whnf) | (with_reducible apply XAnd.mk) | (exact XSame.mk rfl rfl) | (exact XSame.mk (by first | rfl | (simp only [List.map_append, List.length_append, List.length_map]; done) | (simp only [List.map_append, List.length_append, List.length_map]; rfl)) (by first | rfl | (simp only [List.map_append]; done) | (simp only [List.map_append]; rfl))) | (with_reducible exact trivial) | ((first | (with_reducible refine xdrop_app (by rw [List.length_map]; omega) ?_) | (with_reducible refine XDrop.desk (by assumption) ?_) | (with_reducible first | refine XArr.ints (by omega) (by omega) (by omega) ?_ | refine XArr.intsA (by omega) (by omega) (by omega) ?_) | ((with_reducible first | refine XArr.nats ?_ ?_ ?_ | refine XArr.natsA ?_ ?_ ?_ | refine XArr.ptr ?_ ?_ ?_); omega; omega)); conv => whnf) | (apply Walk.drawN (id := 6) tab_ok mixed_ok [] [6, 9, 11] (hsC [_, _, _, _]) [_, _, _, _, _, _, _, _, _, _, _, _] (by kernel_rfl) rfl) | (apply Walk.drawN (id := 17) tab_ok mixed_ok [] [1, 8] (hsC [_, _, _]) [_, _, _, _, _, _, _, _, _, _, _, _] (by kernel_rfl) rfl) | (apply Walk.drawN (id := 19) tab_ok mixed_ok [] [] (hsU _) [_, _, _, _] (by kernel_rfl) rfl) | ((first | (with_reducible apply XNext.mk) | (refine XCall.hp (j := 0) hd1 rfl rfl ?_) | (refine XCall.hp (j := 0) hd2 rfl rfl ?_)); conv => whnf) | ((refine XHold.mk ⟨rfl, hWm, by unfold Room; constructor <;> ((try simp) <;> omega)⟩ ?_); conv => whnf) | ((with_reducible apply XBr.mk') <;> (intro h; conv => whnf))
        apply Walk.drawX tab_ok mixed_ok [] [6, 8, 11, 13] (hsC [_, _, _, _, _]) [_, _, _, _, _, _, _, _, _, _, _, _, _, _] (by kernel_rfl) rfl
        · skip
          repeat' first | ((with_reducible first | apply XBr.tt | apply XBr.ff | apply Chk.go | apply ChkA.go | apply ChkF.go | apply ChkB.go | apply XArr.pim0 | apply XArr.pim1); conv => whnf) | (with_reducible apply XBr.not) | ((with_reducible apply XBr.dec) <;> (intro h; first | (exfalso; omega) | ((try simp only [List.length_map] at h); first | (exfalso; omega) | (conv => whnf)))) | ((with_reducible first | apply XBr.beq | apply XBr.bne) <;> (intro h; first | (exfalso; omega) | (conv => whnf))) | ((with_reducible refine XInt.i64 (by omega) (by omega) ?_); conv => whnf) | ((with_reducible refine XHold.mk ?_ ?_); (first | omega | rfl | decide | exact ⟨rfl, by decide, rfl⟩ | exact wideI _ | exact widePr _ | exact wideSk _ | (unfold Room; constructor <;> ((try simp) <;> omega)) | exact ⟨rfl, by simp only [List.length_map], by unfold Room; constructor <;> ((try simp) <;> omega)⟩ | exact ⟨by omega, by omega, by unfold Room; constructor <;> ((try simp) <;> omega)⟩); conv => whnf) | ((first | ((with_reducible refine XIx.nat ?_ ?_ ?_); omega; (intro _; rfl)) | ((with_reducible refine XIx.map ?_ ?_ ?_ ?_); omega; omega; (intro _; rfl))); conv => whnf) | (with_reducible apply XAnd.mk) | (exact XSame.mk rfl rfl) | (exact XSame.mk (by first | rfl | (simp only [List.map_append, List.length_append, List.length_map]; done) | (simp only [List.map_append, List.length_append, List.length_map]; rfl)) (by first | rfl | (simp only [List.map_append]; done) | (simp only [List.map_append]; rfl))) | (with_reducible exact trivial) | ((first | (with_reducible refine xdrop_app (by rw [List.length_map]; omega) ?_) | (with_reducible refine XDrop.desk (by assumption) ?_) | (with_reducible first | refine XArr.ints (by omega) (by omega) (by omega) ?_ | refine XArr.intsA (by omega) (by omega) (by omega) ?_) | ((with_reducible first | refine XArr.nats ?_ ?_ ?_ | refine XArr.natsA ?_ ?_ ?_ | refine XArr.ptr ?_ ?_ ?_); omega; omega)); conv => whnf) | (apply Walk.drawN (id := 6) tab_ok mixed_ok [] [6, 9, 11] (hsC [_, _, _, _]) [_, _, _, _, _, _, _, _, _, _, _, _] (by kernel_rfl) rfl) | (apply Walk.drawN (id := 17) tab_ok mixed_ok [] [1, 8] (hsC [_, _, _]) [_, _, _, _, _, _, _, _, _, _, _, _] (by kernel_rfl) rfl) | (apply Walk.drawN (id := 19) tab_ok mixed_ok [] [] (hsU _) [_, _, _, _] (by kernel_rfl) rfl) | ((first | (with_reducible apply XNext.mk) | (refine XCall.hp (j := 0) hd3 rfl rfl ?_) | (refine XCall.hp (j := 0) hd4 rfl rfl ?_)); conv => whnf) | ((refine XHold.mk ⟨rfl, by rw [List.length_append, hWm]; rfl, by unfold Room; constructor <;> ((try simp) <;> omega)⟩ ?_); conv => whnf) | ((with_reducible apply XBr.mk') <;> (intro h; conv => whnf))
        · skip
          repeat' first | ((with_reducible first | apply XBr.tt | apply XBr.ff | apply Chk.go | apply ChkA.go | apply ChkF.go | apply ChkB.go | apply XArr.pim0 | apply XArr.pim1); conv => whnf) | (with_reducible apply XBr.not) | ((with_reducible apply XBr.dec) <;> (intro h; first | (exfalso; omega) | ((try simp only [List.length_map] at h); first | (exfalso; omega) | (conv => whnf)))) | ((with_reducible first | apply XBr.beq | apply XBr.bne) <;> (intro h; first | (exfalso; omega) | (conv => whnf))) | ((with_reducible refine XInt.i64 (by omega) (by omega) ?_); conv => whnf) | ((with_reducible refine XHold.mk ?_ ?_); (first | omega | rfl | decide | exact ⟨rfl, by decide, rfl⟩ | exact wideI _ | exact widePr _ | exact wideSk _ | (unfold Room; constructor <;> ((try simp) <;> omega)) | exact ⟨rfl, by simp only [List.length_map], by unfold Room; constructor <;> ((try simp) <;> omega)⟩ | exact ⟨by omega, by omega, by unfold Room; constructor <;> ((try simp) <;> omega)⟩); conv => whnf) | ((first | ((with_reducible refine XIx.nat ?_ ?_ ?_); omega; (intro _; rfl)) | ((with_reducible refine XIx.map ?_ ?_ ?_ ?_); omega; omega; (intro _; rfl))); conv => whnf) | (with_reducible apply XAnd.mk) | (exact XSame.mk rfl rfl) | (exact XSame.mk (by first | rfl | (simp only [List.map_append, List.length_append, List.length_map]; done) | (simp only [List.map_append, List.length_append, List.length_map]; rfl)) (by first | rfl | (simp only [List.map_append]; done) | (simp only [List.map_append]; rfl))) | (with_reducible exact trivial) | ((first | (with_reducible refine xdrop_app (by rw [List.length_map]; omega) ?_) | (with_reducible refine XDrop.desk (by assumption) ?_) | (with_reducible first | refine XArr.ints (by omega) (by omega) (by omega) ?_ | refine XArr.intsA (by omega) (by omega) (by omega) ?_) | ((with_reducible first | refine XArr.nats ?_ ?_ ?_ | refine XArr.natsA ?_ ?_ ?_ | refine XArr.ptr ?_ ?_ ?_); omega; omega)); conv => whnf) | (apply Walk.drawN (id := 6) tab_ok mixed_ok [] [6, 9, 11] (hsC [_, _, _, _]) [_, _, _, _, _, _, _, _, _, _, _, _] (by kernel_rfl) rfl) | (apply Walk.drawN (id := 17) tab_ok mixed_ok [] [1, 8] (hsC [_, _, _]) [_, _, _, _, _, _, _, _, _, _, _, _] (by kernel_rfl) rfl) | (apply Walk.drawN (id := 19) tab_ok mixed_ok [] [] (hsU _) [_, _, _, _] (by kernel_rfl) rfl) | ((first | (with_reducible apply XNext.mk) | (refine XCall.hp (j := 0) hd3 rfl rfl ?_) | (refine XCall.hp (j := 0) hd4 rfl rfl ?_)); conv => whnf) | ((refine XHold.mk ⟨rfl, by rw [List.length_append, hWm]; rfl, by unfold Room; constructor <;> ((try simp) <;> omega)⟩ ?_); conv => whnf) | ((with_reducible apply XBr.mk') <;> (intro h; conv => whnf))
        conv => whnf
        repeat' first | ((with_reducible first | apply XBr.tt | apply XBr.ff | apply Chk.go | apply ChkA.go | apply ChkF.go | apply ChkB.go | apply XArr.pim0 | apply XArr.pim1); conv => whnf) | (with_reducible apply XBr.not) | ((with_reducible apply XBr.dec) <;> (intro h; first | (exfalso; omega) | ((try simp only [List.length_map] at h); first | (exfalso; omega) | (conv => whnf)))) | ((with_reducible first | apply XBr.beq | apply XBr.bne) <;> (intro h; first | (exfalso; omega) | (conv => whnf))) | ((with_reducible refine XInt.i64 (by omega) (by omega) ?_); conv => whnf) | ((with_reducible refine XHold.mk ?_ ?_); (first | omega | rfl | decide | exact ⟨rfl, by decide, rfl⟩ | exact wideI _ | exact widePr _ | exact wideSk _ | (unfold Room; constructor <;> ((try simp) <;> omega)) | exact ⟨rfl, by simp only [List.length_map], by unfold Room; constructor <;> ((try simp) <;> omega)⟩ | exact ⟨by omega, by omega, by unfold Room; constructor <;> ((try simp) <;> omega)⟩); conv => whnf) | ((first | ((with_reducible refine XIx.nat ?_ ?_ ?_); omega; (intro _; rfl)) | ((with_reducible refine XIx.map ?_ ?_ ?_ ?_); omega; omega; (intro _; rfl))); conv => whnf) | (with_reducible apply XAnd.mk) | (exact XSame.mk rfl rfl) | (exact XSame.mk (by first | rfl | (simp only [List.map_append, List.length_append, List.length_map]; done) | (simp only [List.map_append, List.length_append, List.length_map]; rfl)) (by first | rfl | (simp only [List.map_append]; done) | (simp only [List.map_append]; rfl))) | (with_reducible exact trivial) | ((first | (with_reducible refine xdrop_app (by rw [List.length_map]; omega) ?_) | (with_reducible refine XDrop.desk (by assumption) ?_) | (with_reducible first | refine XArr.ints (by omega) (by omega) (by omega) ?_ | refine XArr.intsA (by omega) (by omega) (by omega) ?_) | ((with_reducible first | refine XArr.nats ?_ ?_ ?_ | refine XArr.natsA ?_ ?_ ?_ | refine XArr.ptr ?_ ?_ ?_); omega; omega)); conv => whnf) | (apply Walk.drawN (id := 6) tab_ok mixed_ok [] [6, 9, 11] (hsC [_, _, _, _]) [_, _, _, _, _, _, _, _, _, _, _, _] (by kernel_rfl) rfl) | (apply Walk.drawN (id := 17) tab_ok mixed_ok [] [1, 8] (hsC [_, _, _]) [_, _, _, _, _, _, _, _, _, _, _, _] (by kernel_rfl) rfl) | (apply Walk.drawN (id := 19) tab_ok mixed_ok [] [] (hsU _) [_, _, _, _] (by kernel_rfl) rfl) | ((with_reducible apply XNext.mk); conv => whnf) | ((with_reducible apply XBr.mk') <;> (intro h; conv => whnf))
        refine XAgain.go (p + 1, (W ++ [((p : Int) - 1, (p : Int), m1)]) ++ [((p : Int), q, m2)], v4) ⟨⟨by dsimp only; omega, by dsimp only; omega⟩, ov4, hW2⟩ (by dsimp only; omega) ?_ ⟨rfl, rfl, rfl, rfl, trivial⟩
        dsimp only
        rw [List.length_append, isEmpty_app, List.map_append, List.length_append, isEmpty_app, List.map_append]; rfl
    · skip
      repeat' first | ((with_reducible first | apply XBr.tt | apply XBr.ff | apply Chk.go | apply ChkA.go | apply ChkF.go | apply ChkB.go | apply XArr.pim0 | apply XArr.pim1); conv => whnf) | (with_reducible apply XBr.not) | ((with_reducible apply XBr.dec) <;> (intro h; first | (exfalso; omega) | ((try simp only [List.length_map] at h); first | (exfalso; omega) | (conv => whnf)))) | ((with_reducible first | apply XBr.beq | apply XBr.bne) <;> (intro h; first | (exfalso; omega) | (conv => whnf))) | ((with_reducible refine XInt.i64 (by omega) (by omega) ?_); conv => whnf) | ((with_reducible refine XHold.mk ?_ ?_); (first | omega | rfl | decide | exact ⟨rfl, by decide, rfl⟩ | exact wideI _ | exact widePr _ | exact wideSk _ | (unfold Room; constructor <;> ((try simp) <;> omega)) | exact ⟨rfl, by simp only [List.length_map], by unfold Room; constructor <;> ((try simp) <;> omega)⟩ | exact ⟨by omega, by omega, by unfold Room; constructor <;> ((try simp) <;> omega)⟩); conv => whnf) | ((first | ((with_reducible refine XIx.nat ?_ ?_ ?_); omega; (intro _; rfl)) | ((with_reducible refine XIx.map ?_ ?_ ?_ ?_); omega; omega; (intro _; rfl))); conv => whnf) | (with_reducible apply XAnd.mk) | (exact XSame.mk rfl rfl) | (exact XSame.mk (by first | rfl | (simp only [List.map_append, List.length_append, List.length_map]; done) | (simp only [List.map_append, List.length_append, List.length_map]; rfl)) (by first | rfl | (simp only [List.map_append]; done) | (simp only [List.map_append]; rfl))) | (with_reducible exact trivial) | ((first | (with_reducible refine xdrop_app (by rw [List.length_map]; omega) ?_) | (with_reducible refine XDrop.desk (by assumption) ?_) | (with_reducible first | refine XArr.ints (by omega) (by omega) (by omega) ?_ | refine XArr.intsA (by omega) (by omega) (by omega) ?_) | ((with_reducible first | refine XArr.nats ?_ ?_ ?_ | refine XArr.natsA ?_ ?_ ?_ | refine XArr.ptr ?_ ?_ ?_); omega; omega)); conv => whnf) | (apply Walk.drawN (id := 6) tab_ok mixed_ok [] [6, 9, 11] (hsC [_, _, _, _]) [_, _, _, _, _, _, _, _, _, _, _, _] (by kernel_rfl) rfl) | (apply Walk.drawN (id := 17) tab_ok mixed_ok [] [1, 8] (hsC [_, _, _]) [_, _, _, _, _, _, _, _, _, _, _, _] (by kernel_rfl) rfl) | (apply Walk.drawN (id := 19) tab_ok mixed_ok [] [] (hsU _) [_, _, _, _] (by kernel_rfl) rfl) | ((first | (with_reducible apply XNext.mk) | (refine XCall.hp (j := 0) hd1 rfl rfl ?_)); conv => whnf) | ((refine XHold.mk ⟨rfl, hWm, by unfold Room; constructor <;> ((try simp) <;> omega)⟩ ?_); conv => whnf) | ((with_reducible apply XBr.mk') <;> (intro h; conv => whnf))
      refine XAgain.go (p + 1, W ++ [((p : Int) - 1, (p : Int), m1)], v1) ⟨⟨by dsimp only; omega, by dsimp only; omega⟩, ov1, hW1⟩ (by dsimp only; omega) ?_ ⟨rfl, rfl, rfl, rfl, trivial⟩
      dsimp only
      rw [List.length_append, isEmpty_app, List.map_append]; rfl
  have hpP : (p : Int) = P := by omega
  rw [hpP] at hW
  obtain ⟨N, v1, hN, ov1, hd1⟩ := from_e v 1 4 ov (by omega) (by omega) (by omega) (by omega)
  repeat' first | ((with_reducible first | apply XBr.tt | apply XBr.ff | apply Chk.go | apply ChkA.go | apply ChkF.go | apply ChkB.go | apply XArr.pim0 | apply XArr.pim1); conv => whnf) | (with_reducible apply XBr.not) | ((with_reducible apply XBr.dec) <;> (intro h; first | (exfalso; omega) | ((try simp only [List.length_map] at h); first | (exfalso; omega) | (conv => whnf)))) | ((with_reducible first | apply XBr.beq | apply XBr.bne) <;> (intro h; first | (exfalso; omega) | (conv => whnf))) | ((with_reducible refine XInt.i64 (by omega) (by omega) ?_); conv => whnf) | ((with_reducible refine XHold.mk ?_ ?_); (first | omega | rfl | decide | exact ⟨rfl, by decide, rfl⟩ | exact wideI _ | exact widePr _ | exact wideSk _ | (unfold Room; constructor <;> ((try simp) <;> omega)) | exact ⟨rfl, by simp only [List.length_map], by unfold Room; constructor <;> ((try simp) <;> omega)⟩ | exact ⟨by omega, by omega, by unfold Room; constructor <;> ((try simp) <;> omega)⟩); conv => whnf) | ((first | ((with_reducible refine XIx.nat ?_ ?_ ?_); omega; (intro _; rfl)) | ((with_reducible refine XIx.map ?_ ?_ ?_ ?_); omega; omega; (intro _; rfl))); conv => whnf) | (with_reducible apply XAnd.mk) | (exact XSame.mk rfl rfl) | (exact XSame.mk (by first | rfl | (simp only [List.map_append, List.length_append, List.length_map]; done) | (simp only [List.map_append, List.length_append, List.length_map]; rfl)) (by first | rfl | (simp only [List.map_append]; done) | (simp only [List.map_append]; rfl))) | (with_reducible exact trivial) | ((first | (with_reducible refine xdrop_app (by rw [List.length_map]; omega) ?_) | (with_reducible refine XDrop.desk (by assumption) ?_) | (with_reducible first | refine XArr.ints (by omega) (by omega) (by omega) ?_ | refine XArr.intsA (by omega) (by omega) (by omega) ?_) | ((with_reducible first | refine XArr.nats ?_ ?_ ?_ | refine XArr.natsA ?_ ?_ ?_ | refine XArr.ptr ?_ ?_ ?_); omega; omega)); conv => whnf) | (apply Walk.drawN (id := 6) tab_ok mixed_ok [] [6, 9, 11] (hsC [_, _, _, _]) [_, _, _, _, _, _, _, _, _, _, _, _] (by kernel_rfl) rfl) | (apply Walk.drawN (id := 17) tab_ok mixed_ok [] [1, 8] (hsC [_, _, _]) [_, _, _, _, _, _, _, _, _, _, _, _] (by kernel_rfl) rfl) | (apply Walk.drawN (id := 19) tab_ok mixed_ok [] [] (hsU _) [_, _, _, _] (by kernel_rfl) rfl) | ((first | (with_reducible apply XNext.mk) | (refine XCall.hp (j := 0) hd1 rfl rfl ?_)); conv => whnf) | ((with_reducible apply XBr.mk') <;> (intro h; conv => whnf))
  refine Walk.freezeCell 2 4 3 W.length rfl rfl rfl hWm ?_
  refine Walk.nilcell 2 5 32 rfl rfl ?_
  refine Walk.nilcell 2 6 58 rfl rfl ?_
  refine Walk.heapE [hpC v1, .cells zSn, .cells [.int .i64 P, .int .i64 0, .int .i64 bd, .int .i64 L, .sl W.isEmpty (W.map wyA), .gr 4 0, .gr 5 0], .dead, .grow 32 true [], .grow 58 true []] rfl ?_
  clear hd1 ov
  refine Walk.loopGK tab_ok [] [(0, _), (4, _), (5, _), (66, _)] ⟨rfl, rfl, rfl, rfl, trivial⟩ (fun g : Nat × List Rw × List Tru × Hp => (g.1 : Int) ≤ N ∧ g.2.2.2.Ok ∧ (g.2.1.length = g.1 ∧ g.2.2.1.length = g.1) ∧ (∀ r ∈ g.2.1, (r.2.length : Int) = P ∧ ∀ n ∈ r.2, 0 ≤ n ∧ n ≤ 3) ∧ ∀ t ∈ g.2.2.1, (t.2.length : Int) = P ∧ ∀ r ∈ t.2, spE L none r.2 = 0 ∧ r.2.length ≤ 2) (fun g => [(67, natA g.1)]) (fun g => [hpC g.2.2.2, .cells zSn, .cells [.int .i64 P, .int .i64 0, .int .i64 bd, .int .i64 L, .sl W.isEmpty (W.map wyA), .gr 4 g.2.1.length, .gr 5 g.2.2.1.length], .dead, .grow 32 g.2.1.isEmpty (g.2.1.map rwA), .grow 58 g.2.2.1.isEmpty (g.2.2.1.map trA)]) (fun g => N.toNat - g.1) (0, [], [], v1) ⟨by dsimp only; omega, ov1, ⟨rfl, rfl⟩, by simp, by simp⟩ rfl ⟨rfl, trivial⟩ ?_ (fun _ _ => (show (6 : Nat) ≤ 6 from Nat.le_refl 6)) ?_
  · intro g _
    refine ⟨fun z hz => ?_, fun z hz => ?_⟩
    · simp only [List.mem_cons, List.not_mem_nil, or_false] at hz
      rcases hz with rfl | rfl | rfl | rfl | rfl | rfl
      · exact hpC_low _
      · rfl
      · simp only [Blk.low, lowL, AV.low, lowWy]; rfl
      · rfl
      · exact lowRk _
      · exact lowTr _
    · simp only [List.cons_append, List.nil_append, List.mem_cons, List.not_mem_nil, or_false] at hz
      rcases hz with rfl | rfl | rfl | rfl | rfl <;> rfl
  clear ov1
  rintro ⟨k, looks, truths, v⟩ ⟨hk, ov, ⟨hll, htl⟩, hlk, htr⟩
  dsimp only at hk ov hll htl hlk htr ⊢
  have hlm : (looks.map rwA).length = looks.length := List.length_map _
  have htm : (truths.map trA).length = truths.length := List.length_map _
  conv => whnf
  by_cases hlt : (k : Int) < N
  · skip
    repeat' first | ((with_reducible first | apply XBr.tt | apply XBr.ff | apply Chk.go | apply ChkA.go | apply ChkF.go | apply ChkB.go | apply XArr.pim0 | apply XArr.pim1); conv => whnf) | (with_reducible apply XBr.not) | ((with_reducible apply XBr.dec) <;> (intro h; first | (exfalso; omega) | ((try simp only [List.length_map] at h); first | (exfalso; omega) | (conv => whnf)))) | ((with_reducible first | apply XBr.beq | apply XBr.bne) <;> (intro h; first | (exfalso; omega) | (conv => whnf))) | ((with_reducible refine XInt.i64 (by omega) (by omega) ?_); conv => whnf) | ((with_reducible refine XHold.mk ?_ ?_); (first | omega | rfl | decide | exact ⟨rfl, by decide, rfl⟩ | exact wideI _ | exact widePr _ | exact wideSk _ | (unfold Room; constructor <;> ((try simp) <;> omega)) | exact ⟨rfl, by simp only [List.length_map], by unfold Room; constructor <;> ((try simp) <;> omega)⟩ | exact ⟨by omega, by omega, by unfold Room; constructor <;> ((try simp) <;> omega)⟩); conv => whnf) | ((first | ((with_reducible refine XIx.nat ?_ ?_ ?_); omega; (intro _; rfl)) | ((with_reducible refine XIx.map ?_ ?_ ?_ ?_); omega; omega; (intro _; rfl))); conv => whnf) | (with_reducible apply XAnd.mk) | (exact XSame.mk rfl rfl) | (exact XSame.mk (by first | rfl | (simp only [List.map_append, List.length_append, List.length_map]; done) | (simp only [List.map_append, List.length_append, List.length_map]; rfl)) (by first | rfl | (simp only [List.map_append]; done) | (simp only [List.map_append]; rfl))) | (with_reducible exact trivial) | ((first | (with_reducible refine xdrop_app (by rw [List.length_map]; omega) ?_) | (with_reducible refine XDrop.desk (by assumption) ?_) | (with_reducible first | refine XArr.ints (by omega) (by omega) (by omega) ?_ | refine XArr.intsA (by omega) (by omega) (by omega) ?_) | ((with_reducible first | refine XArr.nats ?_ ?_ ?_ | refine XArr.natsA ?_ ?_ ?_ | refine XArr.ptr ?_ ?_ ?_); omega; omega)); conv => whnf) | (apply Walk.drawN (id := 6) tab_ok mixed_ok [] [6, 9, 11] (hsC [_, _, _, _]) [_, _, _, _, _, _, _, _, _, _, _, _] (by kernel_rfl) rfl) | (apply Walk.drawN (id := 17) tab_ok mixed_ok [] [1, 8] (hsC [_, _, _]) [_, _, _, _, _, _, _, _, _, _, _, _] (by kernel_rfl) rfl) | (apply Walk.drawN (id := 19) tab_ok mixed_ok [] [] (hsU _) [_, _, _, _] (by kernel_rfl) rfl) | ((with_reducible apply XNext.mk); conv => whnf) | ((with_reducible apply XBr.mk') <;> (intro h; conv => whnf))
    refine Walk.nilgr 7 3 rfl ?_
    refine Walk.nilcell 6 0 55 rfl rfl ?_
    refine Walk.heapE [hpC v, .cells zSn, .cells [.int .i64 P, .int .i64 0, .int .i64 bd, .int .i64 L, .sl W.isEmpty (W.map wyA), .gr 4 looks.length, .gr 5 truths.length], .dead, .grow 32 looks.isEmpty (looks.map rwA), .grow 58 truths.isEmpty (truths.map trA), .cells [.gr 8 0], .grow 3 true [], .grow 55 true []] rfl ?_
    refine Walk.loopK tab_ok [] [(0, _), (4, _), (5, _), (8, _), (66, _), (67, _), (70, _)] ⟨rfl, rfl, rfl, rfl, rfl, rfl, rfl, trivial⟩ (fun g : Nat × List Int × List Sps × Hp => (g.1 : Int) ≤ P ∧ g.2.2.2.Ok ∧ (g.2.1.length = g.1 ∧ g.2.2.1.length = g.1) ∧ (∀ n ∈ g.2.1, 0 ≤ n ∧ n ≤ 3) ∧ ∀ r ∈ g.2.2.1, spE L none r.2 = 0 ∧ r.2.length ≤ 2) (fun g => [(7, .gr 7 g.2.1.length), (71, natA g.1)]) (fun g => [hpC g.2.2.2, .cells zSn, .cells [.int .i64 P, .int .i64 0, .int .i64 bd, .int .i64 L, .sl W.isEmpty (W.map wyA), .gr 4 looks.length, .gr 5 truths.length], .dead, .grow 32 looks.isEmpty (looks.map rwA), .grow 58 truths.isEmpty (truths.map trA), .cells [.gr 8 g.2.2.1.length], .grow 3 g.2.1.isEmpty (ints g.2.1), .grow 55 g.2.2.1.isEmpty (g.2.2.1.map spsA)]) (fun g => P.toNat - g.1) (0, [], [], v) ⟨by dsimp only; omega, ov, ⟨rfl, rfl⟩, by simp, by simp⟩ rfl ⟨rfl, rfl, trivial⟩ ?_
    clear ov
    rintro ⟨q, row, dry, v⟩ ⟨hq, ov, ⟨hrl, hdl⟩, hrow, hdry⟩
    dsimp only at hq ov hrl hdl hrow hdry ⊢
    have hrm : (ints row).length = row.length := ints_len _
    have hdm : (dry.map spsA).length = dry.length := List.length_map _
    conv => whnf
    by_cases hlt2 : (q : Int) < P
    · have htd : L.tdiv 2 = L / 2 := Int.tdiv_eq_ediv_of_nonneg (by omega)
      have htd1 : 0 ≤ L.tdiv 2 ∧ L.tdiv 2 ≤ L - 2 := by rw [htd]; omega
      obtain ⟨z1, v1, hz1, ov1, hd1⟩ := upto_e v 3 ov (by omega) (by omega)
      obtain ⟨z2, v2, hz2, ov2, hd2⟩ := upto_e v1 1 ov1 (by omega) (by omega)
      obtain ⟨z3, v3, hz3, ov3, hd3⟩ := upto_e v2 2 ov2 (by omega) (by omega)
      obtain ⟨z4, v4, hz4, ov4, hd4⟩ := upto_e v3 (L.tdiv 2) ov3 (by omega) (by omega)
      obtain ⟨z5, v5, hz5, ov5, hd5⟩ := upto_e v4 L ov4 (by omega) (by omega)
      obtain ⟨b, v6, ov6, hd6⟩ := once_e v5 4 ov5 (by omega) (by omega)
      have hzz : 0 ≤ z1 * z2 ∧ z1 * z2 ≤ 3 := by
        have : z2 = 0 ∨ z2 = 1 := by omega
        rcases this with h | h <;> rw [h] <;> omega
      have hrow' : ∀ n ∈ row ++ [z1 * z2], 0 ≤ n ∧ n ≤ 3 := fun n hn => by
        rcases List.mem_append.1 hn with hn | hn
        · exact hrow n hn
        · rw [List.mem_singleton] at hn; rw [hn]; exact hzz
      have hstep : ∀ r : Sps, spE L none r.2 = 0 → r.2.length ≤ 2 → ((q + 1 : Nat) : Int) ≤ P ∧ v6.Ok ∧ ((row ++ [z1 * z2]).length = q + 1 ∧ (dry ++ [r]).length = q + 1) ∧ (∀ n ∈ row ++ [z1 * z2], 0 ≤ n ∧ n ≤ 3) ∧ ∀ r' ∈ dry ++ [r], spE L none r'.2 = 0 ∧ r'.2.length ≤ 2 := fun r h1 h2 => ⟨by omega, ov6, ⟨by rw [List.length_append, hrl]; rfl, by rw [List.length_append, hdl]; rfl⟩, hrow', fun r' hr' => by
        rcases List.mem_append.1 hr' with hr' | hr'
        · exact hdry r' hr'
        · rw [List.mem_singleton] at hr'; rw [hr']; exact ⟨h1, h2⟩⟩
      by_cases hq0 : (q : Int) = 0
      · skip
        by_cases hc : b = true ∧ 0 + 1 < z5 ∧ z5 < L - 1
        · obtain ⟨hcb, hc1, hc2⟩ := hc
          subst hcb
          repeat' first | ((with_reducible first | apply XBr.tt | apply XBr.ff | apply Chk.go | apply ChkA.go | apply ChkF.go | apply ChkB.go | apply XArr.pim0 | apply XArr.pim1); conv => whnf) | (with_reducible apply XBr.not) | ((with_reducible apply XBr.dec) <;> (intro h; first | (exfalso; omega) | ((try simp only [List.length_map] at h); first | (exfalso; omega) | (conv => whnf)))) | ((with_reducible first | apply XBr.beq | apply XBr.bne) <;> (intro h; first | (exfalso; omega) | (conv => whnf))) | ((with_reducible refine XInt.i64 (by omega) (by omega) ?_); conv => whnf) | ((with_reducible refine XHold.mk ?_ ?_); (first | omega | rfl | decide | exact ⟨rfl, by decide, rfl⟩ | exact wideI _ | exact widePr _ | exact wideSk _ | (unfold Room; constructor <;> ((try simp) <;> omega)) | exact ⟨rfl, by simp only [List.length_map], by unfold Room; constructor <;> ((try simp) <;> omega)⟩ | exact ⟨by omega, by omega, by unfold Room; constructor <;> ((try simp) <;> omega)⟩); conv => whnf) | ((first | ((with_reducible refine XIx.nat ?_ ?_ ?_); omega; (intro _; rfl)) | ((with_reducible refine XIx.map ?_ ?_ ?_ ?_); omega; omega; (intro _; rfl))); conv => whnf) | (with_reducible apply XAnd.mk) | (exact XSame.mk rfl rfl) | (exact XSame.mk (by first | rfl | (simp only [List.map_append, List.length_append, List.length_map]; done) | (simp only [List.map_append, List.length_append, List.length_map]; rfl)) (by first | rfl | (simp only [List.map_append]; done) | (simp only [List.map_append]; rfl))) | (with_reducible exact trivial) | ((first | (with_reducible refine xdrop_app (by rw [List.length_map]; omega) ?_) | (with_reducible refine XDrop.desk (by assumption) ?_) | (with_reducible first | refine XArr.ints (by omega) (by omega) (by omega) ?_ | refine XArr.intsA (by omega) (by omega) (by omega) ?_) | ((with_reducible first | refine XArr.nats ?_ ?_ ?_ | refine XArr.natsA ?_ ?_ ?_ | refine XArr.ptr ?_ ?_ ?_); omega; omega)); conv => whnf) | (apply Walk.drawN (id := 6) tab_ok mixed_ok [] [6, 9, 11] (hsC [_, _, _, _]) [_, _, _, _, _, _, _, _, _, _, _, _] (by kernel_rfl) rfl) | (apply Walk.drawN (id := 17) tab_ok mixed_ok [] [1, 8] (hsC [_, _, _]) [_, _, _, _, _, _, _, _, _, _, _, _] (by kernel_rfl) rfl) | (apply Walk.drawN (id := 19) tab_ok mixed_ok [] [] (hsU _) [_, _, _, _] (by kernel_rfl) rfl) | ((first | (with_reducible apply XNext.mk) | (refine XCall.hp (j := 0) hd1 rfl rfl ?_) | (refine XCall.hp (j := 0) hd2 rfl rfl ?_) | (refine XCall.hp (j := 0) hd3 rfl rfl ?_) | (refine XCall.hp (j := 0) hd4 rfl rfl ?_) | (refine XCall.hp (j := 0) hd5 rfl rfl ?_) | (refine XCall.hp (j := 0) hd6 rfl rfl ?_)); conv => whnf) | ((refine XHold.mk ⟨rfl, hrm, by unfold Room; constructor <;> ((try simp) <;> omega)⟩ ?_); conv => whnf) | ((refine XHold.mk ⟨rfl, hdm, by unfold Room; constructor <;> ((try simp) <;> omega)⟩ ?_); conv => whnf) | ((with_reducible apply XBr.mk') <;> (intro h; conv => whnf))
          all_goals
            refine XAgain.go (q + 1, row ++ [z1 * z2], dry ++ [((false, [(0, z5 - 1), (z5 + 1, L)]) : Sps)], v6) (hstep _ (by exact sp_two (by omega) (by omega) (by omega) (by omega)) (by simp)) (by dsimp only; omega) ?_ ⟨rfl, rfl, rfl, rfl, rfl, rfl, rfl, (by rw [List.length_append]; rfl), rfl, trivial⟩
            dsimp only
            rw [List.length_append, isEmpty_app, isEmpty_app, List.map_append, ints_app]; rfl
        cases b with
        | false =>
          repeat' first | ((with_reducible first | apply XBr.tt | apply XBr.ff | apply Chk.go | apply ChkA.go | apply ChkF.go | apply ChkB.go | apply XArr.pim0 | apply XArr.pim1); conv => whnf) | (with_reducible apply XBr.not) | ((with_reducible apply XBr.dec) <;> (intro h; first | (exfalso; omega) | ((try simp only [List.length_map] at h); first | (exfalso; omega) | (conv => whnf)))) | ((with_reducible first | apply XBr.beq | apply XBr.bne) <;> (intro h; first | (exfalso; omega) | (conv => whnf))) | ((with_reducible refine XInt.i64 (by omega) (by omega) ?_); conv => whnf) | ((with_reducible refine XHold.mk ?_ ?_); (first | omega | rfl | decide | exact ⟨rfl, by decide, rfl⟩ | exact wideI _ | exact widePr _ | exact wideSk _ | (unfold Room; constructor <;> ((try simp) <;> omega)) | exact ⟨rfl, by simp only [List.length_map], by unfold Room; constructor <;> ((try simp) <;> omega)⟩ | exact ⟨by omega, by omega, by unfold Room; constructor <;> ((try simp) <;> omega)⟩); conv => whnf) | ((first | ((with_reducible refine XIx.nat ?_ ?_ ?_); omega; (intro _; rfl)) | ((with_reducible refine XIx.map ?_ ?_ ?_ ?_); omega; omega; (intro _; rfl))); conv => whnf) | (with_reducible apply XAnd.mk) | (exact XSame.mk rfl rfl) | (exact XSame.mk (by first | rfl | (simp only [List.map_append, List.length_append, List.length_map]; done) | (simp only [List.map_append, List.length_append, List.length_map]; rfl)) (by first | rfl | (simp only [List.map_append]; done) | (simp only [List.map_append]; rfl))) | (with_reducible exact trivial) | ((first | (with_reducible refine xdrop_app (by rw [List.length_map]; omega) ?_) | (with_reducible refine XDrop.desk (by assumption) ?_) | (with_reducible first | refine XArr.ints (by omega) (by omega) (by omega) ?_ | refine XArr.intsA (by omega) (by omega) (by omega) ?_) | ((with_reducible first | refine XArr.nats ?_ ?_ ?_ | refine XArr.natsA ?_ ?_ ?_ | refine XArr.ptr ?_ ?_ ?_); omega; omega)); conv => whnf) | (apply Walk.drawN (id := 6) tab_ok mixed_ok [] [6, 9, 11] (hsC [_, _, _, _]) [_, _, _, _, _, _, _, _, _, _, _, _] (by kernel_rfl) rfl) | (apply Walk.drawN (id := 17) tab_ok mixed_ok [] [1, 8] (hsC [_, _, _]) [_, _, _, _, _, _, _, _, _, _, _, _] (by kernel_rfl) rfl) | (apply Walk.drawN (id := 19) tab_ok mixed_ok [] [] (hsU _) [_, _, _, _] (by kernel_rfl) rfl) | ((first | (with_reducible apply XNext.mk) | (refine XCall.hp (j := 0) hd1 rfl rfl ?_) | (refine XCall.hp (j := 0) hd2 rfl rfl ?_) | (refine XCall.hp (j := 0) hd3 rfl rfl ?_) | (refine XCall.hp (j := 0) hd4 rfl rfl ?_) | (refine XCall.hp (j := 0) hd5 rfl rfl ?_) | (refine XCall.hp (j := 0) hd6 rfl rfl ?_)); conv => whnf) | ((refine XHold.mk ⟨rfl, hrm, by unfold Room; constructor <;> ((try simp) <;> omega)⟩ ?_); conv => whnf) | ((refine XHold.mk ⟨rfl, hdm, by unfold Room; constructor <;> ((try simp) <;> omega)⟩ ?_); conv => whnf) | ((with_reducible apply XBr.mk') <;> (intro h; conv => whnf))
          all_goals
            refine XAgain.go (q + 1, row ++ [z1 * z2], dry ++ [((false, [(0, max 0 (L))]) : Sps)], v6) (hstep _ (by exact sp_one (by omega) (by omega) (by omega)) (by simp)) (by dsimp only; omega) ?_ ⟨rfl, rfl, rfl, rfl, rfl, rfl, rfl, (by rw [List.length_append]; rfl), rfl, trivial⟩
            dsimp only
            rw [List.length_append, isEmpty_app, isEmpty_app, List.map_append, ints_app]; rfl
        | true =>
          have hc' : ¬ (0 + 1 < z5 ∧ z5 < L - 1) := fun h => hc ⟨rfl, h⟩
          repeat' first | ((with_reducible first | apply XBr.tt | apply XBr.ff | apply Chk.go | apply ChkA.go | apply ChkF.go | apply ChkB.go | apply XArr.pim0 | apply XArr.pim1); conv => whnf) | (with_reducible apply XBr.not) | ((with_reducible apply XBr.dec) <;> (intro h; first | (exfalso; omega) | ((try simp only [List.length_map] at h); first | (exfalso; omega) | (conv => whnf)))) | ((with_reducible first | apply XBr.beq | apply XBr.bne) <;> (intro h; first | (exfalso; omega) | (conv => whnf))) | ((with_reducible refine XInt.i64 (by omega) (by omega) ?_); conv => whnf) | ((with_reducible refine XHold.mk ?_ ?_); (first | omega | rfl | decide | exact ⟨rfl, by decide, rfl⟩ | exact wideI _ | exact widePr _ | exact wideSk _ | (unfold Room; constructor <;> ((try simp) <;> omega)) | exact ⟨rfl, by simp only [List.length_map], by unfold Room; constructor <;> ((try simp) <;> omega)⟩ | exact ⟨by omega, by omega, by unfold Room; constructor <;> ((try simp) <;> omega)⟩); conv => whnf) | ((first | ((with_reducible refine XIx.nat ?_ ?_ ?_); omega; (intro _; rfl)) | ((with_reducible refine XIx.map ?_ ?_ ?_ ?_); omega; omega; (intro _; rfl))); conv => whnf) | (with_reducible apply XAnd.mk) | (exact XSame.mk rfl rfl) | (exact XSame.mk (by first | rfl | (simp only [List.map_append, List.length_append, List.length_map]; done) | (simp only [List.map_append, List.length_append, List.length_map]; rfl)) (by first | rfl | (simp only [List.map_append]; done) | (simp only [List.map_append]; rfl))) | (with_reducible exact trivial) | ((first | (with_reducible refine xdrop_app (by rw [List.length_map]; omega) ?_) | (with_reducible refine XDrop.desk (by assumption) ?_) | (with_reducible first | refine XArr.ints (by omega) (by omega) (by omega) ?_ | refine XArr.intsA (by omega) (by omega) (by omega) ?_) | ((with_reducible first | refine XArr.nats ?_ ?_ ?_ | refine XArr.natsA ?_ ?_ ?_ | refine XArr.ptr ?_ ?_ ?_); omega; omega)); conv => whnf) | (apply Walk.drawN (id := 6) tab_ok mixed_ok [] [6, 9, 11] (hsC [_, _, _, _]) [_, _, _, _, _, _, _, _, _, _, _, _] (by kernel_rfl) rfl) | (apply Walk.drawN (id := 17) tab_ok mixed_ok [] [1, 8] (hsC [_, _, _]) [_, _, _, _, _, _, _, _, _, _, _, _] (by kernel_rfl) rfl) | (apply Walk.drawN (id := 19) tab_ok mixed_ok [] [] (hsU _) [_, _, _, _] (by kernel_rfl) rfl) | ((first | (with_reducible apply XNext.mk) | (refine XCall.hp (j := 0) hd1 rfl rfl ?_) | (refine XCall.hp (j := 0) hd2 rfl rfl ?_) | (refine XCall.hp (j := 0) hd3 rfl rfl ?_) | (refine XCall.hp (j := 0) hd4 rfl rfl ?_) | (refine XCall.hp (j := 0) hd5 rfl rfl ?_) | (refine XCall.hp (j := 0) hd6 rfl rfl ?_)); conv => whnf) | ((refine XHold.mk ⟨rfl, hrm, by unfold Room; constructor <;> ((try simp) <;> omega)⟩ ?_); conv => whnf) | ((refine XHold.mk ⟨rfl, hdm, by unfold Room; constructor <;> ((try simp) <;> omega)⟩ ?_); conv => whnf) | ((with_reducible apply XBr.mk') <;> (intro h; conv => whnf))
          all_goals
            refine XAgain.go (q + 1, row ++ [z1 * z2], dry ++ [((false, [(0, max 0 (L))]) : Sps)], v6) (hstep _ (by exact sp_one (by omega) (by omega) (by omega)) (by simp)) (by dsimp only; omega) ?_ ⟨rfl, rfl, rfl, rfl, rfl, rfl, rfl, (by rw [List.length_append]; rfl), rfl, trivial⟩
            dsimp only
            rw [List.length_append, isEmpty_app, isEmpty_app, List.map_append, ints_app]; rfl
      · skip
        by_cases hc : b = true ∧ z3 + 1 < z5 ∧ z5 < (L - z4) - 1
        · obtain ⟨hcb, hc1, hc2⟩ := hc
          subst hcb
          repeat' first | ((with_reducible first | apply XBr.tt | apply XBr.ff | apply Chk.go | apply ChkA.go | apply ChkF.go | apply ChkB.go | apply XArr.pim0 | apply XArr.pim1); conv => whnf) | (with_reducible apply XBr.not) | ((with_reducible apply XBr.dec) <;> (intro h; first | (exfalso; omega) | ((try simp only [List.length_map] at h); first | (exfalso; omega) | (conv => whnf)))) | ((with_reducible first | apply XBr.beq | apply XBr.bne) <;> (intro h; first | (exfalso; omega) | (conv => whnf))) | ((with_reducible refine XInt.i64 (by omega) (by omega) ?_); conv => whnf) | ((with_reducible refine XHold.mk ?_ ?_); (first | omega | rfl | decide | exact ⟨rfl, by decide, rfl⟩ | exact wideI _ | exact widePr _ | exact wideSk _ | (unfold Room; constructor <;> ((try simp) <;> omega)) | exact ⟨rfl, by simp only [List.length_map], by unfold Room; constructor <;> ((try simp) <;> omega)⟩ | exact ⟨by omega, by omega, by unfold Room; constructor <;> ((try simp) <;> omega)⟩); conv => whnf) | ((first | ((with_reducible refine XIx.nat ?_ ?_ ?_); omega; (intro _; rfl)) | ((with_reducible refine XIx.map ?_ ?_ ?_ ?_); omega; omega; (intro _; rfl))); conv => whnf) | (with_reducible apply XAnd.mk) | (exact XSame.mk rfl rfl) | (exact XSame.mk (by first | rfl | (simp only [List.map_append, List.length_append, List.length_map]; done) | (simp only [List.map_append, List.length_append, List.length_map]; rfl)) (by first | rfl | (simp only [List.map_append]; done) | (simp only [List.map_append]; rfl))) | (with_reducible exact trivial) | ((first | (with_reducible refine xdrop_app (by rw [List.length_map]; omega) ?_) | (with_reducible refine XDrop.desk (by assumption) ?_) | (with_reducible first | refine XArr.ints (by omega) (by omega) (by omega) ?_ | refine XArr.intsA (by omega) (by omega) (by omega) ?_) | ((with_reducible first | refine XArr.nats ?_ ?_ ?_ | refine XArr.natsA ?_ ?_ ?_ | refine XArr.ptr ?_ ?_ ?_); omega; omega)); conv => whnf) | (apply Walk.drawN (id := 6) tab_ok mixed_ok [] [6, 9, 11] (hsC [_, _, _, _]) [_, _, _, _, _, _, _, _, _, _, _, _] (by kernel_rfl) rfl) | (apply Walk.drawN (id := 17) tab_ok mixed_ok [] [1, 8] (hsC [_, _, _]) [_, _, _, _, _, _, _, _, _, _, _, _] (by kernel_rfl) rfl) | (apply Walk.drawN (id := 19) tab_ok mixed_ok [] [] (hsU _) [_, _, _, _] (by kernel_rfl) rfl) | ((first | (with_reducible apply XNext.mk) | (refine XCall.hp (j := 0) hd1 rfl rfl ?_) | (refine XCall.hp (j := 0) hd2 rfl rfl ?_) | (refine XCall.hp (j := 0) hd3 rfl rfl ?_) | (refine XCall.hp (j := 0) hd4 rfl rfl ?_) | (refine XCall.hp (j := 0) hd5 rfl rfl ?_) | (refine XCall.hp (j := 0) hd6 rfl rfl ?_)); conv => whnf) | ((refine XHold.mk ⟨rfl, hrm, by unfold Room; constructor <;> ((try simp) <;> omega)⟩ ?_); conv => whnf) | ((refine XHold.mk ⟨rfl, hdm, by unfold Room; constructor <;> ((try simp) <;> omega)⟩ ?_); conv => whnf) | ((with_reducible apply XBr.mk') <;> (intro h; conv => whnf))
          all_goals
            refine XAgain.go (q + 1, row ++ [z1 * z2], dry ++ [((false, [(z3, z5 - 1), (z5 + 1, (L - z4))]) : Sps)], v6) (hstep _ (by exact sp_two (by omega) (by omega) (by omega) (by omega)) (by simp)) (by dsimp only; omega) ?_ ⟨rfl, rfl, rfl, rfl, rfl, rfl, rfl, (by rw [List.length_append]; rfl), rfl, trivial⟩
            dsimp only
            rw [List.length_append, isEmpty_app, isEmpty_app, List.map_append, ints_app]; rfl
        cases b with
        | false =>
          repeat' first | ((with_reducible first | apply XBr.tt | apply XBr.ff | apply Chk.go | apply ChkA.go | apply ChkF.go | apply ChkB.go | apply XArr.pim0 | apply XArr.pim1); conv => whnf) | (with_reducible apply XBr.not) | ((with_reducible apply XBr.dec) <;> (intro h; first | (exfalso; omega) | ((try simp only [List.length_map] at h); first | (exfalso; omega) | (conv => whnf)))) | ((with_reducible first | apply XBr.beq | apply XBr.bne) <;> (intro h; first | (exfalso; omega) | (conv => whnf))) | ((with_reducible refine XInt.i64 (by omega) (by omega) ?_); conv => whnf) | ((with_reducible refine XHold.mk ?_ ?_); (first | omega | rfl | decide | exact ⟨rfl, by decide, rfl⟩ | exact wideI _ | exact widePr _ | exact wideSk _ | (unfold Room; constructor <;> ((try simp) <;> omega)) | exact ⟨rfl, by simp only [List.length_map], by unfold Room; constructor <;> ((try simp) <;> omega)⟩ | exact ⟨by omega, by omega, by unfold Room; constructor <;> ((try simp) <;> omega)⟩); conv => whnf) | ((first | ((with_reducible refine XIx.nat ?_ ?_ ?_); omega; (intro _; rfl)) | ((with_reducible refine XIx.map ?_ ?_ ?_ ?_); omega; omega; (intro _; rfl))); conv => whnf) | (with_reducible apply XAnd.mk) | (exact XSame.mk rfl rfl) | (exact XSame.mk (by first | rfl | (simp only [List.map_append, List.length_append, List.length_map]; done) | (simp only [List.map_append, List.length_append, List.length_map]; rfl)) (by first | rfl | (simp only [List.map_append]; done) | (simp only [List.map_append]; rfl))) | (with_reducible exact trivial) | ((first | (with_reducible refine xdrop_app (by rw [List.length_map]; omega) ?_) | (with_reducible refine XDrop.desk (by assumption) ?_) | (with_reducible first | refine XArr.ints (by omega) (by omega) (by omega) ?_ | refine XArr.intsA (by omega) (by omega) (by omega) ?_) | ((with_reducible first | refine XArr.nats ?_ ?_ ?_ | refine XArr.natsA ?_ ?_ ?_ | refine XArr.ptr ?_ ?_ ?_); omega; omega)); conv => whnf) | (apply Walk.drawN (id := 6) tab_ok mixed_ok [] [6, 9, 11] (hsC [_, _, _, _]) [_, _, _, _, _, _, _, _, _, _, _, _] (by kernel_rfl) rfl) | (apply Walk.drawN (id := 17) tab_ok mixed_ok [] [1, 8] (hsC [_, _, _]) [_, _, _, _, _, _, _, _, _, _, _, _] (by kernel_rfl) rfl) | (apply Walk.drawN (id := 19) tab_ok mixed_ok [] [] (hsU _) [_, _, _, _] (by kernel_rfl) rfl) | ((first | (with_reducible apply XNext.mk) | (refine XCall.hp (j := 0) hd1 rfl rfl ?_) | (refine XCall.hp (j := 0) hd2 rfl rfl ?_) | (refine XCall.hp (j := 0) hd3 rfl rfl ?_) | (refine XCall.hp (j := 0) hd4 rfl rfl ?_) | (refine XCall.hp (j := 0) hd5 rfl rfl ?_) | (refine XCall.hp (j := 0) hd6 rfl rfl ?_)); conv => whnf) | ((refine XHold.mk ⟨rfl, hrm, by unfold Room; constructor <;> ((try simp) <;> omega)⟩ ?_); conv => whnf) | ((refine XHold.mk ⟨rfl, hdm, by unfold Room; constructor <;> ((try simp) <;> omega)⟩ ?_); conv => whnf) | ((with_reducible apply XBr.mk') <;> (intro h; conv => whnf))
          all_goals
            refine XAgain.go (q + 1, row ++ [z1 * z2], dry ++ [((false, [(z3, max z3 ((L - z4)))]) : Sps)], v6) (hstep _ (by exact sp_one (by omega) (by omega) (by omega)) (by simp)) (by dsimp only; omega) ?_ ⟨rfl, rfl, rfl, rfl, rfl, rfl, rfl, (by rw [List.length_append]; rfl), rfl, trivial⟩
            dsimp only
            rw [List.length_append, isEmpty_app, isEmpty_app, List.map_append, ints_app]; rfl
        | true =>
          have hc' : ¬ (z3 + 1 < z5 ∧ z5 < (L - z4) - 1) := fun h => hc ⟨rfl, h⟩
          repeat' first | ((with_reducible first | apply XBr.tt | apply XBr.ff | apply Chk.go | apply ChkA.go | apply ChkF.go | apply ChkB.go | apply XArr.pim0 | apply XArr.pim1); conv => whnf) | (with_reducible apply XBr.not) | ((with_reducible apply XBr.dec) <;> (intro h; first | (exfalso; omega) | ((try simp only [List.length_map] at h); first | (exfalso; omega) | (conv => whnf)))) | ((with_reducible first | apply XBr.beq | apply XBr.bne) <;> (intro h; first | (exfalso; omega) | (conv => whnf))) | ((with_reducible refine XInt.i64 (by omega) (by omega) ?_); conv => whnf) | ((with_reducible refine XHold.mk ?_ ?_); (first | omega | rfl | decide | exact ⟨rfl, by decide, rfl⟩ | exact wideI _ | exact widePr _ | exact wideSk _ | (unfold Room; constructor <;> ((try simp) <;> omega)) | exact ⟨rfl, by simp only [List.length_map], by unfold Room; constructor <;> ((try simp) <;> omega)⟩ | exact ⟨by omega, by omega, by unfold Room; constructor <;> ((try simp) <;> omega)⟩); conv => whnf) | ((first | ((with_reducible refine XIx.nat ?_ ?_ ?_); omega; (intro _; rfl)) | ((with_reducible refine XIx.map ?_ ?_ ?_ ?_); omega; omega; (intro _; rfl))); conv => whnf) | (with_reducible apply XAnd.mk) | (exact XSame.mk rfl rfl) | (exact XSame.mk (by first | rfl | (simp only [List.map_append, List.length_append, List.length_map]; done) | (simp only [List.map_append, List.length_append, List.length_map]; rfl)) (by first | rfl | (simp only [List.map_append]; done) | (simp only [List.map_append]; rfl))) | (with_reducible exact trivial) | ((first | (with_reducible refine xdrop_app (by rw [List.length_map]; omega) ?_) | (with_reducible refine XDrop.desk (by assumption) ?_) | (with_reducible first | refine XArr.ints (by omega) (by omega) (by omega) ?_ | refine XArr.intsA (by omega) (by omega) (by omega) ?_) | ((with_reducible first | refine XArr.nats ?_ ?_ ?_ | refine XArr.natsA ?_ ?_ ?_ | refine XArr.ptr ?_ ?_ ?_); omega; omega)); conv => whnf) | (apply Walk.drawN (id := 6) tab_ok mixed_ok [] [6, 9, 11] (hsC [_, _, _, _]) [_, _, _, _, _, _, _, _, _, _, _, _] (by kernel_rfl) rfl) | (apply Walk.drawN (id := 17) tab_ok mixed_ok [] [1, 8] (hsC [_, _, _]) [_, _, _, _, _, _, _, _, _, _, _, _] (by kernel_rfl) rfl) | (apply Walk.drawN (id := 19) tab_ok mixed_ok [] [] (hsU _) [_, _, _, _] (by kernel_rfl) rfl) | ((first | (with_reducible apply XNext.mk) | (refine XCall.hp (j := 0) hd1 rfl rfl ?_) | (refine XCall.hp (j := 0) hd2 rfl rfl ?_) | (refine XCall.hp (j := 0) hd3 rfl rfl ?_) | (refine XCall.hp (j := 0) hd4 rfl rfl ?_) | (refine XCall.hp (j := 0) hd5 rfl rfl ?_) | (refine XCall.hp (j := 0) hd6 rfl rfl ?_)); conv => whnf) | ((refine XHold.mk ⟨rfl, hrm, by unfold Room; constructor <;> ((try simp) <;> omega)⟩ ?_); conv => whnf) | ((refine XHold.mk ⟨rfl, hdm, by unfold Room; constructor <;> ((try simp) <;> omega)⟩ ?_); conv => whnf) | ((with_reducible apply XBr.mk') <;> (intro h; conv => whnf))
          all_goals
            refine XAgain.go (q + 1, row ++ [z1 * z2], dry ++ [((false, [(z3, max z3 ((L - z4)))]) : Sps)], v6) (hstep _ (by exact sp_one (by omega) (by omega) (by omega)) (by simp)) (by dsimp only; omega) ?_ ⟨rfl, rfl, rfl, rfl, rfl, rfl, rfl, (by rw [List.length_append]; rfl), rfl, trivial⟩
            dsimp only
            rw [List.length_append, isEmpty_app, isEmpty_app, List.map_append, ints_app]; rfl
    have hqP : (q : Int) = P := by omega
    repeat' first | ((with_reducible first | apply XBr.tt | apply XBr.ff | apply Chk.go | apply ChkA.go | apply ChkF.go | apply ChkB.go | apply XArr.pim0 | apply XArr.pim1); conv => whnf) | (with_reducible apply XBr.not) | ((with_reducible apply XBr.dec) <;> (intro h; first | (exfalso; omega) | ((try simp only [List.length_map] at h); first | (exfalso; omega) | (conv => whnf)))) | ((with_reducible first | apply XBr.beq | apply XBr.bne) <;> (intro h; first | (exfalso; omega) | (conv => whnf))) | ((with_reducible refine XInt.i64 (by omega) (by omega) ?_); conv => whnf) | ((with_reducible refine XHold.mk ?_ ?_); (first | omega | rfl | decide | exact ⟨rfl, by decide, rfl⟩ | exact wideI _ | exact widePr _ | exact wideSk _ | (unfold Room; constructor <;> ((try simp) <;> omega)) | exact ⟨rfl, by simp only [List.length_map], by unfold Room; constructor <;> ((try simp) <;> omega)⟩ | exact ⟨by omega, by omega, by unfold Room; constructor <;> ((try simp) <;> omega)⟩); conv => whnf) | ((first | ((with_reducible refine XIx.nat ?_ ?_ ?_); omega; (intro _; rfl)) | ((with_reducible refine XIx.map ?_ ?_ ?_ ?_); omega; omega; (intro _; rfl))); conv => whnf) | (with_reducible apply XAnd.mk) | (exact XSame.mk rfl rfl) | (exact XSame.mk (by first | rfl | (simp only [List.map_append, List.length_append, List.length_map]; done) | (simp only [List.map_append, List.length_append, List.length_map]; rfl)) (by first | rfl | (simp only [List.map_append]; done) | (simp only [List.map_append]; rfl))) | (with_reducible exact trivial) | ((first | (with_reducible refine xdrop_app (by rw [List.length_map]; omega) ?_) | (with_reducible refine XDrop.desk (by assumption) ?_) | (with_reducible first | refine XArr.ints (by omega) (by omega) (by omega) ?_ | refine XArr.intsA (by omega) (by omega) (by omega) ?_) | ((with_reducible first | refine XArr.nats ?_ ?_ ?_ | refine XArr.natsA ?_ ?_ ?_ | refine XArr.ptr ?_ ?_ ?_); omega; omega)); conv => whnf) | (apply Walk.drawN (id := 6) tab_ok mixed_ok [] [6, 9, 11] (hsC [_, _, _, _]) [_, _, _, _, _, _, _, _, _, _, _, _] (by kernel_rfl) rfl) | (apply Walk.drawN (id := 17) tab_ok mixed_ok [] [1, 8] (hsC [_, _, _]) [_, _, _, _, _, _, _, _, _, _, _, _] (by kernel_rfl) rfl) | (apply Walk.drawN (id := 19) tab_ok mixed_ok [] [] (hsU _) [_, _, _, _] (by kernel_rfl) rfl) | ((with_reducible apply XNext.mk); conv => whnf) | ((with_reducible apply XBr.mk') <;> (intro h; conv => whnf))
    refine Walk.freeze 7 7 row.length rfl rfl hrm ?_
    refine Walk.freezeCell 6 0 8 dry.length rfl rfl rfl hdm ?_
    apply Walk.drawX tab_ok mixed_ok [] [4, 9, 11, 13] (hsC [_, _, _, _, _]) [_, _, _, _, _, _, _, _, _, _, _, _, _, _] (by kernel_rfl) rfl
    · skip
      repeat' first | ((with_reducible first | apply XBr.tt | apply XBr.ff | apply Chk.go | apply ChkA.go | apply ChkF.go | apply ChkB.go | apply XArr.pim0 | apply XArr.pim1); conv => whnf) | (with_reducible apply XBr.not) | ((with_reducible apply XBr.dec) <;> (intro h; first | (exfalso; omega) | ((try simp only [List.length_map] at h); first | (exfalso; omega) | (conv => whnf)))) | ((with_reducible first | apply XBr.beq | apply XBr.bne) <;> (intro h; first | (exfalso; omega) | (conv => whnf))) | ((with_reducible refine XInt.i64 (by omega) (by omega) ?_); conv => whnf) | ((with_reducible refine XHold.mk ?_ ?_); (first | omega | rfl | decide | exact ⟨rfl, by decide, rfl⟩ | exact wideI _ | exact widePr _ | exact wideSk _ | (unfold Room; constructor <;> ((try simp) <;> omega)) | exact ⟨rfl, by simp only [List.length_map], by unfold Room; constructor <;> ((try simp) <;> omega)⟩ | exact ⟨by omega, by omega, by unfold Room; constructor <;> ((try simp) <;> omega)⟩); conv => whnf) | ((first | ((with_reducible refine XIx.nat ?_ ?_ ?_); omega; (intro _; rfl)) | ((with_reducible refine XIx.map ?_ ?_ ?_ ?_); omega; omega; (intro _; rfl))); conv => whnf) | (with_reducible apply XAnd.mk) | (exact XSame.mk rfl rfl) | (exact XSame.mk (by first | rfl | (simp only [List.map_append, List.length_append, List.length_map]; done) | (simp only [List.map_append, List.length_append, List.length_map]; rfl)) (by first | rfl | (simp only [List.map_append]; done) | (simp only [List.map_append]; rfl))) | (with_reducible exact trivial) | ((first | (with_reducible refine xdrop_app (by rw [List.length_map]; omega) ?_) | (with_reducible refine XDrop.desk (by assumption) ?_) | (with_reducible first | refine XArr.ints (by omega) (by omega) (by omega) ?_ | refine XArr.intsA (by omega) (by omega) (by omega) ?_) | ((with_reducible first | refine XArr.nats ?_ ?_ ?_ | refine XArr.natsA ?_ ?_ ?_ | refine XArr.ptr ?_ ?_ ?_); omega; omega)); conv => whnf) | (apply Walk.drawN (id := 6) tab_ok mixed_ok [] [6, 9, 11] (hsC [_, _, _, _]) [_, _, _, _, _, _, _, _, _, _, _, _] (by kernel_rfl) rfl) | (apply Walk.drawN (id := 17) tab_ok mixed_ok [] [1, 8] (hsC [_, _, _]) [_, _, _, _, _, _, _, _, _, _, _, _] (by kernel_rfl) rfl) | (apply Walk.drawN (id := 19) tab_ok mixed_ok [] [] (hsU _) [_, _, _, _] (by kernel_rfl) rfl) | ((with_reducible apply XNext.mk); conv => whnf) | ((refine XHold.mk ⟨rfl, hlm, by unfold Room; constructor <;> ((try simp) <;> omega)⟩ ?_); conv => whnf) | ((refine XHold.mk ⟨rfl, htm, by unfold Room; constructor <;> ((try simp) <;> omega)⟩ ?_); conv => whnf) | ((with_reducible apply XBr.mk') <;> (intro h; conv => whnf))
    · skip
      repeat' first | ((with_reducible first | apply XBr.tt | apply XBr.ff | apply Chk.go | apply ChkA.go | apply ChkF.go | apply ChkB.go | apply XArr.pim0 | apply XArr.pim1); conv => whnf) | (with_reducible apply XBr.not) | ((with_reducible apply XBr.dec) <;> (intro h; first | (exfalso; omega) | ((try simp only [List.length_map] at h); first | (exfalso; omega) | (conv => whnf)))) | ((with_reducible first | apply XBr.beq | apply XBr.bne) <;> (intro h; first | (exfalso; omega) | (conv => whnf))) | ((with_reducible refine XInt.i64 (by omega) (by omega) ?_); conv => whnf) | ((with_reducible refine XHold.mk ?_ ?_); (first | omega | rfl | decide | exact ⟨rfl, by decide, rfl⟩ | exact wideI _ | exact widePr _ | exact wideSk _ | (unfold Room; constructor <;> ((try simp) <;> omega)) | exact ⟨rfl, by simp only [List.length_map], by unfold Room; constructor <;> ((try simp) <;> omega)⟩ | exact ⟨by omega, by omega, by unfold Room; constructor <;> ((try simp) <;> omega)⟩); conv => whnf) | ((first | ((with_reducible refine XIx.nat ?_ ?_ ?_); omega; (intro _; rfl)) | ((with_reducible refine XIx.map ?_ ?_ ?_ ?_); omega; omega; (intro _; rfl))); conv => whnf) | (with_reducible apply XAnd.mk) | (exact XSame.mk rfl rfl) | (exact XSame.mk (by first | rfl | (simp only [List.map_append, List.length_append, List.length_map]; done) | (simp only [List.map_append, List.length_append, List.length_map]; rfl)) (by first | rfl | (simp only [List.map_append]; done) | (simp only [List.map_append]; rfl))) | (with_reducible exact trivial) | ((first | (with_reducible refine xdrop_app (by rw [List.length_map]; omega) ?_) | (with_reducible refine XDrop.desk (by assumption) ?_) | (with_reducible first | refine XArr.ints (by omega) (by omega) (by omega) ?_ | refine XArr.intsA (by omega) (by omega) (by omega) ?_) | ((with_reducible first | refine XArr.nats ?_ ?_ ?_ | refine XArr.natsA ?_ ?_ ?_ | refine XArr.ptr ?_ ?_ ?_); omega; omega)); conv => whnf) | (apply Walk.drawN (id := 6) tab_ok mixed_ok [] [6, 9, 11] (hsC [_, _, _, _]) [_, _, _, _, _, _, _, _, _, _, _, _] (by kernel_rfl) rfl) | (apply Walk.drawN (id := 17) tab_ok mixed_ok [] [1, 8] (hsC [_, _, _]) [_, _, _, _, _, _, _, _, _, _, _, _] (by kernel_rfl) rfl) | (apply Walk.drawN (id := 19) tab_ok mixed_ok [] [] (hsU _) [_, _, _, _] (by kernel_rfl) rfl) | ((with_reducible apply XNext.mk); conv => whnf) | ((refine XHold.mk ⟨rfl, hlm, by unfold Room; constructor <;> ((try simp) <;> omega)⟩ ?_); conv => whnf) | ((refine XHold.mk ⟨rfl, htm, by unfold Room; constructor <;> ((try simp) <;> omega)⟩ ?_); conv => whnf) | ((with_reducible apply XBr.mk') <;> (intro h; conv => whnf))
    conv => whnf
    repeat' first | ((with_reducible first | apply XBr.tt | apply XBr.ff | apply Chk.go | apply ChkA.go | apply ChkF.go | apply ChkB.go | apply XArr.pim0 | apply XArr.pim1); conv => whnf) | (with_reducible apply XBr.not) | ((with_reducible apply XBr.dec) <;> (intro h; first | (exfalso; omega) | ((try simp only [List.length_map] at h); first | (exfalso; omega) | (conv => whnf)))) | ((with_reducible first | apply XBr.beq | apply XBr.bne) <;> (intro h; first | (exfalso; omega) | (conv => whnf))) | ((with_reducible refine XInt.i64 (by omega) (by omega) ?_); conv => whnf) | ((with_reducible refine XHold.mk ?_ ?_); (first | omega | rfl | decide | exact ⟨rfl, by decide, rfl⟩ | exact wideI _ | exact widePr _ | exact wideSk _ | (unfold Room; constructor <;> ((try simp) <;> omega)) | exact ⟨rfl, by simp only [List.length_map], by unfold Room; constructor <;> ((try simp) <;> omega)⟩ | exact ⟨by omega, by omega, by unfold Room; constructor <;> ((try simp) <;> omega)⟩); conv => whnf) | ((first | ((with_reducible refine XIx.nat ?_ ?_ ?_); omega; (intro _; rfl)) | ((with_reducible refine XIx.map ?_ ?_ ?_ ?_); omega; omega; (intro _; rfl))); conv => whnf) | (with_reducible apply XAnd.mk) | (exact XSame.mk rfl rfl) | (exact XSame.mk (by first | rfl | (simp only [List.map_append, List.length_append, List.length_map]; done) | (simp only [List.map_append, List.length_append, List.length_map]; rfl)) (by first | rfl | (simp only [List.map_append]; done) | (simp only [List.map_append]; rfl))) | (with_reducible exact trivial) | ((first | (with_reducible refine xdrop_app (by rw [List.length_map]; omega) ?_) | (with_reducible refine XDrop.desk (by assumption) ?_) | (with_reducible first | refine XArr.ints (by omega) (by omega) (by omega) ?_ | refine XArr.intsA (by omega) (by omega) (by omega) ?_) | ((with_reducible first | refine XArr.nats ?_ ?_ ?_ | refine XArr.natsA ?_ ?_ ?_ | refine XArr.ptr ?_ ?_ ?_); omega; omega)); conv => whnf) | (apply Walk.drawN (id := 6) tab_ok mixed_ok [] [6, 9, 11] (hsC [_, _, _, _]) [_, _, _, _, _, _, _, _, _, _, _, _] (by kernel_rfl) rfl) | (apply Walk.drawN (id := 17) tab_ok mixed_ok [] [1, 8] (hsC [_, _, _]) [_, _, _, _, _, _, _, _, _, _, _, _] (by kernel_rfl) rfl) | (apply Walk.drawN (id := 19) tab_ok mixed_ok [] [] (hsU _) [_, _, _, _] (by kernel_rfl) rfl) | ((with_reducible apply XNext.mk); conv => whnf) | ((with_reducible apply XBr.mk') <;> (intro h; conv => whnf))
    refine XAgainG.go (k + 1, looks ++ [((row.isEmpty, row) : Rw)], truths ++ [((dry.isEmpty, dry) : Tru)], v) [.cells [.sl dry.isEmpty (dry.map spsA)], .dead, .dead] ⟨by dsimp only; omega, ov, ⟨by dsimp only; rw [List.length_append, hll]; rfl, by dsimp only; rw [List.length_append, htl]; rfl⟩, fun r hr => ?_, fun t ht => ?_⟩ (by dsimp only; omega) ?_ ⟨rfl, rfl, rfl, rfl, rfl, trivial⟩
    · rcases List.mem_append.1 hr with hr | hr
      · exact hlk r hr
      · rw [List.mem_singleton] at hr; rw [hr]; exact ⟨by dsimp only; omega, hrow⟩
    · rcases List.mem_append.1 ht with ht | ht
      · exact htr t ht
      · rw [List.mem_singleton] at ht; rw [ht]; exact ⟨by dsimp only; omega, hdry⟩
    dsimp only
    rw [List.length_append, List.length_append, isEmpty_app, isEmpty_app, List.map_append, List.map_append]; rfl
  have hkN : (k : Int) = N := by omega
  repeat' first | ((with_reducible first | apply XBr.tt | apply XBr.ff | apply Chk.go | apply ChkA.go | apply ChkF.go | apply ChkB.go | apply XArr.pim0 | apply XArr.pim1); conv => whnf) | (with_reducible apply XBr.not) | ((with_reducible apply XBr.dec) <;> (intro h; first | (exfalso; omega) | ((try simp only [List.length_map] at h); first | (exfalso; omega) | (conv => whnf)))) | ((with_reducible first | apply XBr.beq | apply XBr.bne) <;> (intro h; first | (exfalso; omega) | (conv => whnf))) | ((with_reducible refine XInt.i64 (by omega) (by omega) ?_); conv => whnf) | ((with_reducible refine XHold.mk ?_ ?_); (first | omega | rfl | decide | exact ⟨rfl, by decide, rfl⟩ | exact wideI _ | exact widePr _ | exact wideSk _ | (unfold Room; constructor <;> ((try simp) <;> omega)) | exact ⟨rfl, by simp only [List.length_map], by unfold Room; constructor <;> ((try simp) <;> omega)⟩ | exact ⟨by omega, by omega, by unfold Room; constructor <;> ((try simp) <;> omega)⟩); conv => whnf) | ((first | ((with_reducible refine XIx.nat ?_ ?_ ?_); omega; (intro _; rfl)) | ((with_reducible refine XIx.map ?_ ?_ ?_ ?_); omega; omega; (intro _; rfl))); conv => whnf) | (with_reducible apply XAnd.mk) | (exact XSame.mk rfl rfl) | (exact XSame.mk (by first | rfl | (simp only [List.map_append, List.length_append, List.length_map]; done) | (simp only [List.map_append, List.length_append, List.length_map]; rfl)) (by first | rfl | (simp only [List.map_append]; done) | (simp only [List.map_append]; rfl))) | (with_reducible exact trivial) | ((first | (with_reducible refine xdrop_app (by rw [List.length_map]; omega) ?_) | (with_reducible refine XDrop.desk (by assumption) ?_) | (with_reducible first | refine XArr.ints (by omega) (by omega) (by omega) ?_ | refine XArr.intsA (by omega) (by omega) (by omega) ?_) | ((with_reducible first | refine XArr.nats ?_ ?_ ?_ | refine XArr.natsA ?_ ?_ ?_ | refine XArr.ptr ?_ ?_ ?_); omega; omega)); conv => whnf) | (apply Walk.drawN (id := 6) tab_ok mixed_ok [] [6, 9, 11] (hsC [_, _, _, _]) [_, _, _, _, _, _, _, _, _, _, _, _] (by kernel_rfl) rfl) | (apply Walk.drawN (id := 17) tab_ok mixed_ok [] [1, 8] (hsC [_, _, _]) [_, _, _, _, _, _, _, _, _, _, _, _] (by kernel_rfl) rfl) | (apply Walk.drawN (id := 19) tab_ok mixed_ok [] [] (hsU _) [_, _, _, _] (by kernel_rfl) rfl) | ((with_reducible apply XNext.mk); conv => whnf) | ((with_reducible apply XBr.mk') <;> (intro h; conv => whnf))
  exact ⟨_, [hpC v], ⟨rfl, rfl, fun x hx => hpLow hx, FrozN.agg (snOne ⟨P, 0, bd, L, W.isEmpty, W, looks.isEmpty, looks, truths.isEmpty, truths⟩) (.cons (.low rfl) (.cons (.low rfl) (.cons (.low rfl) (.cons (.low rfl) (.cons (.low (lowWy _)) (.cons (FrozN.grow (show (1 : Nat) ≤ 4 by omega) rfl hlm (lowRk _)) (.cons (FrozN.grow (show (1 : Nat) ≤ 5 by omega) rfl htm (lowTr _)) .nil)))))))⟩, _, v, snL _, ⟨_, rfl, mk_ok (by omega) (by omega) (by omega) hl2 hW hlk htr (by omega) (by omega) (by omega), ov⟩, rfl, rfl⟩
end GA
end

section
namespace GA
open Go Go.RowKit Go.Proofs
set_option pp.deepTerms true
set_option maxRecDepth 8000
set_option linter.unusedVariables false
set_option linter.unusedSimpArgs false

theorem idx_find {α : Type} {p : α → Bool} (d : α) : ∀ l : List α, (l.find? p = none ∧ idxR p l = -1) ∨ ∃ i, i < l.length ∧ idxR p l = (i : Int) ∧ l.find? p = some (l.getD i d)
  | [] => .inl ⟨rfl, rfl⟩
  | x :: l => by
    by_cases h : p x = true
    · refine .inr ⟨0, by simp, ?_, by rw [List.find?_cons, h]; rfl⟩
      unfold idxR
      rw [List.findIdx?_cons, if_pos h]
    · have hf : (x :: l).find? p = l.find? p := by simp [List.find?_cons, h]
      have hi : idxR p (x :: l) = match l.findIdx? p with | some i => ((i + 1 : Nat) : Int) | none => -1 := by
        unfold idxR
        rw [List.findIdx?_cons, if_neg h]
        cases l.findIdx? p <;> rfl
      rcases idx_find d l with ⟨h1, h2⟩ | ⟨i, h1, h2, h3⟩
      · refine .inl ⟨by rw [hf]; exact h1, ?_⟩
        rw [hi]
        unfold idxR at h2
        cases hq : l.findIdx? p with
        | none => rfl
        | some i => rw [hq] at h2; dsimp only at h2; omega
      · refine .inr ⟨i + 1, by simpa using h1, ?_, by rw [hf]; exact h3⟩
        rw [hi]
        unfold idxR at h2
        cases hq : l.findIdx? p with
        | none => rw [hq] at h2; dsimp only at h2; omega
        | some j =>
          rw [hq] at h2
          have h4 : (j : Int) = i := h2
          have h5 : j = i := by omega
          rw [h5]
def lowB (l : Nat) : Nat := ((List.range 4).find? fun i => l.testBit i).getD 0
theorem lowB_lt (l : Nat) : lowB l < 4 := by
  unfold lowB
  cases h : (List.range 4).find? fun i => l.testBit i with
  | none => decide
  | some i => exact List.mem_range.1 (List.mem_of_find?_eq_some h)
theorem lowB_bit : ∀ l : Fin 16, l.val ≠ 0 → l.val.testBit (lowB l.val) = true ∧ iand .i64 (l.val : Int) (0 - (l.val : Int)) = ((2 ^ lowB l.val : Nat) : Int) := by decide +kernel
theorem lowB_least : ∀ l : Fin 16, ∀ i : Fin 4, i.val < lowB l.val → l.val.testBit i.val = false := by decide +kernel
def drvS (s : Sn) (b : Nat) : Sta → List (Int × Int) → Option (List Sta)
  | _, [] => some []
  | x, t :: l => match (afterS s x t).find? (fun y => y.l.testBit b) with
    | none => none
    | some y => (drvS s b y l).map (y :: ·)
def bitP (b : Nat) (y : Sta) : Bool := y.l.testBit b
theorem drive1_c (b : Nat) (hb : b < 4) (y : Sta) (hy : y.l ≤ 1000) : Comp Try.prog 108 [staA y, .pim [natA (2 ^ b)]] (.bool (bitP b y)) := by
  have hp : 2 ^ b ≤ 2 ^ 4 := Nat.pow_le_pow_right (by omega) (by omega)
  have ha : iand .i64 (y.l : Int) ((2 ^ b : Nat) : Int) = ((y.l &&& 2 ^ b : Nat) : Int) := iand_nat (by omega) (by omega)
  have hz : (y.l &&& 2 ^ b ≠ 0) ↔ bitP b y = true := by
    unfold bitP
    constructor
    · intro h
      refine Classical.byContradiction fun e => h (bit_ext fun i => ?_)
      rw [Nat.testBit_and, Nat.testBit_two_pow, Nat.zero_testBit]
      by_cases hi : b = i
      · subst hi; simp [Bool.not_eq_true] at e ⊢; exact e
      · simp [hi]
    · intro h e
      have h2 := congrArg (fun n => n.testBit b) e
      simp only [Nat.testBit_and, Nat.testBit_two_pow, Nat.zero_testBit, h] at h2
      simp at h2
  generalize y.l &&& 2 ^ b = v at ha hz
  refine Comp.body (T := tab) (res := [.tmp 3]) tab_ok [] Try.func108 rfl (by kernel_rfl) Try.ntmps108 rfl (by simp only [List.length_cons, List.length_nil]; decide) (by rfl) ?_; conv => whnf
  skip
  all_goals (refine XOut.bool ?_; rw [Bool.eq_iff_iff, ← hz]; first | (rw [show iand .i64 (y.l : Int) ((2 ^ b : Nat) : Int) = (v : Int) from ha, bne_iff_ne]; omega) | skip)
theorem fDrive_ok (s : Sn) (hb : SnB s) (p m l : Int) (nl : Bool) (T : List (Int × Int)) (hT : T.length ≤ 1000) (ht : ∀ t ∈ T, -9223372036854775808 ≤ t.2 ∧ t.2 ≤ 9223372036854775807) (h : sttE s p m l = 0) :
    Comp Try.prog 40 [snA s, xA p m l, .sl nl (T.map sgA)] (.tup [match (if safeB s (stN p m l) = true then drvS s (lowB l.toNat) (stN p m l) T else none) with | some L => .sl false ((stN p m l :: L).map staA) | none => .sl true [], .int .i64 (if (if safeB s (stN p m l) = true then drvS s (lowB l.toNat) (stN p m l) T else none) = none then 8 else 0)]) := by
  have hs := stated_ok s hb p m l h
  obtain ⟨ok, h1, h2, h3, h4⟩ := sttE_iff.1 h
  have hal := allN16 ok
  have hxe := xA_st h1.1 h2.1 (show 0 ≤ l by omega)
  have hx := stN_ok h
  have hll : (stN p m l).l = l.toNat := rfl
  have hxl : (stN p m l).l ≤ allN s := by show l.toNat ≤ allN s; omega
  have hl0 : l.toNat ≠ 0 := by omega
  have hl16 : l.toNat < 16 := by omega
  rw [← hll] at hl0 hl16 ⊢
  rw [hxe] at hs ⊢
  generalize stN p m l = x at hs hx hl0 hl16 hxl
  clear h h1 h2 h3 h4 hxe hll
  have p2 := ok.p2; have l2 := ok.l2; have x1 := hx.p; have x2 := hx.m
  have hsf := safe_c s ok x (by omega) (by omega) (by omega)
  have hlb := lowB_bit ⟨x.l, hl16⟩ hl0
  dsimp only at hlb
  have hb4 := lowB_lt x.l
  generalize lowB x.l = b at hlb hb4
  have hp2 : 2 ^ b ≤ 2 ^ 4 := Nat.pow_le_pow_right (by omega) (by omega)
  have e1 : ((T.map sgA).length : Int) = T.length := by rw [List.length_map]
  cases hq : safeB s x with
  | false =>
    rw [hq] at hsf
    rw [if_neg (by simp)]
    refine Comp.body (T := tab) (res := [.tmp 6, .tmp 7]) tab_ok [4, 36] Try.func40 rfl (by kernel_rfl) Try.ntmps40 rfl (by simp only [List.length_cons, List.length_nil]; decide) (by simp only [lowL, AV.low, snL, staL, lowSg]; rfl) ?_; conv => whnf
    repeat' first | ((with_reducible apply XBr.ff); conv => whnf) | (with_reducible apply XBr.not) | ((with_reducible apply XBr.bne) <;> (intro h; first | (exfalso; omega) | (conv => whnf))) | ((first | (refine XCall.ret hs ?_) | (refine XCall.ret hsf ?_)); conv => whnf) | fail
    exact ⟨.low rfl⟩
  | true =>
    rw [hq] at hsf
    rw [if_pos rfl]
    refine Comp.body (T := tab) (res := [.tmp 6, .tmp 7]) tab_ok [4, 36] Try.func40 rfl (by kernel_rfl) Try.ntmps40 rfl (by simp only [List.length_cons, List.length_nil]; decide) (by simp only [lowL, AV.low, snL, staL, lowSg]; rfl) ?_; conv => whnf
    repeat' first | ((with_reducible apply XBr.tt); conv => whnf) | (with_reducible apply XBr.not) | ((with_reducible apply XBr.bne) <;> (intro h; first | (exfalso; omega) | (conv => whnf))) | ((with_reducible refine XInt.i64 (by omega) (by omega) ?_); conv => whnf) | ((with_reducible refine XHold.mk ?_ ?_); (first | omega | rfl | decide | exact ⟨rfl, by decide, rfl⟩ | exact wideI _ | exact widePr _ | exact wideSk _ | (unfold Room; constructor <;> ((try simp) <;> omega)) | exact ⟨rfl, by simp only [List.length_map], by unfold Room; constructor <;> ((try simp) <;> omega)⟩ | exact ⟨by omega, by omega, by unfold Room; constructor <;> ((try simp) <;> omega)⟩); conv => whnf) | ((first | (refine XCall.ret hs ?_) | (refine XCall.ret hsf ?_)); conv => whnf) | fail
    refine Walk.loopGK tab_ok [] [(4, _), (8, _), (10, _), (37, _), (38, _)] ⟨rfl, rfl, rfl, rfl, rfl, trivial⟩ (fun g : Nat × Sta × List Sta => g.1 ≤ T.length ∧ vld s g.2.1 ∧ g.2.2.length ≤ g.1 ∧ drvS s b x T = (drvS s b g.2.1 (T.drop g.1)).map (g.2.2 ++ ·)) (fun g => [(6, .sl true []), (7, .int .i64 0), (11, .gr 2 (g.2.2.length + 1)), (39, natA g.1)]) (fun g => [.cells (stC g.2.1), .cells [natA (2 ^ b)], .grow 35 false ((x :: g.2.2).map staA)]) (fun g => T.length - g.1) (0, x, []) ⟨Nat.zero_le _, ⟨x1, x2, hxl⟩, Nat.zero_le _, by show drvS s b x T = (drvS s b x T).map _; cases drvS s b x T <;> rfl⟩ (by show [Blk.cells (stC x), Blk.cells [AV.int .i64 ((2 ^ b : Nat) : Int)], Blk.grow _ false ([x].map staA)] = _; rw [← hlb.2]; rfl) ⟨rfl, rfl, rfl, rfl, trivial⟩ ?_ (fun _ _ => (show (3 : Nat) ≤ 3 from Nat.le_refl 3)) ?_
    · intro g _
      refine ⟨fun z hz => ?_, fun z hz => ?_⟩
      · simp only [List.mem_cons, List.not_mem_nil, or_false] at hz
        rcases hz with rfl | rfl | rfl <;> first | rfl | exact lowSta _
      · simp only [List.cons_append, List.nil_append, List.mem_cons, List.not_mem_nil, or_false] at hz
        rcases hz with rfl | rfl | rfl | rfl | rfl | rfl | rfl | rfl | rfl <;> first | rfl | exact dskFL s | exact lowSg _
    rintro ⟨k, y, R⟩ ⟨hk, hv, hR, hd⟩
    dsimp only at hk hv hR hd ⊢
    have hRl : ((x :: R).map staA).length = R.length + 1 := by rw [List.length_map, List.length_cons]
    conv => whnf
    by_cases hlt : k < T.length
    · have htk := ht _ (getD_mem (d := default) hlt)
      have hyk : StOk s y := ⟨hv.1, hv.2.1, by have := hv.2.2; omega⟩
      have hfa := fafter_c s ok y hyk (T.getD k default) htk.1 htk.2
      have hlen := afterS_len s y (T.getD k default)
      have hvl := fun y' (h : y' ∈ afterS s y (T.getD k default)) => afterS_vld ok h
      rw [drop_next hlt, drvS] at hd
      generalize hA : afterS s y (T.getD k default) = A at hfa hlen hvl hd
      have hix := idxf_sta A.isEmpty A 108 [.pim [natA (2 ^ b)]] (bitP b) rfl (by omega) fun y' hy' => drive1_c b hb4 y' (by have := (hvl y' hy').2.2; omega)
      rcases idx_find (p := bitP b) default A with ⟨hf, hi⟩ | ⟨i, hi1, hi2, hf⟩
      · have hf' : A.find? (fun y => y.l.testBit b) = none := hf
        rw [hf'] at hd
        have hd2 : drvS s b x T = none := hd
        rw [hd2]
        rw [hi] at hix
        repeat' first | ((with_reducible apply XBr.dec) <;> (intro h; first | (exfalso; omega) | ((try simp only [List.length_map] at h); first | (exfalso; omega) | (conv => whnf)))) | ((first | ((with_reducible refine XIx.nat ?_ ?_ ?_); omega; (intro _; rfl)) | (refine XCall.ret hfa ?_) | (refine XCall.lend hix (.cons (.low (lowSta _)) (.cons (Froz.fn (.cons (Froz.ptr rfl (one1 rfl) (.low rfl)) .nil)) .nil)) rfl ?_)); conv => whnf) | fail
        exact ⟨.low rfl⟩
      · have hf' : A.find? (fun y => y.l.testBit b) = some (A.getD i default) := hf
        rw [hf'] at hd
        rw [hi2] at hix
        have hy' := hvl _ (getD_mem (d := default) hi1)
        repeat' first | ((with_reducible apply XBr.dec) <;> (intro h; first | (exfalso; omega) | ((try simp only [List.length_map] at h); first | (exfalso; omega) | (conv => whnf)))) | ((with_reducible refine XInt.i64 (by omega) (by omega) ?_); conv => whnf) | ((with_reducible refine XHold.mk ?_ ?_); (first | omega | rfl | decide | exact ⟨rfl, by decide, rfl⟩ | exact wideI _ | exact widePr _ | exact wideSk _ | (unfold Room; constructor <;> ((try simp) <;> omega)) | exact ⟨rfl, by simp only [List.length_map], by unfold Room; constructor <;> ((try simp) <;> omega)⟩ | exact ⟨by omega, by omega, by unfold Room; constructor <;> ((try simp) <;> omega)⟩); conv => whnf) | ((first | ((with_reducible refine XIx.nat ?_ ?_ ?_); omega; (intro _; rfl)) | (refine XCall.ret hfa ?_) | (refine XCall.lend hix (.cons (.low (lowSta _)) (.cons (Froz.fn (.cons (Froz.ptr rfl (one1 rfl) (.low rfl)) .nil)) .nil)) rfl ?_)); conv => whnf) | fail
        refine XAgainG.go (k + 1, A.getD i default, R ++ [A.getD i default]) [.cells (sgA (T.getD k default)).cells] ⟨by dsimp only; omega, hy', by dsimp only; rw [List.length_append, List.length_cons, List.length_nil]; omega, ?_⟩ (by dsimp only; omega) ?_ ⟨rfl, rfl, rfl, rfl, rfl, rfl, rfl, (by show some (AV.gr 2 (R.length + 1 + 1)) = some (AV.gr 2 ((R ++ [A.getD i default]).length + 1)); rw [List.length_append]; rfl), rfl, trivial⟩
        · show drvS s b x T = (drvS s b (A.getD i default) (T.drop (k + 1))).map ((R ++ [A.getD i default]) ++ ·)
          rw [hd]
          dsimp only
          cases drvS s b (A.getD i default) (T.drop (k + 1)) with
          | none => rfl
          | some L => show some (R ++ (A.getD i default :: L)) = some ((R ++ [A.getD i default]) ++ L); rw [List.append_assoc]; rfl
        · show [Blk.cells _, Blk.cells _, Blk.grow _ false ((x :: (R ++ [A.getD i default])).map staA)] ++ _ = _
          rw [← List.cons_append, List.map_append]; rfl
    obtain rfl : k = T.length := by omega
    rw [List.drop_length] at hd
    have hd2 : drvS s b x T = some R := by rw [hd]; show some (R ++ []) = _; rw [List.append_nil]
    rw [hd2]
    repeat' first | ((with_reducible apply XBr.dec) <;> (intro h; first | (exfalso; omega) | ((try simp only [List.length_map] at h); first | (exfalso; omega) | (conv => whnf)))) | fail
    exact ⟨Froz.tup (.cons (Froz.grow rfl hRl (lowSta _)) (.cons (.low rfl) .nil))⟩
end GA
end

section
namespace GA
open Go Go.RowKit Go.Proofs
set_option pp.deepTerms true
set_option maxRecDepth 8000
set_option linter.unusedVariables false
set_option linter.unusedSimpArgs false

def drA (s : Sn) (p m i j : Nat) (t : Nat) : Bool := if t = i then ((((s.truths.getD i default).2.getD p default).2).take j).any (fun x => inZ m x.1 x.2) else dryT s t p m
theorem drA_0 (s : Sn) (p m i : Nat) : bsum (drA s p m i 0) (i + 1) = bsum (fun t => dryT s t p m) i := by
  rw [bsum]
  have h : drA s p m i 0 i = false := by unfold drA; rw [if_pos rfl, List.take_zero]; rfl
  rw [h, if_neg (by simp), Nat.add_zero]
  exact bsum_congr fun t ht => by unfold drA; rw [if_neg (by omega)]
theorem drA_end (s : Sn) (p m i : Nat) : bsum (drA s p m i (((s.truths.getD i default).2.getD p default).2).length) (i + 1) = bsum (fun t => dryT s t p m) (i + 1) := by
  refine bsum_congr fun t ht => ?_
  unfold drA
  by_cases e : t = i
  · rw [if_pos e, List.take_length, e]; rfl
  · rw [if_neg e]
theorem drA_hit {s : Sn} {p m i j : Nat} (hj : j < (((s.truths.getD i default).2.getD p default).2).length) (h : inZ m ((((s.truths.getD i default).2.getD p default).2).getD j default).1 ((((s.truths.getD i default).2.getD p default).2).getD j default).2 = true) : bsum (drA s p m i j) (i + 1) ||| 2 ^ i = bsum (drA s p m i (j + 1)) (i + 1) := by
  rw [bsum_set (by omega)]
  refine bsum_congr fun t ht => ?_
  unfold updV drA
  by_cases e : t = i
  · rw [if_pos e, if_pos e, take_next hj, List.any_append]
    show true = (_ || (inZ m _ _ || false))
    rw [h]; simp
  · rw [if_neg e, if_neg e, if_neg e]
theorem drA_miss {s : Sn} {p m i j : Nat} (hj : j < (((s.truths.getD i default).2.getD p default).2).length) (h : inZ m ((((s.truths.getD i default).2.getD p default).2).getD j default).1 ((((s.truths.getD i default).2.getD p default).2).getD j default).2 = false) : bsum (drA s p m i (j + 1)) (i + 1) = bsum (drA s p m i j) (i + 1) := by
  refine bsum_congr fun t ht => ?_
  unfold drA
  by_cases e : t = i
  · rw [if_pos e, if_pos e, take_next hj, List.any_append]
    show (_ || (inZ m _ _ || false)) = _
    rw [h]; simp
  · rw [if_neg e, if_neg e]
theorem lawDry_c (s : Sn) (hb : SnB s) (ok : SnOk s) (p m : Nat) (hp : (p : Int) < s.places) : Comp Try.prog 18 [snA s, natA p, natA m] (natA (drN s p m)) := by
  have t2 := ok.t2
  have e3 : ((s.truths.map trA).length : Int) = s.truths.length := by rw [List.length_map]
  refine Comp.body (T := tab) (res := [.tmp 6]) tab_ok [] Try.func18 rfl (by kernel_rfl) Try.ntmps18 rfl (by simp only [List.length_cons, List.length_nil]; decide) (by simp only [lowL, AV.low, snL]; rfl) ?_; conv => whnf
  skip
  refine Walk.loopGK tab_ok [] [(1, _), (2, _), (6, _), (13, _), (14, _)] ⟨rfl, rfl, rfl, rfl, rfl, trivial⟩ (fun i : Nat => i ≤ s.truths.length) (fun i => [(7, natA (bsum (fun t => dryT s t p m) i)), (15, natA i)]) (fun _ => []) (fun i => s.truths.length - i) 0 (Nat.zero_le _) rfl ⟨rfl, rfl, trivial⟩ ?_ (fun _ _ => (show (0 : Nat) ≤ 0 from Nat.le_refl 0)) ?_
  · intro i _
    refine ⟨by simp, fun z hz => ?_⟩
    simp only [List.cons_append, List.nil_append, List.mem_cons, List.not_mem_nil, or_false] at hz
    rcases hz with rfl | rfl | rfl | rfl | rfl | rfl | rfl <;> first | rfl | exact lowTr _
  intro i hi
  have h0 := drA_0 s p m i
  have hE := drA_end s p m i
  have hend : i = s.truths.length → bsum (fun t => dryT s t p m) i = drN s p m := fun h => by rw [h]; rfl
  conv => whnf
  by_cases hlt : i < s.truths.length
  · have htl := ok.tl _ (getD_mem (d := default) hlt)
    have hplt : p < (s.truths.getD i default).2.length := by omega
    have hsl := hb.sl _ (getD_mem (d := default) hlt) _ (getD_mem (d := default) hplt)
    have e4 : (((s.truths.getD i default).2.map spsA).length : Int) = (s.truths.getD i default).2.length := by rw [List.length_map]
    have e5 : ((((s.truths.getD i default).2.getD p default).2.map sgA).length : Int) = ((s.truths.getD i default).2.getD p default).2.length := by rw [List.length_map]
    have hhit := fun j hj => drA_hit (s := s) (p := p) (m := m) (i := i) (j := j) hj
    have hmis := fun j hj => drA_miss (s := s) (p := p) (m := m) (i := i) (j := j) hj
    have hblt := fun j => bsum_lt (drA s p m i j) (i + 1)
    have hpw : 2 ^ (i + 1) ≤ 2 ^ 4 := Nat.pow_le_pow_right (by omega) (by omega)
    have hpw2 : 2 ^ i ≤ 2 ^ 4 := Nat.pow_le_pow_right (by omega) (by omega)
    rw [← h0]
    repeat' first | ((with_reducible apply XBr.dec) <;> (intro h; first | (exfalso; omega) | ((try simp only [List.length_map] at h); first | (exfalso; omega) | (conv => whnf)))) | (((with_reducible refine XIx.nat ?_ ?_ ?_); omega; (intro _; rfl)); conv => whnf) | fail
    refine Walk.loopGK tab_ok [] [(1, _), (2, _), (6, _), (8, _), (13, _), (14, _), (15, _), (24, _), (25, _)] ⟨rfl, rfl, rfl, rfl, rfl, rfl, rfl, rfl, rfl, trivial⟩ (fun j : Nat => j ≤ ((s.truths.getD i default).2.getD p default).2.length) (fun j => [(7, natA (bsum (drA s p m i j) (i + 1))), (26, natA j)]) (fun _ => [.cells [.sl (s.truths.getD i default).1 ((s.truths.getD i default).2.map spsA)]]) (fun j => ((s.truths.getD i default).2.getD p default).2.length - j) 0 (Nat.zero_le _) rfl ⟨rfl, rfl, trivial⟩ ?_ (fun _ _ => (show (1 : Nat) ≤ 1 from Nat.le_refl 1)) ?_
    · intro j _
      refine ⟨fun z hz => ?_, fun z hz => ?_⟩
      · rw [List.mem_singleton] at hz; subst hz
        simp only [Blk.low, lowL, AV.low, lowSps]; rfl
      · simp only [List.cons_append, List.nil_append, List.mem_cons, List.not_mem_nil, or_false] at hz
        rcases hz with rfl | rfl | rfl | rfl | rfl | rfl | rfl | rfl | rfl | rfl | rfl <;> first | rfl | exact lowTr _ | exact lowSg _
    intro j hj
    have hhit := hhit j
    have hmis := hmis j
    have hblt := hblt j
    have hje : j = ((s.truths.getD i default).2.getD p default).2.length → bsum (drA s p m i j) (i + 1) = bsum (fun t => dryT s t p m) (i + 1) := fun h => by rw [h]; exact hE
    generalize hv : bsum (drA s p m i j) (i + 1) = v at hhit hmis hblt hje
    conv => whnf
    by_cases hlt2 : j < ((s.truths.getD i default).2.getD p default).2.length
    · have hhit := hhit hlt2
      have hmis := hmis hlt2
      have a2 : ior .i64 (v : Int) ((2 ^ i : Nat) : Int) = ((v ||| 2 ^ i : Nat) : Int) := ior_nat (by omega) (by omega)
      by_cases hin : (((((s.truths.getD i default).2.getD p default).2).getD j default).1 ≤ (m : Int)) ∧ ((m : Int) ≤ ((((s.truths.getD i default).2.getD p default).2).getD j default).2)
      · have hx := hhit (inZ_iff.2 hin)
        repeat' first | ((with_reducible apply XBr.tt); conv => whnf) | ((with_reducible apply XBr.dec) <;> (intro h; first | (exfalso; omega) | ((try simp only [List.length_map] at h); first | (exfalso; omega) | (conv => whnf)))) | ((with_reducible refine XInt.i64 (by omega) (by omega) ?_); conv => whnf) | ((with_reducible refine XHold.mk ?_ ?_); (first | omega | rfl | decide | exact ⟨rfl, by decide, rfl⟩ | exact wideI _ | exact widePr _ | exact wideSk _ | (unfold Room; constructor <;> ((try simp) <;> omega)) | exact ⟨rfl, by simp only [List.length_map], by unfold Room; constructor <;> ((try simp) <;> omega)⟩ | exact ⟨by omega, by omega, by unfold Room; constructor <;> ((try simp) <;> omega)⟩); conv => whnf) | ((first | ((with_reducible refine XIx.nat ?_ ?_ ?_); omega; (intro _; rfl)) | (refine XInt.shl (by omega) ?_)); conv => whnf) | fail
        exact XAgainG.go (j + 1) [.cells (sgA ((((s.truths.getD i default).2.getD p default).2).getD j default)).cells] (by omega) (by omega) rfl ⟨rfl, rfl, rfl, rfl, rfl, rfl, rfl, rfl, rfl, (by show some (AV.int .i64 (ior .i64 _ _)) = _; rw [a2, hx]; rfl), rfl, trivial⟩
      · have hx := hmis (by rw [← Bool.not_eq_true, inZ_iff]; exact hin)
        repeat' first | ((first | (with_reducible apply XBr.tt) | (with_reducible apply XBr.ff)); conv => whnf) | ((with_reducible apply XBr.dec) <;> (intro h; first | (exfalso; omega) | ((try simp only [List.length_map] at h); first | (exfalso; omega) | (conv => whnf)))) | ((first | (with_reducible refine XInt.i64 (by omega) (by omega) ?_) | ((with_reducible refine XIx.nat ?_ ?_ ?_); omega; (intro _; rfl))); conv => whnf) | fail
        all_goals exact XAgainG.go (j + 1) [.cells (sgA ((((s.truths.getD i default).2.getD p default).2).getD j default)).cells] (by omega) (by omega) rfl ⟨rfl, rfl, rfl, rfl, rfl, rfl, rfl, rfl, rfl, (by rw [hx]; rfl), rfl, trivial⟩
    have hje := hje (by omega)
    rw [hje]
    repeat' first | ((with_reducible apply XBr.dec) <;> (intro h; first | (exfalso; omega) | ((try simp only [List.length_map] at h); first | (exfalso; omega) | (conv => whnf)))) | ((with_reducible refine XInt.i64 (by omega) (by omega) ?_); conv => whnf) | fail
    exact XAgainG.go (i + 1) [.cells [.sl (s.truths.getD i default).1 ((s.truths.getD i default).2.map spsA)]] (by omega) (by omega) rfl ⟨rfl, rfl, rfl, rfl, rfl, rfl, rfl, trivial⟩
  rw [hend (by omega)]
  repeat' first | ((with_reducible apply XBr.dec) <;> (intro h; first | (exfalso; omega) | ((try simp only [List.length_map] at h); first | (exfalso; omega) | (conv => whnf)))) | fail
  exact XOut.int rfl
theorem first_c (l : Nat) (hl : l < 16) : Comp Try.prog 19 [natA l] (natA (lowB l)) := by
  obtain ⟨f, hf⟩ : ∃ f : Nat, f = lowB l := ⟨_, rfl⟩
  have hlo : ∀ i, i < f → i < 4 → l.testBit i = false := fun i hi h4 => lowB_least ⟨l, hl⟩ ⟨i, h4⟩ (by rw [← hf]; exact hi)
  have hhi : l ≠ 0 → l.testBit f = true := fun h => by rw [hf]; exact (lowB_bit ⟨l, hl⟩ h).1
  have hf4 : f < 4 := by rw [hf]; exact lowB_lt l
  have h00 : l = 0 → f = 0 := fun h => by rw [hf, h]; rfl
  have hsh : ∀ i : Nat, i < 4 → iand .i64 ((l : Int).fdiv (2 ^ (min (i : Int).toNat IntKind.i64.bits))) 1 = if l.testBit i = true then 1 else 0 := fun i h4 => by
    rw [shr_nat (by omega)]
    have h1 : iand .i64 ((l / 2 ^ i : Nat) : Int) ((1 : Nat) : Int) = ((l / 2 ^ i &&& 1 : Nat) : Int) := iand_nat (by have := Nat.div_le_self l (2 ^ i); omega) (by omega)
    refine Eq.trans h1 ?_
    rw [Nat.and_one_is_mod, Nat.testBit_eq_decide_div_mod_eq]
    by_cases e : l / 2 ^ i % 2 = 1
    · rw [e, decide_eq_true rfl, if_pos rfl]; rfl
    · rw [decide_eq_false e, if_neg (by simp)]; omega
  rw [← hf]
  refine Comp.body (T := tab) (res := [.tmp 2]) tab_ok [] Try.func19 rfl (by kernel_rfl) Try.ntmps19 rfl (by simp only [List.length_cons, List.length_nil]; decide) (by simp only [lowL, AV.low, natA]; rfl) ?_; conv => whnf
  skip
  refine Walk.loopK tab_ok [] [(0, _)] ⟨rfl, trivial⟩ (fun i : Nat => i ≤ 4 ∧ ∀ j, j < i → l.testBit j = false) (fun i => [(4, natA i)]) (fun _ => []) (fun i => 4 - i) 0 ⟨by omega, fun j hj => by omega⟩ rfl ⟨rfl, trivial⟩ ?_
  rintro i ⟨hi, hI⟩
  conv => whnf
  by_cases hlt : i < 4
  · have hs := hsh i hlt
    cases hb : l.testBit i with
    | true =>
      have hfi : f = i := by
        rcases Nat.lt_trichotomy f i with h | h | h
        · have h1 := hI f h
          by_cases h0 : l = 0
          · rw [h0, Nat.zero_testBit] at hb; cases hb
          · rw [hhi h0] at h1; cases h1
        · exact h
        · rw [hlo i h hlt] at hb; cases hb
      rw [hb, if_pos rfl] at hs
      repeat' first | ((with_reducible apply XBr.dec) <;> (intro h; first | (exfalso; omega) | ((try simp only [List.length_map] at h); first | (exfalso; omega) | (conv => whnf)))) | ((with_reducible apply XBr.beq) <;> (intro h; first | (exfalso; omega) | (conv => whnf))) | ((with_reducible refine XHold.mk ?_ ?_); (first | omega | rfl | decide | exact ⟨rfl, by decide, rfl⟩ | exact wideI _ | exact widePr _ | exact wideSk _ | (unfold Room; constructor <;> ((try simp) <;> omega)) | exact ⟨rfl, by simp only [List.length_map], by unfold Room; constructor <;> ((try simp) <;> omega)⟩ | exact ⟨by omega, by omega, by unfold Room; constructor <;> ((try simp) <;> omega)⟩); conv => whnf) | fail
      exact XOut.int (by rw [hfi])
    | false =>
      rw [hb, if_neg (by simp)] at hs
      repeat' first | ((with_reducible apply XBr.dec) <;> (intro h; first | (exfalso; omega) | ((try simp only [List.length_map] at h); first | (exfalso; omega) | (conv => whnf)))) | ((with_reducible apply XBr.beq) <;> (intro h; first | (exfalso; omega) | (conv => whnf))) | ((with_reducible refine XInt.i64 (by omega) (by omega) ?_); conv => whnf) | ((with_reducible refine XHold.mk ?_ ?_); (first | omega | rfl | decide | exact ⟨rfl, by decide, rfl⟩ | exact wideI _ | exact widePr _ | exact wideSk _ | (unfold Room; constructor <;> ((try simp) <;> omega)) | exact ⟨rfl, by simp only [List.length_map], by unfold Room; constructor <;> ((try simp) <;> omega)⟩ | exact ⟨by omega, by omega, by unfold Room; constructor <;> ((try simp) <;> omega)⟩); conv => whnf) | (rw [hs]; conv => whnf) | fail
      refine XAgain.go (i + 1) ⟨by omega, fun j hj => ?_⟩ (by omega) rfl ⟨rfl, rfl, trivial⟩
      by_cases e : j = i
      · rw [e]; exact hb
      · exact hI j (by omega)
  have hz : l = 0 := by
    refine Classical.byContradiction fun h => ?_
    have := hhi h
    rw [hI f (by omega)] at this; cases this
  have := h00 hz
  repeat' first | ((with_reducible apply XBr.dec) <;> (intro h; first | (exfalso; omega) | ((try simp only [List.length_map] at h); first | (exfalso; omega) | (conv => whnf)))) | fail
  exact XOut.int (by omega)
end GA
end

section
namespace GA
open Go Go.RowKit Go.Proofs
set_option pp.deepTerms true
set_option maxRecDepth 8000
set_option linter.unusedVariables false
set_option linter.unusedSimpArgs false

theorem index_sta (nl : Bool) (xs : List Sta) (t : Sta) (hx : xs.length ≤ 100000) : Comp Try.prog 109 [.sl nl (xs.map staA), staA t] (.int .i64 (idxR (fun y => t == y) xs)) := by
  have e1 : ((xs.map staA).length : Int) = xs.length := by rw [List.length_map]
  refine Comp.body (T := tab) (res := [.tmp 4]) tab_ok [] Try.func109 rfl (by kernel_rfl) Try.ntmps109 rfl (by simp only [List.length_cons, List.length_nil]; decide) (by simp only [lowL, AV.low, lowSta, staL]; rfl) ?_; conv => whnf
  skip
  refine Walk.loopK tab_ok [] [(0, _), (3, _), (7, _)] ⟨rfl, rfl, rfl, trivial⟩ (fun i : Nat => i ≤ xs.length ∧ ∀ j, j < i → (t == xs.getD j default) = false) (fun i => [(8, natA i)]) (fun _ => []) (fun i => xs.length - i) 0 ⟨Nat.zero_le _, fun j hj => by omega⟩ rfl ⟨rfl, trivial⟩ ?_
  rintro i ⟨hi, hs⟩
  conv => whnf
  by_cases hlt : i < xs.length
  · have hbe2 : (([(t.p : Int), (t.m : Int), (t.l : Int)] : List Int) == [((xs.getD i default).p : Int), ((xs.getD i default).m : Int), ((xs.getD i default).l : Int)]) = (t == xs.getD i default) := by
      rw [Bool.eq_iff_iff, beq_iff_eq, beq_iff_eq]
      constructor
      · intro h
        simp only [List.cons.injEq, and_true] at h
        obtain ⟨h1, h2, h3⟩ := h
        generalize xs.getD i default = y at h1 h2 h3
        cases t; cases y; dsimp only at h1 h2 h3
        rw [Sta.mk.injEq]; omega
      · intro h; rw [h]
    cases hb : t == xs.getD i default with
    | true =>
      rw [hb] at hbe2
      repeat' first | ((with_reducible apply XBr.tt); conv => whnf) | ((with_reducible apply XBr.dec) <;> (intro h; first | (exfalso; omega) | ((try simp only [List.length_map] at h); first | (exfalso; omega) | (conv => whnf)))) | (((with_reducible refine XIx.nat ?_ ?_ ?_); omega; (intro _; rfl)); conv => whnf) | (with_reducible apply XAnd.mk) | ((first | (with_reducible apply Chk.go) | (with_reducible apply ChkA.go) | (with_reducible apply ChkF.go) | (with_reducible apply ChkB.go)); conv => whnf) | (exact XSame.mk rfl rfl) | (with_reducible exact trivial) | (apply Walk.drawN (id := 4) tab_ok mixed_ok [] [] (hsU _) [_, _, _, _, _, _] (by kernel_rfl) rfl) | ((with_reducible apply XNext.mk); conv => whnf) | ((refine XEqA.mk ⟨[_, _, _], [_, _, _], rfl, rfl, rfl, rfl, ?_⟩); exact XSame.mk (congrArg AV.bool hbe2) rfl) | fail
      refine XOut.int ?_
      simp only [idxR, find_some (d := default) (i := i) hlt hb hs]
    | false =>
      rw [hb] at hbe2
      repeat' first | ((with_reducible apply XBr.ff); conv => whnf) | ((with_reducible apply XBr.dec) <;> (intro h; first | (exfalso; omega) | ((try simp only [List.length_map] at h); first | (exfalso; omega) | (conv => whnf)))) | ((first | (with_reducible refine XInt.i64 (by omega) (by omega) ?_) | ((with_reducible refine XIx.nat ?_ ?_ ?_); omega; (intro _; rfl))); conv => whnf) | (with_reducible apply XAnd.mk) | ((first | (with_reducible apply Chk.go) | (with_reducible apply ChkA.go) | (with_reducible apply ChkF.go) | (with_reducible apply ChkB.go)); conv => whnf) | (exact XSame.mk rfl rfl) | (with_reducible exact trivial) | (apply Walk.drawN (id := 4) tab_ok mixed_ok [] [] (hsU _) [_, _, _, _, _, _] (by kernel_rfl) rfl) | ((with_reducible apply XNext.mk); conv => whnf) | ((refine XEqA.mk ⟨[_, _, _], [_, _, _], rfl, rfl, rfl, rfl, ?_⟩); exact XSame.mk (congrArg AV.bool hbe2) rfl) | fail
      refine XAgain.go (i + 1) ⟨by omega, fun j hj => ?_⟩ (by omega) rfl ⟨rfl, rfl, rfl, rfl, trivial⟩
      by_cases e : j = i
      · subst e; exact hb
      · exact hs j (by omega)
  obtain rfl : i = xs.length := by omega
  have hf := find_none (d := default) hs
  clear hs
  repeat' first | ((with_reducible apply XBr.dec) <;> (intro h; first | (exfalso; omega) | ((try simp only [List.length_map] at h); first | (exfalso; omega) | (conv => whnf)))) | fail
  refine XOut.int ?_
  simp only [idxR, hf]
theorem contains_sta (nl : Bool) (xs : List Sta) (t : Sta) (hx : xs.length ≤ 100000) : Comp Try.prog 41 [.sl nl (xs.map staA), staA t] (.bool (xs.contains t)) := by
  have hi := index_sta nl xs t hx
  have hc : decide (0 ≤ idxR (fun y => t == y) xs) = xs.contains t := by
    rw [Bool.eq_iff_iff, decide_eq_true_eq, idxR_pos, List.any_eq_true, List.contains_iff_mem]
    constructor
    · rintro ⟨y, hy, e⟩; rw [beq_iff_eq] at e; subst e; exact hy
    · intro h; exact ⟨t, h, by simp⟩
  generalize idxR (fun y => t == y) xs = v at hi hc
  refine Comp.body (T := tab) (res := [.tmp 4]) tab_ok [] Try.func41 rfl (by kernel_rfl) Try.ntmps41 rfl (by simp only [List.length_cons, List.length_nil]; decide) (by simp only [lowL, AV.low, lowSta, staL]; rfl) ?_; conv => whnf
  repeat' first | ((refine XCall.ret hi ?_); conv => whnf) | fail
  exact XOut.bool hc
theorem drv_len {s : Sn} {b : Nat} : ∀ {T : List (Int × Int)} {x : Sta} {L : List Sta}, drvS s b x T = some L → L.length = T.length
  | [], x, L, h => by cases h; rfl
  | t :: T, x, L, h => by
    rw [drvS] at h
    cases hf : (afterS s x t).find? fun y => y.l.testBit b with
    | none => rw [hf] at h; cases h
    | some y =>
      rw [hf] at h
      dsimp only at h
      cases hq : drvS s b y T with
      | none => rw [hq] at h; cases h
      | some L' =>
        rw [hq] at h
        cases h
        rw [List.length_cons, List.length_cons, drv_len hq]
theorem drv_chain {s : Sn} {b : Nat} : ∀ {T : List (Int × Int)} {x : Sta} {L : List Sta}, drvS s b x T = some L → ∀ i, i < T.length → (x :: L).getD (i + 1) default ∈ afterS s ((x :: L).getD i default) (T.getD i default) ∧ ((x :: L).getD (i + 1) default).l.testBit b = true
  | [], x, L, h, i, hi => by simp at hi
  | t :: T, x, L, h, i, hi => by
    rw [drvS] at h
    cases hf : (afterS s x t).find? fun y => y.l.testBit b with
    | none => rw [hf] at h; cases h
    | some y =>
      rw [hf] at h
      dsimp only at h
      cases hq : drvS s b y T with
      | none => rw [hq] at h; cases h
      | some L' =>
        rw [hq] at h
        cases h
        have hm := List.mem_of_find?_eq_some hf
        have hp := List.find?_some hf
        cases i with
        | zero => exact ⟨hm, hp⟩
        | succ i =>
          have := drv_chain hq i (by simpa using hi)
          exact this
theorem drv_safe {s : Sn} {b : Nat} {T : List (Int × Int)} {x : Sta} {L : List Sta} (h : drvS s b x T = some L) (hx : safeB s x = true) : ∀ i, i ≤ T.length → safeB s ((x :: L).getD i default) = true := by
  intro i hi
  cases i with
  | zero => exact hx
  | succ i => exact (afterS_mem (drv_chain h i hi).1).2.2.2.2.2.1
theorem drv_vld {s : Sn} (ok : SnOk s) {b : Nat} {T : List (Int × Int)} {x : Sta} {L : List Sta} (h : drvS s b x T = some L) (hx : vld s x ∧ x.l ≠ 0) : ∀ i, i ≤ T.length → vld s ((x :: L).getD i default) ∧ ((x :: L).getD i default).l ≠ 0 := by
  intro i hi
  cases i with
  | zero => exact hx
  | succ i =>
    have hm := (drv_chain h i hi).1
    refine ⟨afterS_vld ok hm, ?_⟩
    have := (afterS_mem hm).2.2.2.2.1
    exact (part_B ok this).1
theorem vld_stt {s : Sn} (ok : SnOk s) {y : Sta} (h : vld s y ∧ y.l ≠ 0) : sttE s y.p y.m y.l = 0 := by
  obtain ⟨⟨h1, h2, h3⟩, h4⟩ := h
  exact sttE_iff.2 ⟨ok, ⟨by omega, h1⟩, ⟨by omega, h2⟩, by omega, by omega⟩
def lawW (s : Sn) (p : Nat) : Nat → List (Int × Int)
  | 0 => [((p : Int), (1 : Int))]
  | k + 1 => (lawW s p k ++ if (s.ways.getD k default).1 = (p : Int) then [((s.ways.getD k default).2.1, (s.ways.getD k default).2.2)] else []) ++ if (s.ways.getD k default).2.1 = (p : Int) then [((s.ways.getD k default).1, (s.ways.getD k default).2.2)] else []
theorem lawW_pos (s : Sn) (p : Nat) : ∀ k, 0 < (lawW s p k).length ∧ (lawW s p k).length ≤ 2 * k + 1
  | 0 => by simp [lawW]
  | k + 1 => by
    have := lawW_pos s p k
    rw [lawW, List.length_append, List.length_append]
    split <;> split <;> simp only [List.length_cons, List.length_nil] <;> omega
theorem lawW_real {s : Sn} (ok : SnOk s) {p : Nat} (hp : (p : Int) < s.places) : ∀ {k : Nat}, k ≤ s.ways.length → ∀ t ∈ lawW s p k, (waysL s p).contains t = true
  | 0, _, t, ht => by
    rw [lawW, List.mem_singleton] at ht
    rw [real_ways ok hp, ht]
    unfold realB; rw [if_pos rfl]; rfl
  | k + 1, hk, t, ht => by
    have hm : s.ways.getD k default ∈ s.ways := getD_mem (by omega)
    have hne := agnI_ne ok hm
    rw [lawW] at ht
    rcases List.mem_append.1 ht with ht | ht
    · rcases List.mem_append.1 ht with ht | ht
      · exact lawW_real ok hp (by omega) t ht
      · split at ht
        · rename_i h
          rw [List.mem_singleton] at ht
          rw [real_ways ok hp, ht]
          unfold realB
          dsimp only
          rw [if_neg (by omega), List.any_eq_true]
          exact ⟨_, hm, by rw [Bool.and_eq_true, leadB_iff, beq_iff_eq]; exact ⟨.inl ⟨h, rfl⟩, rfl⟩⟩
        · cases ht
    · split at ht
      · rename_i h
        rw [List.mem_singleton] at ht
        rw [real_ways ok hp, ht]
        unfold realB
        dsimp only
        rw [if_neg (by omega), List.any_eq_true]
        exact ⟨_, hm, by rw [Bool.and_eq_true, leadB_iff, beq_iff_eq]; exact ⟨.inr ⟨rfl, h⟩, rfl⟩⟩
      · cases ht
theorem hpB_ok {nl : Bool} {bs : List Int} (h : bs.length < 9223372036854775808) : (hp0 nl bs).Ok := ⟨h, .inr rfl⟩
theorem XInt.shlL {α : Type} {f : α → AV} {xs : List α} {w : Nat} {k : AV → Prop} (hw : w = 2 ^ xs.length) (h : xs.length ≤ 62) (hk : k (natA w)) : XInt .i64 (1 * 2 ^ min (((xs.map f).length : Nat) : Int).toNat IntKind.i64.bits) k := by
  rw [List.length_map]; subst hw; exact XInt.shl h hk
theorem bit_sh {l i : Nat} (hl : l < 1000000) (hi : i ≤ 64) : iand .i64 ((l : Int).fdiv (2 ^ (min (i : Int).toNat IntKind.i64.bits))) 1 = if l.testBit i = true then 1 else 0 := by
  rw [shr_nat hi]
  have h1 : iand .i64 ((l / 2 ^ i : Nat) : Int) ((1 : Nat) : Int) = ((l / 2 ^ i &&& 1 : Nat) : Int) := iand_nat (by have := Nat.div_le_self l (2 ^ i); omega) (by omega)
  refine Eq.trans h1 ?_
  rw [Nat.and_one_is_mod, Nat.testBit_eq_decide_div_mod_eq]
  by_cases e : l / 2 ^ i % 2 = 1
  · rw [e, decide_eq_true rfl, if_pos rfl]; rfl
  · rw [decide_eq_false e, if_neg (by simp)]; omega
theorem st_eta (y : Sta) : stN (y.p : Int) (y.m : Int) (y.l : Int) = y := by cases y; rfl
theorem stt_vld {s : Sn} {p m l : Int} (h : sttE s p m l = 0) : vld s (stN p m l) := by
  obtain ⟨ok, h1, h2, h3, h4⟩ := sttE_iff.1 h
  exact ⟨by show ((p.toNat : Nat) : Int) < s.places; omega, by show ((m.toNat : Nat) : Int) ≤ s.last; omega, by show l.toNat ≤ allN s; omega⟩
end GA
end

section
namespace GA
open Go Go.RowKit Go.Proofs
set_option pp.deepTerms true
set_option maxRecDepth 8000
set_option linter.unusedVariables false
set_option linter.unusedSimpArgs false

theorem equal_sg (n1 n2 : Bool) (xs : List (Int × Int)) (hx : xs.length ≤ 100000) : Comp Try.prog 148 [.sl n1 (xs.map (sgA)), .sl n2 (xs.map (sgA))] (.bool true) := by
  refine Comp.body (T := tab) (res := [.tmp 4]) tab_ok [] Try.func148 rfl (by kernel_rfl) Try.ntmps148 rfl (by simp only [List.length_cons, List.length_nil]; decide) (by simp only [lowL, AV.low, lowSg]; rfl) ?_; conv => whnf
  repeat' first | ((with_reducible apply XBr.bne) <;> (intro h; first | (exfalso; omega) | (conv => whnf))) | fail
  refine Walk.loopK tab_ok [] [(0, _), (1, _), (12, _)] ⟨rfl, rfl, rfl, trivial⟩ (fun i : Nat => i ≤ xs.length) (fun i => [(13, natA i)]) (fun _ => []) (fun i => xs.length - i) 0 (Nat.zero_le _) rfl ⟨rfl, trivial⟩ ?_
  intro i hi
  conv => whnf
  have e1 : ((xs.map (sgA)).length : Int) = xs.length := by rw [List.length_map]
  by_cases hlt : i < xs.length
  · skip
    repeat' first | ((with_reducible apply XBr.ff); conv => whnf) | ((with_reducible apply XBr.dec) <;> (intro h; first | (exfalso; omega) | ((try simp only [List.length_map] at h); first | (exfalso; omega) | (conv => whnf)))) | ((first | (with_reducible refine XInt.i64 (by omega) (by omega) ?_) | ((with_reducible refine XIx.nat ?_ ?_ ?_); omega; (intro _; rfl))); conv => whnf) | (with_reducible apply XAnd.mk) | ((first | (with_reducible apply Chk.go) | (with_reducible apply ChkA.go) | (with_reducible apply ChkF.go) | (with_reducible apply ChkB.go)); conv => whnf) | (exact XSame.mk rfl rfl) | (with_reducible exact trivial) | (apply Walk.drawN (id := 6) tab_ok mixed_ok [] [] (hsU _) [_, _, _, _, _, _, _, _, _] (by kernel_rfl) rfl) | ((with_reducible apply XNext.mk); conv => whnf) | ((refine XEqA.mk ⟨[(xs.getD i default).1, (xs.getD i default).2], [(xs.getD i default).1, (xs.getD i default).2], rfl, rfl, rfl, rfl, ?_⟩); exact XSame.mk (show AV.bool (!(_ == _)) = AV.bool false by simp) rfl) | fail
    exact XAgain.go (i + 1) (by omega) (by omega) rfl ⟨rfl, rfl, rfl, rfl, trivial⟩
  obtain rfl : i = xs.length := by omega
  repeat' first | ((with_reducible apply XBr.dec) <;> (intro h; first | (exfalso; omega) | ((try simp only [List.length_map] at h); first | (exfalso; omega) | (conv => whnf)))) | fail
  exact XOut.bool rfl
theorem eq_sg (n1 n2 : Bool) (xs : List (Int × Int)) (hx : xs.length ≤ 100000) : Comp Try.prog 76 [.sl n1 (xs.map (sgA)), .sl n2 (xs.map (sgA))] (.bool true) := by
  refine Comp.body (T := tab) (res := [.tmp 4]) tab_ok [] Try.func76 rfl (by kernel_rfl) Try.ntmps76 rfl (by simp only [List.length_cons, List.length_nil]; decide) (by simp only [lowL, AV.low, lowSg]; rfl) ?_; conv => whnf
  repeat' first | ((refine XCall.ret (equal_sg n1 n2 xs hx) ?_); conv => whnf) | fail
  exact XOut.bool rfl
def threeS : Sn := ⟨3, 0, 2, 12, false, [(0, 1, 2), (1, 2, 2)], false, [(false, [0, 0, 0]), (false, [0, 0, 0])], false, [(false, [(false, [(0, 12)]), (false, [(0, 9)]), (false, [(0, 7)])]), (false, [(false, [(0, 12)]), (false, [(0, 6)]), (false, [(0, 5)])])]⟩
theorem three1_c (nl : Bool) (hi : List Int) (hh : hi.length ≤ 100) : Comp Try.prog 147 [.sl nl (ints hi)] (trA (hi.isEmpty, hi.map fun n => (false, [((0 : Int), n)]))) := by
  have e1 : ((ints hi).length : Int) = hi.length := by rw [ints_len]
  refine Comp.body (T := tab) (res := [.cell 2 58]) tab_ok [] Try.func147 rfl (by kernel_rfl) Try.ntmps147 rfl (by simp only [List.length_cons, List.length_nil]; decide) (by simp only [lowL, AV.low, lowI]; rfl) ?_; conv => whnf
  skip
  refine Walk.nilcell 1 0 55 rfl rfl ?_
  refine Walk.loopGK tab_ok [] [(2, _), (3, _), (6, _), (7, _)] ⟨rfl, rfl, rfl, rfl, trivial⟩ (fun k : Nat => k ≤ hi.length) (fun k => [(8, natA k)]) (fun k => [.cells [.sl true []], .cells [.gr 2 k], .grow 55 (hi.take k).isEmpty (((hi.take k).map fun n => ((false, [((0 : Int), n)]) : Sps)).map spsA)]) (fun k => hi.length - k) 0 (Nat.zero_le _) rfl ⟨rfl, trivial⟩ ?_ (fun _ _ => (show (3 : Nat) ≤ 3 from Nat.le_refl 3)) ?_
  · intro k _
    refine ⟨fun z hz => ?_, fun z hz => ?_⟩
    · simp only [List.mem_cons, List.not_mem_nil, or_false] at hz
      rcases hz with rfl | rfl | rfl <;> first | rfl | exact lowSps _
    · simp only [List.cons_append, List.nil_append, List.mem_cons, List.not_mem_nil, or_false] at hz
      rcases hz with rfl | rfl | rfl | rfl | rfl <;> first | rfl | exact lowI _
  intro k hk
  have hnx := fun h => take_next (xs := hi) (i := k) h
  have hall : k = hi.length → hi.take k = hi := fun h => by rw [h, List.take_length]
  have hkl : (hi.take k).length = k := by rw [List.length_take]; omega
  generalize hi.take k = R at hnx hall hkl
  have hRl : ((R.map fun n => ((false, [((0 : Int), n)]) : Sps)).map spsA).length = k := by rw [List.length_map, List.length_map]; exact hkl
  conv => whnf
  by_cases hlt : k < hi.length
  · skip
    repeat' first | ((with_reducible apply XBr.dec) <;> (intro h; first | (exfalso; omega) | ((try simp only [List.length_map] at h); first | (exfalso; omega) | (conv => whnf)))) | ((with_reducible refine XInt.i64 (by omega) (by omega) ?_); conv => whnf) | ((with_reducible refine XHold.mk ?_ ?_); (first | omega | rfl | decide | exact ⟨rfl, by decide, rfl⟩ | exact wideI _ | exact widePr _ | exact wideSk _ | (unfold Room; constructor <;> ((try simp) <;> omega)) | exact ⟨rfl, by simp only [List.length_map], by unfold Room; constructor <;> ((try simp) <;> omega)⟩ | exact ⟨by omega, by omega, by unfold Room; constructor <;> ((try simp) <;> omega)⟩); conv => whnf) | (((with_reducible refine XIx.nat ?_ ?_ ?_); omega; (intro _; rfl)); conv => whnf) | fail
    refine XAgainG.go (k + 1) [] (by omega) (by omega) ?_ ⟨rfl, rfl, rfl, rfl, rfl, trivial⟩
    show [Blk.cells _, Blk.cells _, Blk.grow _ (hi.take (k + 1)).isEmpty (((hi.take (k + 1)).map fun n => ((false, [((0 : Int), n)]) : Sps)).map spsA)] ++ [] = _
    rw [hnx hlt, isEmpty_app, List.map_append, List.map_append]; rfl
  obtain rfl : k = hi.length := by omega
  obtain rfl := hall rfl
  repeat' first | ((with_reducible apply XBr.dec) <;> (intro h; first | (exfalso; omega) | ((try simp only [List.length_map] at h); first | (exfalso; omega) | (conv => whnf)))) | fail
  exact ⟨Froz.agg (one1 rfl) (.cons (Froz.grow rfl hRl (lowSps _)) .nil)⟩
theorem three_c : Comp Try.prog 75 [] (snA threeS) := by
  have h1 := three1_c false [12, 9, 7] (by decide)
  have h2 := three1_c false [12, 6, 5] (by decide)
  refine Comp.body (T := tab) (res := [.cell 0 27]) tab_ok [] Try.func75 rfl (by kernel_rfl) Try.ntmps75 rfl (by simp only [List.length_cons, List.length_nil]; decide) (by rfl) ?_; conv => whnf
  repeat' first | ((with_reducible refine XHold.mk ?_ ?_); (first | omega | rfl | decide | exact ⟨rfl, by decide, rfl⟩ | exact wideI _ | exact widePr _ | exact wideSk _ | (unfold Room; constructor <;> ((try simp) <;> omega)) | exact ⟨rfl, by simp only [List.length_map], by unfold Room; constructor <;> ((try simp) <;> omega)⟩ | exact ⟨by omega, by omega, by unfold Room; constructor <;> ((try simp) <;> omega)⟩); conv => whnf) | ((first | (refine XCall.ret h1 ?_) | (refine XCall.ret h2 ?_)); conv => whnf) | fail
  exact ⟨Froz.low (snL threeS)⟩
theorem threeB : SnB threeS := ⟨by decide, by decide, by decide, by decide, by decide, by decide⟩
theorem threeOk : SnOk threeS := snE_iff.1 (by decide +kernel)
theorem awake02_c : Comp Try.prog 22 [] (.bool true) := by
  have h0 := three_c
  have h1 := fTurn_ok threeS threeB 1 threeOk (by decide) (by decide +kernel)
  have t1 : turnN threeS 1 = 7 := by decide +kernel
  rw [t1] at h1
  have h2 := fDry_c threeS threeB 1 7
  rw [show dryE threeS 1 7 = 0 by decide +kernel, show (if (0 : Int) = 0 then drN threeS (1 : Int).toNat (7 : Int).toNat else 0) = 1 by decide +kernel] at h2
  have h3 := fSteps_ok threeS threeB 1 2 3 (by decide +kernel)
  rw [show stepsS threeS (stN 1 2 3) = [(0, 2), (1, 1), (2, 2)] by decide +kernel] at h3
  have h4 := fFixed_ok threeS threeB threeOk 0 (by decide) false [(1, 2), (2, 2), (2, 1), (1, 2), (0, 2)] (by decide)
  rw [show fixR threeS ((0 : Nat) : Int) [(1, 2), (2, 2), (2, 1), (1, 2), (0, 2)] = (1, 1) by decide +kernel, if_neg (by decide +kernel)] at h4
  have h5 := eq_sg false false [(0, 2), (1, 1), (2, 2)] (by decide)
  refine Comp.body (T := tab) (res := [.tmp 0]) tab_ok [] Try.func22 rfl (by kernel_rfl) Try.ntmps22 rfl (by simp only [List.length_cons, List.length_nil]; decide) (by rfl) ?_; conv => whnf
  repeat' first | ((with_reducible refine XHold.mk ?_ ?_); (first | omega | rfl | decide | exact ⟨rfl, by decide, rfl⟩ | exact wideI _ | exact widePr _ | exact wideSk _ | (unfold Room; constructor <;> ((try simp) <;> omega)) | exact ⟨rfl, by simp only [List.length_map], by unfold Room; constructor <;> ((try simp) <;> omega)⟩ | exact ⟨by omega, by omega, by unfold Room; constructor <;> ((try simp) <;> omega)⟩); conv => whnf) | ((first | (refine XCall.ret h0 ?_) | (refine XCall.ret h1 ?_) | (refine XCall.ret h2 ?_) | (refine XCall.ret h3 ?_) | (refine XCall.ret h4 ?_)); conv => whnf) | fail
  refine Walk.norm tab_ok [] [(1, _), (2, _), (3, _), (4, _), (5, _), (6, _), (7, _), (8, _), (9, _)] ⟨rfl, rfl, rfl, rfl, rfl, rfl, rfl, rfl, rfl, trivial⟩ ?_
  conv => whnf
  repeat' first | ((with_reducible apply XBr.tt); conv => whnf) | ((with_reducible apply XBr.beq) <;> (intro h; first | (exfalso; omega) | (conv => whnf))) | ((with_reducible refine XHold.mk ?_ ?_); (first | omega | rfl | decide | exact ⟨rfl, by decide, rfl⟩ | exact wideI _ | exact widePr _ | exact wideSk _ | (unfold Room; constructor <;> ((try simp) <;> omega)) | exact ⟨rfl, by simp only [List.length_map], by unfold Room; constructor <;> ((try simp) <;> omega)⟩ | exact ⟨by omega, by omega, by unfold Room; constructor <;> ((try simp) <;> omega)⟩); conv => whnf) | ((refine XCall.ret h5 ?_); conv => whnf) | fail
  exact ⟨.low rfl⟩
end GA
end

section
namespace GA
open Go Go.RowKit Go.Proofs
set_option pp.deepTerms true
set_option maxRecDepth 8000
set_option linter.unusedVariables false
set_option linter.unusedSimpArgs false

structure DrG where
  i : Nat
  T : List (Int × Int)
  p : Nat
  m : Nat
  w : Nat
  a : Nat
  q : Hp
structure DrOk (s : Sn) (N : Int) (g : DrG) : Prop where
  i : (g.i : Int) ≤ N
  q : g.q.Ok
  f : fixS s s.home.toNat 0 (drN s s.home.toNat 0) 0 g.T = some (g.p, g.m, g.a, g.w)
  p : (g.p : Int) < s.places
  m : (g.m : Int) ≤ s.last
  l : g.T.length ≤ g.i
  t : ∀ t ∈ g.T, 1 ≤ t.2 ∧ t.2 ≤ 20
  w : g.w ≤ g.i
  a : g.a < 16
set_option maxHeartbeats 8000000 in
theorem fordDriven_c (n1 n2 : Bool) (xs ys : List Int) (hx : xs.length < 9223372036854775808) (hy : ys.length < 9223372036854775808) :
    Comp Try.prog 6 [.sl n1 (bytes xs), .sl n2 (bytes ys)] (.bool true) := by
  have hmk := fordMade_c (hp0 n1 xs) 30 (hpB_ok hx) (by omega) (by omega)
  have hq0 := hpB_ok (nl := n2) hy
  refine Comp.body (T := tab) (res := [.tmp 4]) tab_ok [] Try.func6 rfl (by kernel_rfl) Try.ntmps6 rfl (by simp only [List.length_cons, List.length_nil]; decide) (by simp only [lowL, AV.low, lowBy]; rfl) ?_; conv => whnf
  repeat' first | (refine XCall.inl (T := tab) (res := [.tmp 2]) tab_ok [5] Try.func13 rfl (by kernel_rfl) Try.ntmps13 rfl (by simp only [List.length_append, List.length_cons, List.length_nil]; decide) ?_; conv => whnf) | fail
  refine XCall.hpE (j := 0) hmk rfl ?_
  rintro _ u1 ⟨s, rfl, mk, ou1⟩
  have ok := mk.ok
  have hb := mk.b
  have h1 := ok.h1; have b1 := ok.b1; have p2 := ok.p2; have l1 := ok.l1; have l2 := ok.l2; have t1 := ok.t1; have t2 := ok.t2
  have hh := mk.h
  have hal := allN_lt ok
  have e3 : ((s.truths.map trA).length : Int) = s.truths.length := by rw [List.length_map]
  have hpw : 2 ^ s.truths.length ≤ 2 ^ 4 := Nat.pow_le_pow_right (by omega) t2
  have hpw1 : 2 ^ 1 ≤ 2 ^ s.truths.length := Nat.pow_le_pow_right (by omega) t1
  have hall : allN s = 2 ^ s.truths.length - 1 := rfl
  obtain ⟨w, hw⟩ : ∃ w : Nat, w = 2 ^ s.truths.length := ⟨_, rfl⟩
  rw [← hw] at hpw hpw1 hall
  obtain ⟨z, q1, hz, oq1, hd1⟩ := upto_e (hp0 n2 ys) ((w : Int) - 2) hq0 (by omega) (by omega)
  have hld := lawDry_c s hb ok s.home.toNat 0 (by omega)
  have hld' : Comp Try.prog 18 [snA s, .int .i64 s.home, .int .i64 0] (natA (drN s s.home.toNat 0)) := by
    rw [show natA s.home.toNat = .int .i64 s.home by unfold natA; rw [Int.toNat_of_nonneg h1.1]] at hld
    exact hld
  obtain ⟨N, q2, hN, oq2, hd2⟩ := upto_e q1 8 oq1 (by omega) (by omega)
  conv => whnf
  repeat' first | (refine XCall.inl (T := tab) (res := [.tmp 2]) tab_ok [5] Try.func13 rfl (by kernel_rfl) Try.ntmps13 rfl (by simp only [List.length_append, List.length_cons, List.length_nil]; decide) ?_; conv => whnf) | fail
  refine Walk.heapE [hpC u1, .cells (snC s), hpC (hp0 n2 ys)] rfl ?_
  refine Walk.place ?_
  apply Walk.drawX tab_ok mixed_ok [] [8, 11, 12] (fun fl => match fl with
    | [a, b, c] => [hpC u1, .cells (snC s), (bif a then hpC q1 else hpC (hp0 n2 ys)), (bif b then .cells (bif c then [.int .i64 s.home, .int .i64 0, .int .i64 (1 + z)] else [.int .i64 0, .int .i64 0, .int .i64 0]) else .free)]
    | _ => []) [_, _, _, _, _, _, _, _, _, _, _, .ptr 3 0, _] (by kernel_rfl) rfl
  · skip
    repeat' first | ((with_reducible refine XInt.i64 (by omega) (by omega) ?_); conv => whnf) | ((with_reducible refine XHold.mk ?_ ?_); (first | omega | rfl | decide | exact ⟨rfl, by decide, rfl⟩ | exact wideI _ | exact widePr _ | exact wideSk _ | (unfold Room; constructor <;> ((try simp) <;> omega)) | exact ⟨rfl, by simp only [List.length_map], by unfold Room; constructor <;> ((try simp) <;> omega)⟩ | exact ⟨by omega, by omega, by unfold Room; constructor <;> ((try simp) <;> omega)⟩); conv => whnf) | (with_reducible apply XAnd.mk) | ((first | (with_reducible apply Chk.go) | (with_reducible apply ChkA.go)); conv => whnf) | (exact XSame.mk rfl rfl) | (with_reducible exact trivial) | ((first | (refine XInt.shlL hw (by omega) ?_) | (refine XCall.hp (j := 2) hd1 rfl rfl ?_)); conv => whnf) | ((refine XFree.at 3 rfl ?_); (conv => whnf); exact XSame.mk rfl rfl) | fail
  · skip
    repeat' first | ((with_reducible refine XInt.i64 (by omega) (by omega) ?_); conv => whnf) | ((with_reducible refine XHold.mk ?_ ?_); (first | omega | rfl | decide | exact ⟨rfl, by decide, rfl⟩ | exact wideI _ | exact widePr _ | exact wideSk _ | (unfold Room; constructor <;> ((try simp) <;> omega)) | exact ⟨rfl, by simp only [List.length_map], by unfold Room; constructor <;> ((try simp) <;> omega)⟩ | exact ⟨by omega, by omega, by unfold Room; constructor <;> ((try simp) <;> omega)⟩); conv => whnf) | (with_reducible apply XAnd.mk) | ((first | (with_reducible apply Chk.go) | (with_reducible apply ChkF.go) | (with_reducible apply ChkB.go)); conv => whnf) | (exact XSame.mk rfl rfl) | (with_reducible exact trivial) | ((first | (refine XInt.shlL hw (by omega) ?_) | (refine XCall.hp (j := 2) hd1 rfl rfl ?_)); conv => whnf) | ((refine XFree.at 3 rfl ?_); (conv => whnf); exact XSame.mk rfl rfl) | fail
  conv => whnf
  repeat' first | ((first | (refine XCall.ret hld' ?_) | (refine XCall.hp (j := 2) hd2 rfl rfl ?_)); conv => whnf) | fail
  refine Walk.nilgr 8 41 rfl ?_
  refine Walk.thenKeep ?_
  refine Walk.heapE [hpC u1, .cells (snC s), hpC q2, .cells [.int .i64 s.home, .int .i64 0, .int .i64 (1 + z)], .grow 41 true []] rfl ?_
  refine Walk.loopGK tab_ok [] [(5, _), (6, _), (7, _), (48, _)] ⟨rfl, rfl, rfl, rfl, trivial⟩ (DrOk s N) (fun g => [(8, .gr 4 g.T.length), (9, natA g.p), (10, natA g.m), (11, natA g.w), (12, natA g.a), (49, natA g.i)]) (fun g => [hpC u1, .cells (snC s), hpC g.q, .cells [.int .i64 s.home, .int .i64 0, .int .i64 (1 + z)], .grow 41 g.T.isEmpty (g.T.map sgA)]) (fun g => N.toNat - g.i) ⟨0, [], s.home.toNat, 0, 0, drN s s.home.toNat 0, q2⟩ ⟨by dsimp only; omega, oq2, rfl, by dsimp only; omega, by dsimp only; omega, Nat.le_refl _, by simp, Nat.le_refl _, by dsimp only; exact drN_lt ok _ _⟩ rfl ⟨rfl, (by show some (AV.int .i64 s.home) = some (natA s.home.toNat); unfold natA; rw [Int.toNat_of_nonneg h1.1]), rfl, rfl, rfl, rfl, trivial⟩ ?_ (fun _ _ => (show (5 : Nat) ≤ 5 from Nat.le_refl 5)) ?_
  · intro g _
    refine ⟨fun z hz => ?_, fun z hz => ?_⟩
    · simp only [List.mem_cons, List.not_mem_nil, or_false] at hz
      rcases hz with rfl | rfl | rfl | rfl | rfl <;> first | exact hpC_low _ | exact snCL s | rfl | exact lowSg _
    · simp only [List.cons_append, List.nil_append, List.mem_cons, List.not_mem_nil, or_false] at hz
      rcases hz with rfl | rfl | rfl | rfl | rfl | rfl | rfl | rfl | rfl | rfl <;> rfl
  rintro ⟨i, T, p, m, wk, a, q⟩ hG
  obtain ⟨hi, oq, hfx, hp, hm, hTl, hTt, hwk, ha⟩ := hG
  dsimp only at hi oq hfx hp hm hTl hTt hwk ha ⊢
  have hTm : (T.map sgA).length = T.length := List.length_map _
  conv => whnf
  by_cases hlt : (i : Int) < N
  · skip
    repeat' first | ((with_reducible apply XBr.dec) <;> (intro h; first | (exfalso; omega) | ((try simp only [List.length_map] at h); first | (exfalso; omega) | (conv => whnf)))) | ((with_reducible refine XHold.mk ?_ ?_); (first | omega | rfl | decide | exact ⟨rfl, by decide, rfl⟩ | exact wideI _ | exact widePr _ | exact wideSk _ | (unfold Room; constructor <;> ((try simp) <;> omega)) | exact ⟨rfl, by simp only [List.length_map], by unfold Room; constructor <;> ((try simp) <;> omega)⟩ | exact ⟨by omega, by omega, by unfold Room; constructor <;> ((try simp) <;> omega)⟩); conv => whnf) | fail
    have hwl := ok.w1
    have e4 : ((s.ways.map wyA).length : Int) = s.ways.length := by rw [List.length_map]
    refine Walk.loopGK tab_ok [] [(5, _), (6, _), (7, _), (8, _), (9, _), (10, _), (11, _), (12, _), (48, _), (49, _), (57, _), (58, _)] ⟨rfl, rfl, rfl, rfl, rfl, rfl, rfl, rfl, rfl, rfl, rfl, rfl, trivial⟩ (fun k : Nat => k ≤ s.ways.length) (fun k => [(13, .gr 5 (lawW s p k).length), (59, natA k)]) (fun k => [hpC u1, .cells (snC s), hpC q, .cells [.int .i64 s.home, .int .i64 0, .int .i64 (1 + z)], .grow 41 T.isEmpty (T.map sgA), .grow 41 false ((lawW s p k).map sgA)]) (fun k => s.ways.length - k) 0 (Nat.zero_le _) rfl ⟨rfl, rfl, trivial⟩ ?_ (fun _ _ => (show (6 : Nat) ≤ 6 from Nat.le_refl 6)) ?_
    · intro k _
      refine ⟨fun z hz => ?_, fun z hz => ?_⟩
      · simp only [List.mem_cons, List.not_mem_nil, or_false] at hz
        rcases hz with rfl | rfl | rfl | rfl | rfl | rfl <;> first | exact hpC_low _ | exact snCL s | rfl | exact lowSg _
      · simp only [List.cons_append, List.nil_append, List.mem_cons, List.not_mem_nil, or_false] at hz
        rcases hz with rfl | rfl | rfl | rfl | rfl | rfl | rfl | rfl | rfl | rfl | rfl | rfl | rfl | rfl <;> first | rfl | exact lowWy _
    intro k hk
    have hnx : lawW s p (k + 1) = (lawW s p k ++ if (s.ways.getD k default).1 = (p : Int) then [((s.ways.getD k default).2.1, (s.ways.getD k default).2.2)] else []) ++ if (s.ways.getD k default).2.1 = (p : Int) then [((s.ways.getD k default).1, (s.ways.getD k default).2.2)] else [] := rfl
    have hWl := lawW_pos s p k
    have hWr := lawW_real ok hp hk
    generalize lawW s p k = W at hnx hWl hWr
    have hWm : (W.map sgA).length = W.length := List.length_map _
    conv => whnf
    by_cases hlt2 : k < s.ways.length
    · by_cases c1 : (s.ways.getD k default).1 = (p : Int)
      · by_cases c2 : (s.ways.getD k default).2.1 = (p : Int)
        · exact absurd (c1.trans c2.symm) (agnI_ne ok (getD_mem hlt2))
        · rw [if_pos c1, if_neg c2, List.append_nil] at hnx
          repeat' first | ((with_reducible apply XBr.dec) <;> (intro h; first | (exfalso; omega) | ((try simp only [List.length_map] at h); first | (exfalso; omega) | (conv => whnf)))) | ((with_reducible apply XBr.beq) <;> (intro h; first | (exfalso; omega) | (conv => whnf))) | ((with_reducible refine XInt.i64 (by omega) (by omega) ?_); conv => whnf) | ((with_reducible refine XHold.mk ?_ ?_); (first | omega | rfl | decide | exact ⟨rfl, by decide, rfl⟩ | exact wideI _ | exact widePr _ | exact wideSk _ | (unfold Room; constructor <;> ((try simp) <;> omega)) | exact ⟨rfl, by simp only [List.length_map], by unfold Room; constructor <;> ((try simp) <;> omega)⟩ | exact ⟨by omega, by omega, by unfold Room; constructor <;> ((try simp) <;> omega)⟩); conv => whnf) | ((first | ((with_reducible refine XIx.nat ?_ ?_ ?_); omega; (intro _; rfl)) | ((with_reducible refine XArr.ptr ?_ ?_ ?_); omega; omega)); conv => whnf) | fail
          refine XAgainG.go (k + 1) [.cells (wyA (s.ways.getD k default)).cells] (by omega) (by omega) ?_ ⟨rfl, rfl, rfl, rfl, rfl, rfl, rfl, rfl, rfl, rfl, rfl, rfl, (by rw [hnx, List.length_append]; rfl), rfl, trivial⟩
          rw [hnx, List.map_append]; rfl
      · by_cases c2 : (s.ways.getD k default).2.1 = (p : Int)
        · rw [if_neg c1, if_pos c2, List.append_nil] at hnx
          repeat' first | ((with_reducible apply XBr.dec) <;> (intro h; first | (exfalso; omega) | ((try simp only [List.length_map] at h); first | (exfalso; omega) | (conv => whnf)))) | ((with_reducible apply XBr.beq) <;> (intro h; first | (exfalso; omega) | (conv => whnf))) | ((with_reducible refine XInt.i64 (by omega) (by omega) ?_); conv => whnf) | ((with_reducible refine XHold.mk ?_ ?_); (first | omega | rfl | decide | exact ⟨rfl, by decide, rfl⟩ | exact wideI _ | exact widePr _ | exact wideSk _ | (unfold Room; constructor <;> ((try simp) <;> omega)) | exact ⟨rfl, by simp only [List.length_map], by unfold Room; constructor <;> ((try simp) <;> omega)⟩ | exact ⟨by omega, by omega, by unfold Room; constructor <;> ((try simp) <;> omega)⟩); conv => whnf) | ((first | ((with_reducible refine XIx.nat ?_ ?_ ?_); omega; (intro _; rfl)) | ((with_reducible refine XArr.ptr ?_ ?_ ?_); omega; omega)); conv => whnf) | fail
          refine XAgainG.go (k + 1) [.cells (wyA (s.ways.getD k default)).cells] (by omega) (by omega) ?_ ⟨rfl, rfl, rfl, rfl, rfl, rfl, rfl, rfl, rfl, rfl, rfl, rfl, (by rw [hnx, List.length_append]; rfl), rfl, trivial⟩
          rw [hnx, List.map_append]; rfl
        · rw [if_neg c1, if_neg c2, List.append_nil, List.append_nil] at hnx
          repeat' first | ((with_reducible apply XBr.dec) <;> (intro h; first | (exfalso; omega) | ((try simp only [List.length_map] at h); first | (exfalso; omega) | (conv => whnf)))) | ((with_reducible apply XBr.beq) <;> (intro h; first | (exfalso; omega) | (conv => whnf))) | ((first | (with_reducible refine XInt.i64 (by omega) (by omega) ?_) | ((with_reducible refine XIx.nat ?_ ?_ ?_); omega; (intro _; rfl)) | ((with_reducible refine XArr.ptr ?_ ?_ ?_); omega; omega)); conv => whnf) | fail
          refine XAgainG.go (k + 1) [.cells (wyA (s.ways.getD k default)).cells] (by omega) (by omega) ?_ ⟨rfl, rfl, rfl, rfl, rfl, rfl, rfl, rfl, rfl, rfl, rfl, rfl, (by rw [hnx]; rfl), rfl, trivial⟩
          rw [hnx]; rfl
    clear hnx
    obtain ⟨y, q', hy, oq', hd⟩ := upto_e q ((W.length : Int) - 1) oq (by omega) (by omega)
    have hyl : y.toNat < W.length := by omega
    have htw := hWr _ (getD_mem (d := default) hyl)
    have htp := waysL_pos ok (List.contains_iff_mem.1 htw)
    have hWt : (W.map sgA).getD y.toNat default = sgA (W.getD y.toNat default) := by
      rw [List.getD_eq_getElem?_getD, List.getD_eq_getElem?_getD, List.getElem?_map, List.getElem?_eq_getElem hyl]; rfl
    generalize ht : W.getD y.toNat default = t at htw htp hWt
    have hld := lawDry_c s hb ok t.1.toNat ((m : Int) + t.2).toNat (by omega)
    have hld' : Comp Try.prog 18 [snA s, .int .i64 t.1, .int .i64 ((m : Int) + t.2)] (natA (drN s t.1.toNat ((m : Int) + t.2).toNat)) := by
      rw [show natA t.1.toNat = .int .i64 t.1 by unfold natA; rw [Int.toNat_of_nonneg (by omega)], show natA ((m : Int) + t.2).toNat = .int .i64 ((m : Int) + t.2) by unfold natA; rw [Int.toNat_of_nonneg (by omega)]] at hld
      exact hld
    have hdl := drN_lt ok t.1.toNat ((m : Int) + t.2).toNat
    have hand : iand .i64 (a : Int) (drN s t.1.toNat ((m : Int) + t.2).toNat : Int) = ((a &&& drN s t.1.toNat ((m : Int) + t.2).toNat : Nat) : Int) := iand_nat (by omega) (by omega)
    by_cases hst : (m : Int) + t.2 ≤ s.last
    · have hf1 : fixS s s.home.toNat 0 (drN s s.home.toNat 0) 0 (T ++ [t]) = some (t.1.toNat, ((m : Int) + t.2).toNat, a &&& drN s t.1.toNat ((m : Int) + t.2).toNat, if (p : Int) = s.bed ∧ t.1 = p then wk + 1 else wk) := by
        rw [fixS_app hfx, fixS, if_pos ⟨htw, hst⟩]; rfl
      obtain ⟨wn, hwn⟩ : ∃ wn : Nat, wn = if (p : Int) = s.bed ∧ t.1 = p then wk + 1 else wk := ⟨_, rfl⟩
      rw [← hwn] at hf1
      have hG' : DrOk s N ⟨i + 1, T ++ [t], t.1.toNat, ((m : Int) + t.2).toNat, wn, a &&& drN s t.1.toNat ((m : Int) + t.2).toNat, q'⟩ := ⟨by dsimp only; omega, oq', hf1, by dsimp only; omega, by dsimp only; omega, by dsimp only; rw [List.length_append, List.length_singleton]; omega, fun t' ht' => by
        rcases List.mem_append.1 ht' with ht' | ht'
        · exact hTt t' ht'
        · rw [List.mem_singleton] at ht'; rw [ht']; omega, by dsimp only; rw [hwn]; split <;> omega, by dsimp only; exact Nat.lt_of_le_of_lt Nat.and_le_left ha⟩
      by_cases cw : (p : Int) = s.bed ∧ t.1 = p
      · rw [if_pos cw] at hwn
        have cw1 := cw.1
        have cw2 := cw.2
        repeat' first | ((with_reducible apply XBr.tt); conv => whnf) | ((with_reducible apply XBr.dec) <;> (intro h; first | (exfalso; omega) | ((try simp only [List.length_map] at h); first | (exfalso; omega) | (conv => whnf)))) | ((with_reducible apply XBr.beq) <;> (intro h; first | (exfalso; omega) | (conv => whnf))) | ((with_reducible refine XInt.i64 (by omega) (by omega) ?_); conv => whnf) | ((with_reducible refine XHold.mk ?_ ?_); (first | omega | rfl | decide | exact ⟨rfl, by decide, rfl⟩ | exact wideI _ | exact widePr _ | exact wideSk _ | (unfold Room; constructor <;> ((try simp) <;> omega)) | exact ⟨rfl, by simp only [List.length_map], by unfold Room; constructor <;> ((try simp) <;> omega)⟩ | exact ⟨by omega, by omega, by unfold Room; constructor <;> ((try simp) <;> omega)⟩); conv => whnf) | (with_reducible apply XAnd.mk) | ((first | (with_reducible apply Chk.go) | (with_reducible apply ChkA.go) | (with_reducible apply ChkF.go) | (with_reducible apply ChkB.go)); conv => whnf) | (exact XSame.mk rfl rfl) | (with_reducible exact trivial) | (apply Walk.drawN (id := 23) tab_ok mixed_ok [] [3] (hsC [_, _]) [_, _, _, _, _, _, _, _, _, _, _, _, _] (by kernel_rfl) rfl) | ((first | (with_reducible apply XNext.mk) | (refine XCall.hp (j := 2) hd rfl rfl ?_) | (refine XHold.mk ⟨hWm, rfl, by omega, by omega⟩ ?_) | (refine XGet.to (sgA t) hWm.symm hyl hWt ?_) | (refine XCall.ret hld' ?_)); conv => whnf) | fail
        all_goals
          refine XAgainG.go _ [.grow 41 false (W.map sgA), .cells (sgA t).cells] hG' (by dsimp only; omega) ?_ ⟨rfl, rfl, rfl, rfl, (by rw [List.length_append]; rfl), (by show some (AV.int .i64 t.1) = some (natA t.1.toNat); unfold natA; rw [Int.toNat_of_nonneg (by omega)]), (by show some (AV.int .i64 ((m : Int) + t.2)) = some (natA ((m : Int) + t.2).toNat); unfold natA; rw [Int.toNat_of_nonneg (by omega)]), (by rw [hwn]; rfl), (by show some (AV.int .i64 (iand .i64 _ _)) = _; rw [hand]; rfl), rfl, trivial⟩
          dsimp only
          rw [isEmpty_app, List.map_append]; rfl
      · rw [if_neg cw] at hwn
        repeat' first | ((first | (with_reducible apply XBr.tt) | (with_reducible apply XBr.ff)); conv => whnf) | ((with_reducible apply XBr.dec) <;> (intro h; first | (exfalso; omega) | ((try simp only [List.length_map] at h); first | (exfalso; omega) | (conv => whnf)))) | ((with_reducible apply XBr.beq) <;> (intro h; first | (exfalso; omega) | (conv => whnf))) | ((with_reducible refine XInt.i64 (by omega) (by omega) ?_); conv => whnf) | ((with_reducible refine XHold.mk ?_ ?_); (first | omega | rfl | decide | exact ⟨rfl, by decide, rfl⟩ | exact wideI _ | exact widePr _ | exact wideSk _ | (unfold Room; constructor <;> ((try simp) <;> omega)) | exact ⟨rfl, by simp only [List.length_map], by unfold Room; constructor <;> ((try simp) <;> omega)⟩ | exact ⟨by omega, by omega, by unfold Room; constructor <;> ((try simp) <;> omega)⟩); conv => whnf) | (with_reducible apply XAnd.mk) | ((first | (with_reducible apply Chk.go) | (with_reducible apply ChkA.go) | (with_reducible apply ChkF.go) | (with_reducible apply ChkB.go)); conv => whnf) | (exact XSame.mk rfl rfl) | (with_reducible exact trivial) | (apply Walk.drawN (id := 23) tab_ok mixed_ok [] [3] (hsC [_, _]) [_, _, _, _, _, _, _, _, _, _, _, _, _] (by kernel_rfl) rfl) | ((first | (with_reducible apply XNext.mk) | (refine XCall.hp (j := 2) hd rfl rfl ?_) | (refine XHold.mk ⟨hWm, rfl, by omega, by omega⟩ ?_) | (refine XGet.to (sgA t) hWm.symm hyl hWt ?_) | (refine XCall.ret hld' ?_)); conv => whnf) | fail
        all_goals
          refine XAgainG.go _ [.grow 41 false (W.map sgA), .cells (sgA t).cells] hG' (by dsimp only; omega) ?_ ⟨rfl, rfl, rfl, rfl, (by rw [List.length_append]; rfl), (by show some (AV.int .i64 t.1) = some (natA t.1.toNat); unfold natA; rw [Int.toNat_of_nonneg (by omega)]), (by show some (AV.int .i64 ((m : Int) + t.2)) = some (natA ((m : Int) + t.2).toNat); unfold natA; rw [Int.toNat_of_nonneg (by omega)]), (by rw [hwn]; rfl), (by show some (AV.int .i64 (iand .i64 _ _)) = _; rw [hand]; rfl), rfl, trivial⟩
          dsimp only
          rw [isEmpty_app, List.map_append]; rfl
    · skip
      repeat' first | ((with_reducible apply XBr.dec) <;> (intro h; first | (exfalso; omega) | ((try simp only [List.length_map] at h); first | (exfalso; omega) | (conv => whnf)))) | ((with_reducible refine XInt.i64 (by omega) (by omega) ?_); conv => whnf) | ((with_reducible refine XHold.mk ?_ ?_); (first | omega | rfl | decide | exact ⟨rfl, by decide, rfl⟩ | exact wideI _ | exact widePr _ | exact wideSk _ | (unfold Room; constructor <;> ((try simp) <;> omega)) | exact ⟨rfl, by simp only [List.length_map], by unfold Room; constructor <;> ((try simp) <;> omega)⟩ | exact ⟨by omega, by omega, by unfold Room; constructor <;> ((try simp) <;> omega)⟩); conv => whnf) | ((first | (refine XCall.hp (j := 2) hd rfl rfl ?_) | (refine XHold.mk ⟨hWm, rfl, by omega, by omega⟩ ?_) | (refine XGet.to (sgA t) hWm.symm hyl hWt ?_)); conv => whnf) | fail
      refine XKeepE.go [] _ [(5, .pim (snC s)), (7, .pim [.int .i64 s.home, .int .i64 0, .int .i64 (1 + z)]), (8, .sl T.isEmpty (T.map sgA)), (9, natA p), (11, natA wk), (12, natA a)] rfl (fun x hx => by cases hx) ⟨⟨_, rfl, .all (Froz.ptr rfl (snOne s) (.low (snCL s)))⟩, ⟨_, rfl, .all (Froz.ptr rfl (by simp [AV.one]) (.low rfl))⟩, ⟨_, rfl, .all (Froz.grow rfl hTm (lowSg _))⟩, ⟨_, rfl, .same rfl⟩, ⟨_, rfl, .same rfl⟩, ⟨_, rfl, .same rfl⟩, trivial⟩ ?_
      have hfx2 := fFixed_ok s hb ok 0 (by omega) T.isEmpty T (by omega)
      have hfr : fixR s ((0 : Nat) : Int) T = (if (p : Int) = s.home then a else 0, wk) := by
        unfold fixR
        rw [show ((0 : Nat) : Int).toNat = 0 from rfl, hfx]
      rw [hfr, hfx, if_neg (show ¬ (some (p, m, a, wk) = none) from fun h => by cases h)] at hfx2
      have hstt : sttE s s.home 0 (1 + z) = 0 := sttE_iff.2 ⟨ok, h1, ⟨by omega, by omega⟩, by omega, by omega⟩
      have hdr := fDrive_ok s hb s.home 0 (1 + z) T.isEmpty T (by omega) (fun t ht => by have := hTt t ht; omega) hstt
      have hfi := first_c (1 + z).toNat (by omega)
      rw [show natA (1 + z).toNat = AV.int .i64 (1 + z) by unfold natA; rw [Int.toNat_of_nonneg (by omega)]] at hfi
      have hxv : vld s (stN s.home 0 (1 + z)) ∧ (stN s.home 0 (1 + z)).l ≠ 0 := ⟨stt_vld hstt, by show (1 + z).toNat ≠ 0; omega⟩
      obtain ⟨sv, hsv⟩ : ∃ sv : Nat, sv = if (p : Int) = s.home then a else 0 := ⟨_, rfl⟩
      rw [← hsv] at hfx2
      have hsv1 : (p : Int) = s.home → sv = a := fun h => by rw [hsv, if_pos h]
      have hsv0 : (p : Int) ≠ s.home → sv = 0 := fun h => by rw [hsv, if_neg h]
      generalize hD : (if safeB s (stN s.home 0 (1 + z)) = true then drvS s (lowB (1 + z).toNat) (stN s.home 0 (1 + z)) T else none) = od at hdr
      cases od with
      | none =>
        rw [if_pos rfl] at hdr
        have hdr' : Comp Try.prog 40 [snA s, xA s.home 0 (1 + z), .sl T.isEmpty (T.map sgA)] (.tup [.sl true [], .int .i64 8]) := hdr
        have e00 : (([] : List AV).length : Int) = 0 := rfl
        conv => whnf
        by_cases hph : (p : Int) = s.home
        all_goals
          first | have := hsv1 hph | have := hsv0 hph
          repeat' first | ((first | (with_reducible apply XBr.tt) | (with_reducible apply XBr.ff)); conv => whnf) | ((with_reducible apply XBr.beq) <;> (intro h; first | (exfalso; omega) | (conv => whnf))) | ((with_reducible apply XBr.bne) <;> (intro h; first | (exfalso; omega) | (conv => whnf))) | ((first | (refine XCall.ret hfx2 ?_) | (refine XCall.ret hdr' ?_) | (refine XCall.ret awake02_c ?_)); conv => whnf) | fail
          exact XOut.bool rfl
      | some L =>
        rw [if_neg (by simp)] at hdr
        have hsd : safeB s (stN s.home 0 (1 + z)) = true ∧ drvS s (lowB (1 + z).toNat) (stN s.home 0 (1 + z)) T = some L := by
          split at hD
          · rename_i h; exact ⟨h, hD⟩
          · cases hD
        have hch := drv_chain hsd.2
        have hsf := drv_safe hsd.2 hsd.1
        have hvl := drv_vld ok hsd.2 hxv
        have hll := drv_len hsd.2
        have hdr' : Comp Try.prog 40 [snA s, xA s.home 0 (1 + z), .sl T.isEmpty (T.map sgA)] (.tup [.sl false ((stN s.home 0 (1 + z) :: L).map staA), .int .i64 0]) := hdr
        have hM0 : (stN s.home 0 (1 + z) :: L).getD 0 default = stN s.home 0 (1 + z) := rfl
        have hMl : (stN s.home 0 (1 + z) :: L).length = T.length + 1 := by rw [List.length_cons, hll]
        have hbe0 : ([(((stN s.home 0 (1 + z) :: L).getD 0 default).p : Int), (((stN s.home 0 (1 + z) :: L).getD 0 default).m : Int), (((stN s.home 0 (1 + z) :: L).getD 0 default).l : Int)] == [s.home, 0, 1 + z]) = true := by
          rw [hM0, beq_iff_eq]
          show [((s.home.toNat : Nat) : Int), ((Int.toNat 0 : Nat) : Int), (((1 + z).toNat : Nat) : Int)] = _
          rw [Int.toNat_of_nonneg h1.1, Int.toNat_of_nonneg (show 0 ≤ 1 + z by omega)]; rfl
        generalize stN s.home 0 (1 + z) :: L = M at hch hsf hvl hdr' hMl hbe0
        have eM : ((M.map staA).length : Int) = M.length := by rw [List.length_map]
        have eT : ((T.map sgA).length : Int) = T.length := by rw [List.length_map]
        clear hM0 hdr
        conv => whnf
        by_cases hph : (p : Int) = s.home
        all_goals
          first | have := hsv1 hph | have := hsv0 hph
          repeat' first | ((first | (with_reducible apply XBr.tt) | (with_reducible apply XBr.ff)); conv => whnf) | (with_reducible apply XBr.not) | ((with_reducible apply XBr.bne) <;> (intro h; first | (exfalso; omega) | (conv => whnf))) | ((first | (with_reducible refine XInt.i64 (by omega) (by omega) ?_) | ((with_reducible refine XIx.map ?_ ?_ ?_ ?_); omega; omega; (intro _; rfl))); conv => whnf) | (with_reducible apply XAnd.mk) | ((first | (with_reducible apply Chk.go) | (with_reducible apply ChkA.go) | (with_reducible apply ChkF.go) | (with_reducible apply ChkB.go)); conv => whnf) | (exact XSame.mk rfl rfl) | (with_reducible exact trivial) | (apply Walk.drawN (id := 34) tab_ok mixed_ok [] [] (hsU _) [_, _, _, _, _, _, _, _, _, _, _, _, _] (by kernel_rfl) rfl) | ((first | (with_reducible apply XNext.mk) | (refine XCall.ret hfx2 ?_) | (refine XCall.ret hdr' ?_)); conv => whnf) | ((refine XEqA.mk ⟨[_, _, _], [_, _, _], rfl, rfl, rfl, rfl, ?_⟩); exact XSame.mk (congrArg (fun b => AV.bool !b) hbe0) rfl) | fail
          refine Walk.loopGK tab_ok [] [(5, _), (7, _), (20, _), (188, _), (189, _)] ⟨rfl, rfl, rfl, rfl, rfl, trivial⟩ (fun i : Nat => i ≤ T.length) (fun i => [(190, natA i)]) (fun _ => [.dead, .dead, .dead, .dead, .dead, .dead, .dead]) (fun i => T.length - i) 0 (Nat.zero_le _) rfl ⟨rfl, trivial⟩ ?_ (fun _ _ => Nat.le_refl _) ?_
          · intro i _
            refine ⟨fun z hz => ?_, fun z hz => ?_⟩
            · simp only [List.mem_cons, List.not_mem_nil, or_false, or_self] at hz
              subst hz; rfl
            · simp only [List.cons_append, List.nil_append, List.mem_cons, List.not_mem_nil, or_false] at hz
              rcases hz with rfl | rfl | rfl | rfl | rfl | rfl <;> first | rfl | exact snCL s | exact lowSta _ | exact lowSg _
          intro i hi
          conv => whnf
          by_cases hlt : i < T.length
          · obtain ⟨g1, g2⟩ := hch i hlt
            have gv := hvl i (by omega)
            have gt := hTt _ (getD_mem (d := default) hlt)
            have haf := fAfter_ok s hb (M.getD i default).p (M.getD i default).m (M.getD i default).l (T.getD i default) (vld_stt ok gv) (by omega) (by omega)
            rw [st_eta] at haf
            have hne : afterS s (M.getD i default) (T.getD i default) ≠ [] := List.ne_nil_of_mem g1
            rw [if_neg hne] at haf
            have hal4 := afterS_len s (M.getD i default) (T.getD i default)
            have hct := contains_sta (afterS s (M.getD i default) (T.getD i default)).isEmpty (afterS s (M.getD i default) (T.getD i default)) (M.getD (i + 1) default) (by omega)
            rw [List.contains_iff_mem.2 g1] at hct
            have hbs := bit_sh (l := (M.getD (i + 1) default).l) (i := lowB (1 + z).toNat) (by have := (hvl (i + 1) (by omega)).1.2.2; omega) (by have := lowB_lt (1 + z).toNat; omega)
            rw [g2, if_pos rfl] at hbs
            generalize afterS s (M.getD i default) (T.getD i default) = A at haf hct
            repeat' first | ((with_reducible apply XBr.tt); conv => whnf) | (with_reducible apply XBr.not) | ((with_reducible apply XBr.dec) <;> (intro h; first | (exfalso; omega) | ((try simp only [List.length_map] at h); first | (exfalso; omega) | (conv => whnf)))) | ((with_reducible apply XBr.beq) <;> (intro h; first | (exfalso; omega) | (conv => whnf))) | ((with_reducible apply XBr.bne) <;> (intro h; first | (exfalso; omega) | (conv => whnf))) | ((with_reducible refine XInt.i64 (by omega) (by omega) ?_); conv => whnf) | ((with_reducible refine XHold.mk ?_ ?_); (first | omega | rfl | decide | exact ⟨rfl, by decide, rfl⟩ | exact wideI _ | exact widePr _ | exact wideSk _ | (unfold Room; constructor <;> ((try simp) <;> omega)) | exact ⟨rfl, by simp only [List.length_map], by unfold Room; constructor <;> ((try simp) <;> omega)⟩ | exact ⟨by omega, by omega, by unfold Room; constructor <;> ((try simp) <;> omega)⟩); conv => whnf) | ((first | ((with_reducible refine XIx.nat ?_ ?_ ?_); omega; (intro _; rfl)) | ((with_reducible refine XIx.map ?_ ?_ ?_ ?_); omega; omega; (intro _; rfl))); conv => whnf) | (with_reducible apply XAnd.mk) | ((first | (with_reducible apply Chk.go) | (with_reducible apply ChkA.go) | (with_reducible apply ChkF.go) | (with_reducible apply ChkB.go)); conv => whnf) | (exact XSame.mk rfl rfl) | (with_reducible exact trivial) | (apply Walk.drawN (id := 39) tab_ok mixed_ok [] [] (hsU _) [_, _, _, _, _, _, _, _, _, _, _, _] (by kernel_rfl) rfl) | (apply Walk.drawN (id := 40) tab_ok mixed_ok [] [] (hsU _) [_, _, _, _, _, _, _, _, _, _, _, _, _, _, _, _, _, _, _, _, _, _, _, _, _, _] (by kernel_rfl) rfl) | ((first | (with_reducible apply XNext.mk) | (refine XCall.ret haf ?_) | (refine XCall.ret hct ?_) | (refine XCall.ret hfi ?_)); conv => whnf) | fail
            · exfalso
              exact absurd (hbs.symm.trans h) (by decide)
            exact XAgainG.go (i + 1) [.cells (sgA (T.getD i default)).cells] (by omega) (by omega) rfl ⟨rfl, rfl, rfl, rfl, rfl, rfl, trivial⟩
          have gv := hvl T.length (by omega)
          have hlast : M.getD ((((M.map staA).length : Nat) : Int) - 1).toNat default = M.getD T.length default := by rw [show ((((M.map staA).length : Nat) : Int) - 1).toNat = T.length by omega]
          have hsfe := fSafe_ok s hb (M.getD T.length default).p (M.getD T.length default).m (M.getD T.length default).l (vld_stt ok gv)
          rw [st_eta, hsf T.length (Nat.le_refl _)] at hsfe
          have hsfe' : Comp Try.prog 32 [snA s, staA (M.getD ((((M.map staA).length : Nat) : Int) - 1).toNat default)] (.tup [.bool true, .int .i64 0]) := by rw [hlast]; exact hsfe
          repeat' first | ((with_reducible apply XBr.tt); conv => whnf) | ((with_reducible apply XBr.dec) <;> (intro h; first | (exfalso; omega) | ((try simp only [List.length_map] at h); first | (exfalso; omega) | (conv => whnf)))) | ((with_reducible apply XBr.beq) <;> (intro h; first | (exfalso; omega) | (conv => whnf))) | ((first | (with_reducible refine XInt.i64 (by omega) (by omega) ?_) | ((with_reducible refine XIx.map ?_ ?_ ?_ ?_); omega; omega; (intro _; rfl))); conv => whnf) | (with_reducible apply XAnd.mk) | ((first | (with_reducible apply Chk.go) | (with_reducible apply ChkA.go) | (with_reducible apply ChkF.go) | (with_reducible apply ChkB.go)); conv => whnf) | (exact XSame.mk rfl rfl) | (with_reducible exact trivial) | (apply Walk.drawN (id := 43) tab_ok mixed_ok [] [] (hsU _) [_, _, _, _, _, _, _, _, _, _, _, _, _] (by kernel_rfl) rfl) | ((first | (with_reducible apply XNext.mk) | (refine XCall.ret hsfe' ?_) | (refine XCall.ret awake02_c ?_)); conv => whnf) | fail
          exact XOut.bool rfl
  repeat' first | ((with_reducible apply XBr.dec) <;> (intro h; first | (exfalso; omega) | ((try simp only [List.length_map] at h); first | (exfalso; omega) | (conv => whnf)))) | fail
  refine XKeepE.go [] _ [(5, .pim (snC s)), (7, .pim [.int .i64 s.home, .int .i64 0, .int .i64 (1 + z)]), (8, .sl T.isEmpty (T.map sgA)), (9, natA p), (11, natA wk), (12, natA a)] rfl (fun x hx => by cases hx) ⟨⟨_, rfl, .all (Froz.ptr rfl (snOne s) (.low (snCL s)))⟩, ⟨_, rfl, .all (Froz.ptr rfl (by simp [AV.one]) (.low rfl))⟩, ⟨_, rfl, .all (Froz.grow rfl hTm (lowSg _))⟩, ⟨_, rfl, .same rfl⟩, ⟨_, rfl, .same rfl⟩, ⟨_, rfl, .same rfl⟩, trivial⟩ ?_
  have hfx2 := fFixed_ok s hb ok 0 (by omega) T.isEmpty T (by omega)
  have hfr : fixR s ((0 : Nat) : Int) T = (if (p : Int) = s.home then a else 0, wk) := by
    unfold fixR
    rw [show ((0 : Nat) : Int).toNat = 0 from rfl, hfx]
  rw [hfr, hfx, if_neg (show ¬ (some (p, m, a, wk) = none) from fun h => by cases h)] at hfx2
  have hstt : sttE s s.home 0 (1 + z) = 0 := sttE_iff.2 ⟨ok, h1, ⟨by omega, by omega⟩, by omega, by omega⟩
  have hdr := fDrive_ok s hb s.home 0 (1 + z) T.isEmpty T (by omega) (fun t ht => by have := hTt t ht; omega) hstt
  have hfi := first_c (1 + z).toNat (by omega)
  rw [show natA (1 + z).toNat = AV.int .i64 (1 + z) by unfold natA; rw [Int.toNat_of_nonneg (by omega)]] at hfi
  have hxv : vld s (stN s.home 0 (1 + z)) ∧ (stN s.home 0 (1 + z)).l ≠ 0 := ⟨stt_vld hstt, by show (1 + z).toNat ≠ 0; omega⟩
  obtain ⟨sv, hsv⟩ : ∃ sv : Nat, sv = if (p : Int) = s.home then a else 0 := ⟨_, rfl⟩
  rw [← hsv] at hfx2
  have hsv1 : (p : Int) = s.home → sv = a := fun h => by rw [hsv, if_pos h]
  have hsv0 : (p : Int) ≠ s.home → sv = 0 := fun h => by rw [hsv, if_neg h]
  generalize hD : (if safeB s (stN s.home 0 (1 + z)) = true then drvS s (lowB (1 + z).toNat) (stN s.home 0 (1 + z)) T else none) = od at hdr
  cases od with
  | none =>
    rw [if_pos rfl] at hdr
    have hdr' : Comp Try.prog 40 [snA s, xA s.home 0 (1 + z), .sl T.isEmpty (T.map sgA)] (.tup [.sl true [], .int .i64 8]) := hdr
    have e00 : (([] : List AV).length : Int) = 0 := rfl
    conv => whnf
    by_cases hph : (p : Int) = s.home
    all_goals
      first | have := hsv1 hph | have := hsv0 hph
      repeat' first | ((first | (with_reducible apply XBr.tt) | (with_reducible apply XBr.ff)); conv => whnf) | ((with_reducible apply XBr.beq) <;> (intro h; first | (exfalso; omega) | (conv => whnf))) | ((with_reducible apply XBr.bne) <;> (intro h; first | (exfalso; omega) | (conv => whnf))) | ((first | (refine XCall.ret hfx2 ?_) | (refine XCall.ret hdr' ?_) | (refine XCall.ret awake02_c ?_)); conv => whnf) | fail
      exact XOut.bool rfl
  | some L =>
    rw [if_neg (by simp)] at hdr
    have hsd : safeB s (stN s.home 0 (1 + z)) = true ∧ drvS s (lowB (1 + z).toNat) (stN s.home 0 (1 + z)) T = some L := by
      split at hD
      · rename_i h; exact ⟨h, hD⟩
      · cases hD
    have hch := drv_chain hsd.2
    have hsf := drv_safe hsd.2 hsd.1
    have hvl := drv_vld ok hsd.2 hxv
    have hll := drv_len hsd.2
    have hdr' : Comp Try.prog 40 [snA s, xA s.home 0 (1 + z), .sl T.isEmpty (T.map sgA)] (.tup [.sl false ((stN s.home 0 (1 + z) :: L).map staA), .int .i64 0]) := hdr
    have hM0 : (stN s.home 0 (1 + z) :: L).getD 0 default = stN s.home 0 (1 + z) := rfl
    have hMl : (stN s.home 0 (1 + z) :: L).length = T.length + 1 := by rw [List.length_cons, hll]
    have hbe0 : ([(((stN s.home 0 (1 + z) :: L).getD 0 default).p : Int), (((stN s.home 0 (1 + z) :: L).getD 0 default).m : Int), (((stN s.home 0 (1 + z) :: L).getD 0 default).l : Int)] == [s.home, 0, 1 + z]) = true := by
      rw [hM0, beq_iff_eq]
      show [((s.home.toNat : Nat) : Int), ((Int.toNat 0 : Nat) : Int), (((1 + z).toNat : Nat) : Int)] = _
      rw [Int.toNat_of_nonneg h1.1, Int.toNat_of_nonneg (show 0 ≤ 1 + z by omega)]; rfl
    generalize stN s.home 0 (1 + z) :: L = M at hch hsf hvl hdr' hMl hbe0
    have eM : ((M.map staA).length : Int) = M.length := by rw [List.length_map]
    have eT : ((T.map sgA).length : Int) = T.length := by rw [List.length_map]
    clear hM0 hdr
    conv => whnf
    by_cases hph : (p : Int) = s.home
    all_goals
      first | have := hsv1 hph | have := hsv0 hph
      repeat' first | ((first | (with_reducible apply XBr.tt) | (with_reducible apply XBr.ff)); conv => whnf) | (with_reducible apply XBr.not) | ((with_reducible apply XBr.bne) <;> (intro h; first | (exfalso; omega) | (conv => whnf))) | ((first | (with_reducible refine XInt.i64 (by omega) (by omega) ?_) | ((with_reducible refine XIx.map ?_ ?_ ?_ ?_); omega; omega; (intro _; rfl))); conv => whnf) | (with_reducible apply XAnd.mk) | ((first | (with_reducible apply Chk.go) | (with_reducible apply ChkA.go) | (with_reducible apply ChkF.go) | (with_reducible apply ChkB.go)); conv => whnf) | (exact XSame.mk rfl rfl) | (with_reducible exact trivial) | (apply Walk.drawN (id := 34) tab_ok mixed_ok [] [] (hsU _) [_, _, _, _, _, _, _, _, _, _, _, _, _] (by kernel_rfl) rfl) | ((first | (with_reducible apply XNext.mk) | (refine XCall.ret hfx2 ?_) | (refine XCall.ret hdr' ?_)); conv => whnf) | ((refine XEqA.mk ⟨[_, _, _], [_, _, _], rfl, rfl, rfl, rfl, ?_⟩); exact XSame.mk (congrArg (fun b => AV.bool !b) hbe0) rfl) | fail
      refine Walk.loopGK tab_ok [] [(5, _), (7, _), (20, _), (188, _), (189, _)] ⟨rfl, rfl, rfl, rfl, rfl, trivial⟩ (fun i : Nat => i ≤ T.length) (fun i => [(190, natA i)]) (fun _ => [.dead, .dead, .dead, .dead, .dead]) (fun i => T.length - i) 0 (Nat.zero_le _) rfl ⟨rfl, trivial⟩ ?_ (fun _ _ => Nat.le_refl _) ?_
      · intro i _
        refine ⟨fun z hz => ?_, fun z hz => ?_⟩
        · simp only [List.mem_cons, List.not_mem_nil, or_false, or_self] at hz
          subst hz; rfl
        · simp only [List.cons_append, List.nil_append, List.mem_cons, List.not_mem_nil, or_false] at hz
          rcases hz with rfl | rfl | rfl | rfl | rfl | rfl <;> first | rfl | exact snCL s | exact lowSta _ | exact lowSg _
      intro i hi
      conv => whnf
      by_cases hlt : i < T.length
      · obtain ⟨g1, g2⟩ := hch i hlt
        have gv := hvl i (by omega)
        have gt := hTt _ (getD_mem (d := default) hlt)
        have haf := fAfter_ok s hb (M.getD i default).p (M.getD i default).m (M.getD i default).l (T.getD i default) (vld_stt ok gv) (by omega) (by omega)
        rw [st_eta] at haf
        have hne : afterS s (M.getD i default) (T.getD i default) ≠ [] := List.ne_nil_of_mem g1
        rw [if_neg hne] at haf
        have hal4 := afterS_len s (M.getD i default) (T.getD i default)
        have hct := contains_sta (afterS s (M.getD i default) (T.getD i default)).isEmpty (afterS s (M.getD i default) (T.getD i default)) (M.getD (i + 1) default) (by omega)
        rw [List.contains_iff_mem.2 g1] at hct
        have hbs := bit_sh (l := (M.getD (i + 1) default).l) (i := lowB (1 + z).toNat) (by have := (hvl (i + 1) (by omega)).1.2.2; omega) (by have := lowB_lt (1 + z).toNat; omega)
        rw [g2, if_pos rfl] at hbs
        generalize afterS s (M.getD i default) (T.getD i default) = A at haf hct
        repeat' first | ((with_reducible apply XBr.tt); conv => whnf) | (with_reducible apply XBr.not) | ((with_reducible apply XBr.dec) <;> (intro h; first | (exfalso; omega) | ((try simp only [List.length_map] at h); first | (exfalso; omega) | (conv => whnf)))) | ((with_reducible apply XBr.beq) <;> (intro h; first | (exfalso; omega) | (conv => whnf))) | ((with_reducible apply XBr.bne) <;> (intro h; first | (exfalso; omega) | (conv => whnf))) | ((with_reducible refine XInt.i64 (by omega) (by omega) ?_); conv => whnf) | ((with_reducible refine XHold.mk ?_ ?_); (first | omega | rfl | decide | exact ⟨rfl, by decide, rfl⟩ | exact wideI _ | exact widePr _ | exact wideSk _ | (unfold Room; constructor <;> ((try simp) <;> omega)) | exact ⟨rfl, by simp only [List.length_map], by unfold Room; constructor <;> ((try simp) <;> omega)⟩ | exact ⟨by omega, by omega, by unfold Room; constructor <;> ((try simp) <;> omega)⟩); conv => whnf) | ((first | ((with_reducible refine XIx.nat ?_ ?_ ?_); omega; (intro _; rfl)) | ((with_reducible refine XIx.map ?_ ?_ ?_ ?_); omega; omega; (intro _; rfl))); conv => whnf) | (with_reducible apply XAnd.mk) | ((first | (with_reducible apply Chk.go) | (with_reducible apply ChkA.go) | (with_reducible apply ChkF.go) | (with_reducible apply ChkB.go)); conv => whnf) | (exact XSame.mk rfl rfl) | (with_reducible exact trivial) | (apply Walk.drawN (id := 39) tab_ok mixed_ok [] [] (hsU _) [_, _, _, _, _, _, _, _, _, _, _, _] (by kernel_rfl) rfl) | (apply Walk.drawN (id := 40) tab_ok mixed_ok [] [] (hsU _) [_, _, _, _, _, _, _, _, _, _, _, _, _, _, _, _, _, _, _, _, _, _, _, _, _, _] (by kernel_rfl) rfl) | ((first | (with_reducible apply XNext.mk) | (refine XCall.ret haf ?_) | (refine XCall.ret hct ?_) | (refine XCall.ret hfi ?_)); conv => whnf) | fail
        · exfalso
          exact absurd (hbs.symm.trans h) (by decide)
        exact XAgainG.go (i + 1) [.cells (sgA (T.getD i default)).cells] (by omega) (by omega) rfl ⟨rfl, rfl, rfl, rfl, rfl, rfl, trivial⟩
      have gv := hvl T.length (by omega)
      have hlast : M.getD ((((M.map staA).length : Nat) : Int) - 1).toNat default = M.getD T.length default := by rw [show ((((M.map staA).length : Nat) : Int) - 1).toNat = T.length by omega]
      have hsfe := fSafe_ok s hb (M.getD T.length default).p (M.getD T.length default).m (M.getD T.length default).l (vld_stt ok gv)
      rw [st_eta, hsf T.length (Nat.le_refl _)] at hsfe
      have hsfe' : Comp Try.prog 32 [snA s, staA (M.getD ((((M.map staA).length : Nat) : Int) - 1).toNat default)] (.tup [.bool true, .int .i64 0]) := by rw [hlast]; exact hsfe
      repeat' first | ((with_reducible apply XBr.tt); conv => whnf) | ((with_reducible apply XBr.dec) <;> (intro h; first | (exfalso; omega) | ((try simp only [List.length_map] at h); first | (exfalso; omega) | (conv => whnf)))) | ((with_reducible apply XBr.beq) <;> (intro h; first | (exfalso; omega) | (conv => whnf))) | ((first | (with_reducible refine XInt.i64 (by omega) (by omega) ?_) | ((with_reducible refine XIx.map ?_ ?_ ?_ ?_); omega; omega; (intro _; rfl))); conv => whnf) | (with_reducible apply XAnd.mk) | ((first | (with_reducible apply Chk.go) | (with_reducible apply ChkA.go) | (with_reducible apply ChkF.go) | (with_reducible apply ChkB.go)); conv => whnf) | (exact XSame.mk rfl rfl) | (with_reducible exact trivial) | (apply Walk.drawN (id := 43) tab_ok mixed_ok [] [] (hsU _) [_, _, _, _, _, _, _, _, _, _, _, _, _] (by kernel_rfl) rfl) | ((first | (with_reducible apply XNext.mk) | (refine XCall.ret hsfe' ?_) | (refine XCall.ret awake02_c ?_)); conv => whnf) | fail
      exact XOut.bool rfl
end GA
end
