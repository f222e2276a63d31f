/- Part 6 of a proof: F18, F51, F52, F55, F56, F46, F47, F48, F19, F7, F20, F21. -/
import Derived.Test.YtmeankpoalkloaaP5
section
namespace GA
open Go Go.RowKit Go.Proofs
set_option pp.deepTerms true
set_option maxRecDepth 8000
set_option linter.unusedVariables false
set_option linter.unusedSimpArgs false

theorem wTab_at (s : Sn) (ok : SnOk s) {p m l : Nat} (hv : vld s ⟨p, m, l⟩) : (wTab s)[976 * p + 16 * m + l]? = some (.int .i64 (worthZ s ⟨p, m, l⟩)) := by
  have p2 := ok.p2; have l2 := ok.l2; have hal := allN_lt ok
  obtain ⟨v1, v2, v3⟩ := hv
  dsimp only at v1 v2 v3
  have h := vec_at (f := AV.int .i64) (W := 4880) (F := G3 (wNum s (vldB s))) (j := 976 * p + 16 * m + l) (by omega)
  rw [G3_at _ (by omega) (by omega), wNum_at (vldB_iff.2 ⟨v1, v2, v3⟩)] at h
  exact h
theorem wof_c (s : Sn) (ok : SnOk s) (x : Sta) (hv : vld s x) : Comp Try.prog 74 [wsA s, staA x] (.int .i64 (worthZ s x)) := by
  have p2 := ok.p2; have l2 := ok.l2; have hal := allN_lt ok
  have ha := wTab_at s ok hv
  obtain ⟨v1, v2, v3⟩ := hv
  refine Comp.body (T := tab) (res := [.tmp 4]) tab_ok [] Try.func74 rfl (by kernel_rfl) Try.ntmps74 rfl (by simp only [List.length_cons, List.length_nil]; decide) (by simp only [lowL, worsL, staL]; rfl) ?_; conv => whnf
  repeat' first | (with_reducible apply XAnd.mk) | ((first | (with_reducible apply Chk.go) | (with_reducible apply ChkA.go) | (with_reducible apply ChkF.go) | (with_reducible apply ChkB.go)); conv => whnf) | (exact XSame.mk rfl rfl) | (with_reducible exact trivial) | (apply Walk.drawN (id := 1) tab_ok mixed_ok [] [] (hsU _) [_, _, _, _, _, _, _, _, _, _, _, _, _] (by kernel_rfl) rfl) | ((first | (with_reducible apply XNext.mk) | (refine XArr.at _ (by omega) (by omega) (by rw [List.getElem?_drop, List.getElem?_drop, show (x.p : Int).toNat * 976 + ((x.m : Int).toNat * 16 + (x.l : Int).toNat * 1) = 976 * x.p + 16 * x.m + x.l by omega]; exact ha) ?_) | (refine XArr.pim (by omega) (by omega) ?_)); conv => whnf) | fail
  exact ⟨.low rfl⟩
def turnB (s : Sn) (l b : Nat) : Bool := worthZ s ⟨s.bed.toNat, s.last.toNat - b, l⟩ != -1
def turnN (s : Sn) (l : Nat) : Int := match (List.range (s.last.toNat + 1)).find? (turnB s l) with | some b => s.last - b | none => -1
theorem find_range_none {f : Nat → Bool} {n : Nat} (h : ∀ j, j < n → f j = false) : (List.range n).find? f = none := by
  rw [List.find?_eq_none]
  intro j hj
  rw [h j (List.mem_range.1 hj)]; simp
theorem find_range_some {f : Nat → Bool} : ∀ {n k : Nat}, k < n → f k = true → (∀ j, j < k → f j = false) → (List.range n).find? f = some k
  | n + 1, k, hk, h1, h2 => by
    rw [List.range_succ, List.find?_append]
    by_cases e : k < n
    · rw [find_range_some e h1 h2]; rfl
    · obtain rfl : k = n := by omega
      rw [find_range_none h2]
      rw [Option.none_or, List.find?_cons, h1]
theorem fTurn_ok (s : Sn) (hb : SnB s) (l : Nat) (ok : SnOk s) (h1 : 1 ≤ l) (h2 : l ≤ allN s) : Comp Try.prog 25 [snA s, natA l] (.tup [.int .i64 (if turnN s l = -1 then 0 else turnN s l), .int .i64 (if turnN s l = -1 then 6 else 0)]) := by
  have ho := fdOpened_c s hb ok
  have hst := fset_c s ok l
  have p2 := ok.p2; have l1 := ok.l1; have l2 := ok.l2; have b1 := ok.b1; have hal := allN_lt ok
  rw [inZ_iff.2 ⟨by omega, by omega⟩] at hst
  have hw := worths_c s ok
  obtain ⟨L0, hL0⟩ : ∃ L0 : Nat, s.last = L0 := ⟨s.last.toNat, by omega⟩
  refine Comp.body (T := tab) (res := [.tmp 4, .tmp 5]) tab_ok [] Try.func25 rfl (by kernel_rfl) Try.ntmps25 rfl (by simp only [List.length_cons, List.length_nil]; decide) (by simp only [lowL, AV.low, snL]; rfl) ?_; conv => whnf
  skip
  refine Walk.scope tab_ok [] ?_
  conv => whnf
  repeat' first | ((with_reducible apply XBr.tt); conv => whnf) | (with_reducible apply XBr.not) | ((with_reducible apply XBr.bne) <;> (intro h; first | (exfalso; omega) | (conv => whnf))) | ((first | (refine XCall.ret ho ?_) | (refine XCall.ret hst ?_) | (refine XCall.ret hw ?_)); conv => whnf) | fail
  refine Walk.label ?_
  conv => whnf
  repeat' first | ((with_reducible refine XInt.i64 (by omega) (by omega) ?_); conv => whnf) | fail
  refine Walk.loopK tab_ok [] [(1, _), (2, _), (4, _), (5, _), (8, _), (29, _)] ⟨rfl, rfl, rfl, rfl, rfl, rfl, trivial⟩ (fun k : Nat => k ≤ L0 + 1 ∧ ∀ j, j < k → turnB s l j = false) (fun k => [(9, .int .i64 (-1)), (30, natA k)]) (fun _ => []) (fun k => L0 + 1 - k) 0 ⟨Nat.zero_le _, fun j hj => by omega⟩ rfl ⟨rfl, rfl, trivial⟩ ?_
  rintro k ⟨hk, hs⟩
  conv => whnf
  by_cases hlt : k < L0 + 1
  · have hof := wof_c s ok ⟨s.bed.toNat, s.last.toNat - k, l⟩ ⟨by show ((s.bed.toNat : Nat) : Int) < s.places; omega, by show ((s.last.toNat - k : Nat) : Int) ≤ s.last; omega, h2⟩
    have hst2 : staA ⟨s.bed.toNat, s.last.toNat - k, l⟩ = .agg [.int .i64 s.bed, .int .i64 (s.last - k), natA l] := by
      unfold staA natA; dsimp only; rw [show ((s.last.toNat - k : Nat) : Int) = s.last - k by omega, Int.toNat_of_nonneg b1.1]
    rw [hst2] at hof
    have htb : turnB s l k = (worthZ s ⟨s.bed.toNat, s.last.toNat - k, l⟩ != -1) := rfl
    generalize worthZ s ⟨s.bed.toNat, s.last.toNat - k, l⟩ = v at hof htb
    repeat' first | ((with_reducible apply XBr.dec) <;> (intro h; first | (exfalso; omega) | ((try simp only [List.length_map] at h); first | (exfalso; omega) | (conv => whnf)))) | ((with_reducible apply XBr.beq) <;> (intro h; first | (exfalso; omega) | (conv => whnf))) | ((with_reducible apply XBr.bne) <;> (intro h; first | (exfalso; omega) | (conv => whnf))) | ((first | (with_reducible refine XInt.i64 (by omega) (by omega) ?_) | (refine XCall.ret hof ?_)); conv => whnf) | fail
    · have hf : turnN s l = s.last - k := by
        unfold turnN
        rw [find_range_some (k := k) (by omega) (by rw [htb]; simpa using (show v ≠ -1 by assumption)) hs]
      rw [hf, if_neg (by omega), if_neg (by omega)]
      exact ⟨.low rfl⟩
    · refine XAgain.go (k + 1) ⟨by omega, fun j hj => ?_⟩ (by omega) rfl ⟨rfl, rfl, rfl, rfl, rfl, rfl, rfl, rfl, trivial⟩
      by_cases e : j = k
      · subst e; rw [htb]; simpa using (show v = -1 by assumption)
      · exact hs j (by omega)
  obtain rfl : k = L0 + 1 := by omega
  have hf : turnN s l = -1 := by
    unfold turnN
    rw [find_range_none (fun j hj => hs j (by omega))]
  rw [hf, if_pos rfl, if_pos rfl]
  clear hs
  repeat' first | ((with_reducible apply XBr.dec) <;> (intro h; first | (exfalso; omega) | ((try simp only [List.length_map] at h); first | (exfalso; omega) | (conv => whnf)))) | ((with_reducible apply XBr.beq) <;> (intro h; first | (exfalso; omega) | (conv => whnf))) | fail
  exact ⟨.low rfl⟩
theorem index_sg (nl : Bool) (xs : List (Int × Int)) (t : Int × Int) (hx : xs.length ≤ 100000) : Comp Try.prog 144 [.sl nl (xs.map sgA), sgA t] (.int .i64 (idxR (fun y => t == y) xs)) := by
  have e1 : ((xs.map sgA).length : Int) = xs.length := by rw [List.length_map]
  refine Comp.body (T := tab) (res := [.tmp 4]) tab_ok [] Try.func144 rfl (by kernel_rfl) Try.ntmps144 rfl (by simp only [List.length_cons, List.length_nil]; decide) (by simp only [lowL, AV.low, lowSg, sgL]; rfl) ?_; conv => whnf
  skip
  refine Walk.loopK tab_ok [] [(0, _), (3, _), (7, _)] ⟨rfl, rfl, rfl, trivial⟩ (fun i : Nat => i ≤ xs.length ∧ ∀ j, j < i → (t == xs.getD j default) = false) (fun i => [(8, natA i)]) (fun _ => []) (fun i => xs.length - i) 0 ⟨Nat.zero_le _, fun j hj => by omega⟩ rfl ⟨rfl, trivial⟩ ?_
  rintro i ⟨hi, hs⟩
  conv => whnf
  by_cases hlt : i < xs.length
  · have hbe : ((t.1 == (xs.getD i default).1) && (t.2 == (xs.getD i default).2)) = (t == xs.getD i default) := rfl
    have hbe2 : (([t.1, t.2] : List Int) == [(xs.getD i default).1, (xs.getD i default).2]) = (t == xs.getD i default) := by rw [← hbe]; show (_ && (_ && true)) = _; rw [Bool.and_true]
    cases hb : t == xs.getD i default with
    | true =>
      rw [hb] at hbe2
      repeat' first | ((with_reducible apply XBr.tt); conv => whnf) | ((with_reducible apply XBr.dec) <;> (intro h; first | (exfalso; omega) | ((try simp only [List.length_map] at h); first | (exfalso; omega) | (conv => whnf)))) | (((with_reducible refine XIx.nat ?_ ?_ ?_); omega; (intro _; rfl)); conv => whnf) | (with_reducible apply XAnd.mk) | ((first | (with_reducible apply Chk.go) | (with_reducible apply ChkA.go) | (with_reducible apply ChkF.go) | (with_reducible apply ChkB.go)); conv => whnf) | (exact XSame.mk rfl rfl) | (with_reducible exact trivial) | (apply Walk.drawN (id := 4) tab_ok mixed_ok [] [] (hsU _) [_, _, _, _, _, _] (by kernel_rfl) rfl) | ((with_reducible apply XNext.mk); conv => whnf) | ((refine XEqA.mk ⟨[_, _], [_, _], rfl, rfl, rfl, rfl, ?_⟩); exact XSame.mk (congrArg AV.bool hbe2) rfl) | fail
      refine XOut.int ?_
      simp only [idxR, find_some (d := default) (i := i) hlt hb hs]
    | false =>
      rw [hb] at hbe2
      repeat' first | ((with_reducible apply XBr.ff); conv => whnf) | ((with_reducible apply XBr.dec) <;> (intro h; first | (exfalso; omega) | ((try simp only [List.length_map] at h); first | (exfalso; omega) | (conv => whnf)))) | ((first | (with_reducible refine XInt.i64 (by omega) (by omega) ?_) | ((with_reducible refine XIx.nat ?_ ?_ ?_); omega; (intro _; rfl))); conv => whnf) | (with_reducible apply XAnd.mk) | ((first | (with_reducible apply Chk.go) | (with_reducible apply ChkA.go) | (with_reducible apply ChkF.go) | (with_reducible apply ChkB.go)); conv => whnf) | (exact XSame.mk rfl rfl) | (with_reducible exact trivial) | (apply Walk.drawN (id := 4) tab_ok mixed_ok [] [] (hsU _) [_, _, _, _, _, _] (by kernel_rfl) rfl) | ((with_reducible apply XNext.mk); conv => whnf) | ((refine XEqA.mk ⟨[_, _], [_, _], rfl, rfl, rfl, rfl, ?_⟩); exact XSame.mk (congrArg AV.bool hbe2) rfl) | fail
      refine XAgain.go (i + 1) ⟨by omega, fun j hj => ?_⟩ (by omega) rfl ⟨rfl, rfl, rfl, rfl, trivial⟩
      by_cases e : j = i
      · subst e; exact hb
      · exact hs j (by omega)
  obtain rfl : i = xs.length := by omega
  have hf := find_none (d := default) hs
  clear hs
  repeat' first | ((with_reducible apply XBr.dec) <;> (intro h; first | (exfalso; omega) | ((try simp only [List.length_map] at h); first | (exfalso; omega) | (conv => whnf)))) | fail
  refine XOut.int ?_
  simp only [idxR, hf]
theorem contains_sg (nl : Bool) (xs : List (Int × Int)) (t : Int × Int) (hx : xs.length ≤ 100000) : Comp Try.prog 72 [.sl nl (xs.map sgA), sgA t] (.bool (xs.contains t)) := by
  have hi := index_sg nl xs t hx
  have hc : decide (0 ≤ idxR (fun y => t == y) xs) = xs.contains t := by
    rw [Bool.eq_iff_iff, decide_eq_true_eq, idxR_pos, List.any_eq_true, List.contains_iff_mem]
    constructor
    · rintro ⟨y, hy, e⟩; rw [beq_iff_eq] at e; subst e; exact hy
    · intro h; exact ⟨t, h, by simp⟩
  generalize idxR (fun y => t == y) xs = v at hi hc
  refine Comp.body (T := tab) (res := [.tmp 4]) tab_ok [] Try.func72 rfl (by kernel_rfl) Try.ntmps72 rfl (by simp only [List.length_cons, List.length_nil]; decide) (by simp only [lowL, AV.low, lowSg, sgL]; rfl) ?_; conv => whnf
  repeat' first | ((refine XCall.ret hi ?_); conv => whnf) | fail
  exact XOut.bool hc
def fixS (s : Sn) : Nat → Nat → Nat → Nat → List (Int × Int) → Option (Nat × Nat × Nat × Nat)
  | p, m, a, w, [] => some (p, m, a, w)
  | p, m, a, w, t :: l => if (waysL s p).contains t = true ∧ (m : Int) + t.2 ≤ s.last then
      fixS s t.1.toNat ((m : Int) + t.2).toNat (a &&& drN s t.1.toNat ((m : Int) + t.2).toNat) (if (p : Int) = s.bed ∧ t.1 = p then w + 1 else w) l else none
def fixR (s : Sn) (m : Int) (l : List (Int × Int)) : Nat × Nat :=
  match fixS s s.home.toNat m.toNat (drN s s.home.toNat m.toNat) 0 l with
  | some (p, _, a, w) => (if (p : Int) = s.home then a else 0, w)
  | none => (0, 0)
theorem fFixed_ok (s : Sn) (hb : SnB s) (ok : SnOk s) (m0 : Nat) (hm0 : (m0 : Int) ≤ s.last) (nl : Bool) (l : List (Int × Int)) (hl : l.length ≤ 100000) : Comp Try.prog 20 [snA s, natA m0, .sl nl (l.map sgA)] (.tup [natA (fixR s m0 l).1, natA (fixR s m0 l).2, .int .i64 (if fixS s s.home.toNat m0 (drN s s.home.toNat m0) 0 l = none then 8 else 0)]) := by
  have p1 := ok.p1; have p2 := ok.p2; have l1 := ok.l1; have l2 := ok.l2; have w1 := ok.w1; have h1 := ok.h1
  have ho := fdOpened_c s hb ok
  have hmn := fminute_c s m0
  rw [inZ_iff.2 ⟨by omega, hm0⟩] at hmn
  have e1 : ((l.map sgA).length : Int) = l.length := by rw [List.length_map]
  obtain ⟨h0, hh0⟩ : ∃ h0 : Nat, s.home = h0 := ⟨s.home.toNat, by omega⟩
  have hfr : fixR s m0 l = match fixS s h0 m0 (drN s h0 m0) 0 l with | some (p, _, a, w) => (if (p : Int) = s.home then a else 0, w) | none => (0, 0) := by unfold fixR; rw [hh0, Int.toNat_natCast, Int.toNat_natCast]
  rw [show s.home.toNat = h0 by omega]
  refine Comp.body (T := tab) (res := [.tmp 6, .tmp 7, .tmp 8]) tab_ok [] Try.func20 rfl (by kernel_rfl) Try.ntmps20 rfl (by simp only [List.length_cons, List.length_nil]; decide) (by simp only [lowL, AV.low, snL, lowSg]; rfl) ?_; conv => whnf
  repeat' first | ((with_reducible apply XBr.tt); conv => whnf) | (with_reducible apply XBr.not) | ((with_reducible apply XBr.bne) <;> (intro h; first | (exfalso; omega) | (conv => whnf))) | ((first | (refine XCall.ret ho ?_) | (refine XCall.ret hmn ?_) | (refine XArr.dryP h0 hh0 (by omega) ?_) | (refine XArr.dryM m0 rfl (by omega) (by omega) ?_)); conv => whnf) | fail
  refine Walk.loopGK tab_ok [] [(3, _), (9, _), (37, _), (38, _)] ⟨rfl, rfl, rfl, rfl, trivial⟩ (fun g : Nat × Nat × Nat × Nat × Nat => g.1 ≤ l.length ∧ (g.2.1 : Int) < s.places ∧ (g.2.2.1 : Int) ≤ s.last ∧ g.2.2.2.1 < 16 ∧ g.2.2.2.2 ≤ g.1 ∧ fixS s h0 m0 (drN s h0 m0) 0 l = fixS s g.2.1 g.2.2.1 g.2.2.2.1 g.2.2.2.2 (l.drop g.1)) (fun g => [(1, natA g.2.2.1), (6, natA g.2.2.2.1), (7, natA g.2.2.2.2), (8, .int .i64 0), (10, natA g.2.1), (39, natA g.1)]) (fun _ => []) (fun g => l.length - g.1) (0, h0, m0, drN s h0 m0, 0) ⟨Nat.zero_le _, by dsimp only; omega, hm0, drN_lt ok _ _, Nat.le_refl _, rfl⟩ rfl ⟨rfl, rfl, rfl, rfl, congrArg (fun z => some (AV.int .i64 z)) hh0, rfl, trivial⟩ ?_ (fun _ _ => Nat.le_refl _) ?_
  · intro g _
    refine ⟨by simp, fun z hz => ?_⟩
    simp only [List.cons_append, List.nil_append, List.mem_cons, List.not_mem_nil, or_false] at hz
    rcases hz with rfl | rfl | rfl | rfl | rfl | rfl | rfl | rfl | rfl | rfl <;> first | rfl | exact snCL s | exact dskFL s | exact lowSg _
  rintro ⟨k, p, m, a, w⟩ ⟨hk, hp, hm, ha, hw, hs⟩
  dsimp only at hk hp hm ha hw hs ⊢
  conv => whnf
  by_cases hlt : k < l.length
  · rw [drop_next hlt, fixS] at hs
    have hct := contains_sg false (waysL s p) (l.getD k default) (by
      have h := waysK_len s p s.places.toNat
      have h2 : s.places.toNat * (1 + s.ways.length) ≤ 5 * 11 := Nat.mul_le_mul (by omega) (by omega)
      show (waysK s p s.places.toNat).length ≤ 100000
      omega)
    have hmg : mget (p : Int) ((keyF s).zip ((esF s s.places.toNat).map (·.2))) = some (.sl false ((waysL s p).map sgA)) := by
      unfold keyF; rw [zip_fs]; exact esF_get s _ _ (by omega)
    cases hc : (waysL s p).contains (l.getD k default) with
    | false =>
      rw [hc] at hct hs
      rw [if_neg (by simp)] at hs
      repeat' first | ((first | (with_reducible apply XBr.tt) | (with_reducible apply XBr.ff)); conv => whnf) | (with_reducible apply XBr.not) | ((with_reducible apply XBr.dec) <;> (intro h; first | (exfalso; omega) | ((try simp only [List.length_map] at h); first | (exfalso; omega) | (conv => whnf)))) | (((with_reducible refine XIx.nat ?_ ?_ ?_); omega; (intro _; rfl)); conv => whnf) | (with_reducible apply XAnd.mk) | ((first | (with_reducible apply Chk.go) | (with_reducible apply ChkA.go) | (with_reducible apply ChkF.go) | (with_reducible apply ChkB.go)); conv => whnf) | (exact XSame.mk rfl rfl) | (with_reducible exact trivial) | (apply Walk.drawN (id := 11) tab_ok mixed_ok [] [] (hsU _) [_, _, _, _, _, _, _, _, _, _, _, _, _, _, _, _, _, _] (by kernel_rfl) rfl) | ((first | (with_reducible apply XNext.mk) | (refine XDrop.dskF ?_) | (refine XGetM.mk' hmg ?_) | (refine XCall.ret hct ?_)); conv => whnf) | fail
      rw [hfr, hs]
      exact ⟨.low rfl⟩
    | true =>
      rw [hc] at hct hs
      have hwy := waysL_pos ok (List.contains_iff_mem.1 hc)
      by_cases hle : (m : Int) + (l.getD k default).2 ≤ s.last
      · rw [if_pos ⟨rfl, hle⟩] at hs
        obtain ⟨q, hq⟩ : ∃ q : Nat, (l.getD k default).1 = q := ⟨(l.getD k default).1.toNat, by omega⟩
        obtain ⟨m', hm'⟩ : ∃ m' : Nat, (m : Int) + (l.getD k default).2 = m' := ⟨((m : Int) + (l.getD k default).2).toNat, by omega⟩
        rw [hm', Int.toNat_natCast, hq, Int.toNat_natCast] at hs
        have hand : iand .i64 (a : Int) (drN s q m' : Int) = ((a &&& drN s q m' : Nat) : Int) := iand_nat (by omega) (by have := drN_lt ok q m'; omega)
        have hal : a &&& drN s q m' ≤ a := Nat.and_le_left
        by_cases c1 : (p : Int) = s.bed
        · by_cases c2 : (l.getD k default).1 = (p : Int)
          · rw [if_pos ⟨c1, by omega⟩] at hs
            repeat' first | ((with_reducible apply XBr.tt); conv => whnf) | (with_reducible apply XBr.not) | ((with_reducible apply XBr.dec) <;> (intro h; first | (exfalso; omega) | ((try simp only [List.length_map] at h); first | (exfalso; omega) | (conv => whnf)))) | ((with_reducible apply XBr.beq) <;> (intro h; first | (exfalso; omega) | (conv => whnf))) | ((first | (with_reducible refine XInt.i64 (by omega) (by omega) ?_) | ((with_reducible refine XIx.nat ?_ ?_ ?_); omega; (intro _; rfl))); conv => whnf) | (with_reducible apply XAnd.mk) | ((first | (with_reducible apply Chk.go) | (with_reducible apply ChkA.go) | (with_reducible apply ChkF.go) | (with_reducible apply ChkB.go)); conv => whnf) | (exact XSame.mk rfl rfl) | (with_reducible exact trivial) | (apply Walk.drawN (id := 11) tab_ok mixed_ok [] [] (hsU _) [_, _, _, _, _, _, _, _, _, _, _, _, _, _, _, _, _, _] (by kernel_rfl) rfl) | (apply Walk.drawN (id := 15) tab_ok mixed_ok [] [] (hsU _) [_, _, _, _, _, _, _, _] (by kernel_rfl) rfl) | ((first | (with_reducible apply XNext.mk) | (refine XDrop.dskF ?_) | (refine XGetM.mk' hmg ?_) | (refine XCall.ret hct ?_) | (refine XArr.dryP q hq (by omega) ?_) | (refine XArr.dryM m' hm' (by omega) (by omega) ?_)); conv => whnf) | fail
            exact XAgainG.go (k + 1, q, m', a &&& drN s q m', w + 1) [.cells (sgA (l.getD k default)).cells] ⟨by dsimp only; omega, by dsimp only; omega, by dsimp only; omega, by dsimp only; omega, by dsimp only; omega, hs⟩ (by dsimp only; omega) rfl ⟨rfl, rfl, rfl, rfl, congrArg (fun z => some (AV.int .i64 z)) hm', congrArg (fun z => some (AV.int .i64 z)) hand, rfl, rfl, congrArg (fun z => some (AV.int .i64 z)) hq, rfl, trivial⟩
          · rw [if_neg (fun h => c2 (by omega))] at hs
            repeat' first | ((with_reducible apply XBr.tt); conv => whnf) | (with_reducible apply XBr.not) | ((with_reducible apply XBr.dec) <;> (intro h; first | (exfalso; omega) | ((try simp only [List.length_map] at h); first | (exfalso; omega) | (conv => whnf)))) | ((with_reducible apply XBr.beq) <;> (intro h; first | (exfalso; omega) | (conv => whnf))) | ((first | (with_reducible refine XInt.i64 (by omega) (by omega) ?_) | ((with_reducible refine XIx.nat ?_ ?_ ?_); omega; (intro _; rfl))); conv => whnf) | (with_reducible apply XAnd.mk) | ((first | (with_reducible apply Chk.go) | (with_reducible apply ChkA.go) | (with_reducible apply ChkF.go) | (with_reducible apply ChkB.go)); conv => whnf) | (exact XSame.mk rfl rfl) | (with_reducible exact trivial) | (apply Walk.drawN (id := 11) tab_ok mixed_ok [] [] (hsU _) [_, _, _, _, _, _, _, _, _, _, _, _, _, _, _, _, _, _] (by kernel_rfl) rfl) | (apply Walk.drawN (id := 15) tab_ok mixed_ok [] [] (hsU _) [_, _, _, _, _, _, _, _] (by kernel_rfl) rfl) | ((first | (with_reducible apply XNext.mk) | (refine XDrop.dskF ?_) | (refine XGetM.mk' hmg ?_) | (refine XCall.ret hct ?_) | (refine XArr.dryP q hq (by omega) ?_) | (refine XArr.dryM m' hm' (by omega) (by omega) ?_)); conv => whnf) | fail
            exact XAgainG.go (k + 1, q, m', a &&& drN s q m', w) [.cells (sgA (l.getD k default)).cells] ⟨by dsimp only; omega, by dsimp only; omega, by dsimp only; omega, by dsimp only; omega, by dsimp only; omega, hs⟩ (by dsimp only; omega) rfl ⟨rfl, rfl, rfl, rfl, congrArg (fun z => some (AV.int .i64 z)) hm', congrArg (fun z => some (AV.int .i64 z)) hand, rfl, rfl, congrArg (fun z => some (AV.int .i64 z)) hq, rfl, trivial⟩
        · rw [if_neg (fun h => c1 h.1)] at hs
          repeat' first | ((first | (with_reducible apply XBr.tt) | (with_reducible apply XBr.ff)); conv => whnf) | (with_reducible apply XBr.not) | ((with_reducible apply XBr.dec) <;> (intro h; first | (exfalso; omega) | ((try simp only [List.length_map] at h); first | (exfalso; omega) | (conv => whnf)))) | ((with_reducible apply XBr.beq) <;> (intro h; first | (exfalso; omega) | (conv => whnf))) | ((first | (with_reducible refine XInt.i64 (by omega) (by omega) ?_) | ((with_reducible refine XIx.nat ?_ ?_ ?_); omega; (intro _; rfl))); conv => whnf) | (with_reducible apply XAnd.mk) | ((first | (with_reducible apply Chk.go) | (with_reducible apply ChkA.go) | (with_reducible apply ChkF.go) | (with_reducible apply ChkB.go)); conv => whnf) | (exact XSame.mk rfl rfl) | (with_reducible exact trivial) | (apply Walk.drawN (id := 11) tab_ok mixed_ok [] [] (hsU _) [_, _, _, _, _, _, _, _, _, _, _, _, _, _, _, _, _, _] (by kernel_rfl) rfl) | (apply Walk.drawN (id := 15) tab_ok mixed_ok [] [] (hsU _) [_, _, _, _, _, _, _, _] (by kernel_rfl) rfl) | ((first | (with_reducible apply XNext.mk) | (refine XDrop.dskF ?_) | (refine XGetM.mk' hmg ?_) | (refine XCall.ret hct ?_) | (refine XArr.dryP q hq (by omega) ?_) | (refine XArr.dryM m' hm' (by omega) (by omega) ?_)); conv => whnf) | fail
          exact XAgainG.go (k + 1, q, m', a &&& drN s q m', w) [.cells (sgA (l.getD k default)).cells] ⟨by dsimp only; omega, by dsimp only; omega, by dsimp only; omega, by dsimp only; omega, by dsimp only; omega, hs⟩ (by dsimp only; omega) rfl ⟨rfl, rfl, rfl, rfl, congrArg (fun z => some (AV.int .i64 z)) hm', congrArg (fun z => some (AV.int .i64 z)) hand, rfl, rfl, congrArg (fun z => some (AV.int .i64 z)) hq, rfl, trivial⟩
      · rw [if_neg (fun h => hle h.2)] at hs
        repeat' first | ((with_reducible apply XBr.tt); conv => whnf) | (with_reducible apply XBr.not) | ((with_reducible apply XBr.dec) <;> (intro h; first | (exfalso; omega) | ((try simp only [List.length_map] at h); first | (exfalso; omega) | (conv => whnf)))) | ((first | (with_reducible refine XInt.i64 (by omega) (by omega) ?_) | ((with_reducible refine XIx.nat ?_ ?_ ?_); omega; (intro _; rfl))); conv => whnf) | (with_reducible apply XAnd.mk) | ((first | (with_reducible apply Chk.go) | (with_reducible apply ChkA.go) | (with_reducible apply ChkF.go) | (with_reducible apply ChkB.go)); conv => whnf) | (exact XSame.mk rfl rfl) | (with_reducible exact trivial) | (apply Walk.drawN (id := 11) tab_ok mixed_ok [] [] (hsU _) [_, _, _, _, _, _, _, _, _, _, _, _, _, _, _, _, _, _] (by kernel_rfl) rfl) | ((first | (with_reducible apply XNext.mk) | (refine XDrop.dskF ?_) | (refine XGetM.mk' hmg ?_) | (refine XCall.ret hct ?_)); conv => whnf) | fail
        rw [hfr, hs]
        exact ⟨.low rfl⟩
  obtain rfl : k = l.length := by omega
  rw [List.drop_length, fixS] at hs
  have hfr2 : fixR s m0 l = (if (p : Int) = s.home then a else 0, w) := by rw [hfr, hs]
  by_cases hph : (p : Int) = s.home
  · rw [if_pos hph] at hfr2
    repeat' first | ((with_reducible apply XBr.dec) <;> (intro h; first | (exfalso; omega) | ((try simp only [List.length_map] at h); first | (exfalso; omega) | (conv => whnf)))) | ((with_reducible apply XBr.bne) <;> (intro h; first | (exfalso; omega) | (conv => whnf))) | fail
    rw [hfr2, hs]
    exact ⟨.low rfl⟩
  · rw [if_neg hph] at hfr2
    repeat' first | ((with_reducible apply XBr.dec) <;> (intro h; first | (exfalso; omega) | ((try simp only [List.length_map] at h); first | (exfalso; omega) | (conv => whnf)))) | ((with_reducible apply XBr.bne) <;> (intro h; first | (exfalso; omega) | (conv => whnf))) | fail
    rw [hfr2, hs]
    exact ⟨.low rfl⟩
end GA
end

section
namespace GA
open Go Go.RowKit Go.Proofs
set_option maxRecDepth 8000
set_option linter.unusedVariables false
set_option linter.unusedSimpArgs false

def startZ (s : Sn) (m : Nat) : Int := (partsL s s.home.toNat (allN s)).foldl (fun n l => min n (worthZ s ⟨s.home.toNat, m, l⟩)) 60
theorem startZ_le (s : Sn) (m : Nat) : startZ s m ≤ 60 ∧ ∀ l ∈ partsL s s.home.toNat (allN s), startZ s m ≤ worthZ s ⟨s.home.toNat, m, l⟩ := (foldl_min_prop (f := fun l => worthZ s ⟨s.home.toNat, m, l⟩)).2
theorem startZ_ge {s : Sn} {m : Nat} {c : Int} (h0 : c ≤ 60) (h : ∀ l ∈ partsL s s.home.toNat (allN s), c ≤ worthZ s ⟨s.home.toNat, m, l⟩) : c ≤ startZ s m := by
  rcases (foldl_min_prop (f := fun l => worthZ s ⟨s.home.toNat, m, l⟩) (l := partsL s s.home.toNat (allN s)) (b := 60)).1 with e | ⟨l, hl, e⟩
  · unfold startZ; rw [e]; exact h0
  · unfold startZ; rw [e]; exact h l hl
theorem allN_bit (s : Sn) (i : Nat) : (allN s).testBit i = decide (i < s.truths.length) := by unfold allN; exact Nat.testBit_two_pow_sub_one _ _
structure Wider (s u : Sn) : Prop where
  places : s.places = u.places
  home : s.home = u.home
  bed : s.bed = u.bed
  last : s.last = u.last
  ways : s.ways = u.ways
  tr : s.truths.length = u.truths.length
  dry : ∀ i p m, dryT s i p m = true → dryT u i p m = true
  look : ∀ i j p, i < s.truths.length → j < s.truths.length → lookZ u i p = lookZ u j p → lookZ s i p = lookZ s j p
theorem Wider.waysL {s u : Sn} (e : Wider s u) (p : Nat) : waysL s p = waysL u p := by
  unfold GA.waysL
  rw [e.places]
  have : ∀ k, waysK s p k = waysK u p k := fun k => by
    induction k with
    | zero => rfl
    | succ k ih => rw [waysK, waysK, ih]; unfold waysQ; rw [e.ways]
  exact this _
theorem Wider.emb {s u : Sn} (ok : SnOk s) (e : Wider s u) : Emb s u id id fun i => i < s.truths.length := by
  refine ⟨e.last, fun p h => by show (p : Int) < u.places; rw [← e.places]; exact h, fun p h => by rw [← e.home]; exact h, fun p h => by rw [← e.bed]; exact h, fun p t hp ht => ?_, fun i hi => ⟨hi, by show i < _; rw [← e.tr]; exact hi⟩, fun i p m _ h => e.dry i p m h, fun i j p hi hj h => e.look i j p hi hj h⟩
  have hw := waysL_pos ok ht
  rw [e.waysL] at ht
  show (((t.1.toNat : Nat) : Int), t.2) ∈ GA.waysL u p
  rw [Int.toNat_of_nonneg hw.2.2.1]; exact ht
theorem Wider.worth {s u : Sn} (oks : SnOk s) (oku : SnOk u) (e : Wider s u) {p m B A : Nat} (hm : (m : Int) ≤ s.last) (hp : (p : Int) < s.places) (hA : A ≠ 0) (hB : ∀ i, B.testBit i = true → i < s.truths.length) (hAB : ∀ i, A.testBit i = true → B.testBit i = true) : worthZ s ⟨p, m, B⟩ ≤ worthZ u ⟨p, m, A⟩ :=
  worth_mono oks oku (e.emb oks) _ p m B A (Nat.le_refl _) hm hp hA hB fun j hj => ⟨j, hAB j hj, rfl⟩
theorem part_B {s : Sn} (ok : SnOk s) {p left l : Nat} (h : l ∈ partsL s p left) : l ≠ 0 ∧ ∀ i, l.testBit i = true → i < s.truths.length ∧ left.testBit i = true := by
  obtain ⟨n, -, e, hne⟩ := partsL_mem.1 h
  refine ⟨hne, fun i hi => ?_⟩
  rw [e, partN_bit] at hi
  simp only [Bool.and_eq_true, decide_eq_true_eq] at hi
  rw [ok.k1] at hi
  exact ⟨hi.1, hi.2.2⟩
theorem Wider.start {s u : Sn} (oks : SnOk s) (oku : SnOk u) (e : Wider s u) {m : Nat} (hm : (m : Int) ≤ s.last) : startZ s m ≤ startZ u m := by
  refine startZ_ge (startZ_le s m).1 fun l hl => ?_
  obtain ⟨hne, hlB⟩ := part_B oku hl
  have h1 := oks.h1
  obtain ⟨j, hj⟩ := bit_some hne
  have hj' := hlB j hj
  have hjs : j < s.looks.length := by rw [oks.k1, e.tr]; exact hj'.1
  obtain ⟨n, hn, hlk, hpm, hb⟩ := parts_has oks (p := s.home.toNat) (left := allN s) (by omega) hjs (by rw [allN_bit]; exact decide_eq_true (by rw [← oks.k1]; exact hjs))
  refine Int.le_trans ((startZ_le s m).2 _ hpm) ?_
  rw [← e.home]
  obtain ⟨k, -, ek, -⟩ := partsL_mem.1 hl
  have hbits : ∀ i, l.testBit i = true → i < s.truths.length ∧ lookZ u i u.home.toNat = (k : Nat) := fun i hi => by
    rw [ek, partN_bit] at hi
    simp only [Bool.and_eq_true, decide_eq_true_eq, beq_iff_eq] at hi
    rw [oku.k1, ← e.tr] at hi
    exact ⟨hi.1, hi.2.1⟩
  refine e.worth oks oku hm (by omega) hne (fun i hi => ?_) fun i hi => ?_
  · rw [partN_bit, Bool.and_eq_true, decide_eq_true_eq, oks.k1] at hi
    exact hi.1
  · have hi' := hbits i hi
    have hj2 := hbits j hj
    have hll := e.look i j s.home.toNat hi'.1 hj2.1 (by rw [e.home, hi'.2, hj2.2])
    rw [partN_bit, hll, hlk, allN_bit, decide_eq_true hi'.1, decide_eq_true (by rw [oks.k1]; exact hi'.1)]
    simp
where
  bit_some {l : Nat} (h : l ≠ 0) : ∃ j, l.testBit j = true := by
    refine Classical.byContradiction fun h' => h (bit_ext fun j => ?_)
    rw [Nat.zero_testBit]
    cases hb : l.testBit j with
    | false => rfl
    | true => exact absurd ⟨j, hb⟩ h'
def tolR (p i : Nat) (r : Rw) : Rw := (false, r.2.set p (i : Int))
def tolS (s : Sn) (p : Nat) : Sn := { s with nk := false, looks := vecF s.looks.length fun i => tolR p i (s.looks.getD i default) }
theorem tol_look {s : Sn} (ok : SnOk s) {p : Nat} (hp : (p : Int) < s.places) {i q : Nat} (hi : i < s.looks.length) : lookZ (tolS s p) i q = if q = p then (i : Int) else lookZ s i q := by
  have hl := ok.kl _ (getD_mem (d := default) hi)
  unfold lookZ
  have e : (tolS s p).looks.getD i default = tolR p i (s.looks.getD i default) := vecF_get _ hi
  rw [e]
  show ((s.looks.getD i default).2.set p (i : Int)).getD q default = _
  rw [List.getD_eq_getElem?_getD, List.getElem?_set]
  by_cases h : q = p
  · rw [if_pos h, if_pos h.symm, if_pos (by omega)]; rfl
  · rw [if_neg h, if_neg (fun e => h e.symm)]
    simp only [List.getD_eq_getElem?_getD]
theorem tol_ok {s : Sn} (ok : SnOk s) {p : Nat} (hp : (p : Int) < s.places) : SnOk (tolS s p) := by
  have t2 := ok.t2; have k1 := ok.k1
  have hm : ∀ l ∈ (tolS s p).looks, ∃ i, i < s.looks.length ∧ l = tolR p i (s.looks.getD i default) := fun l hl => by
    obtain ⟨i, hi, rfl⟩ := vecF_mem.1 (show l ∈ vecF s.looks.length _ from hl)
    exact ⟨i, hi, rfl⟩
  refine ⟨ok.p1, ok.p2, ok.t1, ok.t2, ok.w1, (vecF_len _ _).trans ok.k1, fun l hl => ?_, ok.tl, ok.l1, ok.l2, ok.wm, fun l hl n hn => ?_, ok.h1, ok.b1, ok.wp, ok.hb, ok.wa, ok.sp⟩
  · obtain ⟨i, hi, rfl⟩ := hm l hl
    show (((s.looks.getD i default).2.set p (i : Int)).length : Int) = s.places
    rw [List.length_set]; exact ok.kl _ (getD_mem hi)
  · obtain ⟨i, hi, rfl⟩ := hm l hl
    rcases List.mem_or_eq_of_mem_set hn with hn | rfl
    · exact ok.kn _ (getD_mem hi) n hn
    · omega
theorem tol_wider {s : Sn} (ok : SnOk s) {p : Nat} (hp : (p : Int) < s.places) : Wider s (tolS s p) := by
  refine ⟨rfl, rfl, rfl, rfl, rfl, rfl, fun _ _ _ h => h, fun i j q hi hj h => ?_⟩
  rw [tol_look ok hp (by rw [ok.k1]; exact hi), tol_look ok hp (by rw [ok.k1]; exact hj)] at h
  by_cases e : q = p
  · rw [if_pos e, if_pos e] at h
    have : i = j := by omega
    rw [this]
  · rwa [if_neg e, if_neg e] at h
theorem told_ge {s : Sn} (ok : SnOk s) {p m : Nat} (hp : (p : Int) < s.places) (hm : (m : Int) ≤ s.last) : startZ s m ≤ startZ (tolS s p) m := (tol_wider ok hp).start ok (tol_ok ok hp) hm
theorem told_home {s : Sn} (ok : SnOk s) {p m : Nat} (hp : (p : Int) < s.places) (hm : (m : Int) ≤ s.last) : startZ (tolS s p) m ≤ startZ (tolS s s.home.toNat) m := by
  have h1 := ok.h1; have t2 := ok.t2
  have hh : ((s.home.toNat : Nat) : Int) < s.places := by omega
  have okp := tol_ok ok hp
  have okh := tol_ok ok hh
  refine startZ_ge (startZ_le _ m).1 fun l hl => ?_
  obtain ⟨hne, hlB⟩ := part_B okh hl
  obtain ⟨k, -, ek, -⟩ := partsL_mem.1 hl
  obtain ⟨j, hj⟩ := Wider.start.bit_some hne
  have hjt : j < s.looks.length := by rw [ok.k1]; exact (hlB j hj).1
  -- the part is that truth alone
  have hbits : ∀ i, l.testBit i = true → i = j := fun i hi => by
    have hlk : ∀ i, l.testBit i = true → (i : Int) = k := fun i hi => by
      have hit : i < s.looks.length := by rw [ok.k1]; exact (hlB i hi).1
      rw [ek, partN_bit] at hi
      simp only [Bool.and_eq_true, beq_iff_eq] at hi
      have := hi.2.1
      rw [tol_look ok hh hit] at this
      rwa [if_pos (show (tolS s s.home.toNat).home.toNat = s.home.toNat from rfl)] at this
    have := hlk i hi
    have := hlk j hj
    omega
  obtain ⟨n, hn, hlk, hpm, hb⟩ := parts_has okp (p := s.home.toNat) (left := allN s) hh (show j < (tolS s p).looks.length from by show j < (vecF _ _).length; rw [vecF_len]; exact hjt) (by rw [allN_bit]; exact decide_eq_true (by rw [← ok.k1]; exact hjt))
  refine Int.le_trans ((startZ_le (tolS s p) m).2 _ hpm) ?_
  have hBt : ∀ i, (partN (tolS s p) s.home.toNat (allN s) n).testBit i = true → i < s.truths.length := fun i hi => by
    rw [partN_bit, Bool.and_eq_true, decide_eq_true_eq, okp.k1] at hi
    exact hi.1
  have wid : Wider (tolS s p) (tolS s p) := ⟨rfl, rfl, rfl, rfl, rfl, rfl, fun _ _ _ h => h, fun _ _ _ _ _ h => h⟩
  have s1 : worthZ (tolS s p) ⟨s.home.toNat, m, partN (tolS s p) s.home.toNat (allN s) n⟩ ≤ worthZ (tolS s p) ⟨s.home.toNat, m, l⟩ := wid.worth okp okp hm hh hne hBt fun i hi => by
    rw [hbits i hi]; exact hb
  refine Int.le_trans s1 ?_
  have hE : Emb (tolS s p) (tolS s s.home.toNat) id id fun i => i = j := by
    refine ⟨rfl, fun _ h => h, fun _ h => h, fun _ h => h, fun q t hq ht => ?_, fun i hi => ?_, fun i q m _ h => h, fun i k q hi hk _ => by rw [hi, hk]⟩
    · have hw := waysL_pos okp ht
      show (((t.1.toNat : Nat) : Int), t.2) ∈ waysL (tolS s s.home.toNat) q
      rw [Int.toNat_of_nonneg hw.2.2.1, ← (tol_wider ok hh).waysL]
      rw [← (tol_wider ok hp).waysL] at ht
      exact ht
    · subst hi
      exact ⟨by rw [← okp.k1]; show i < (vecF _ _).length; rw [vecF_len]; exact hjt, by rw [← okh.k1]; show i < (vecF _ _).length; rw [vecF_len]; exact hjt⟩
  exact worth_mono okp okh hE _ s.home.toNat m l l (Nat.le_refl _) hm hh hne (fun i hi => hbits i hi) fun i hi => ⟨i, hi, rfl⟩
end GA
end

section
namespace GA
open Go Go.RowKit Go.Proofs
set_option maxRecDepth 8000
set_option linter.unusedVariables false
set_option linter.unusedSimpArgs false

theorem vecF_map {α β : Type} (f : α → β) (W : Nat) (F : Nat → α) : (vecF W F).map f = vecF W fun i => f (F i) := by rw [vecF_eq, vecF_eq, List.map_map]; rfl
theorem vecF_succ {α : Type} (W : Nat) (F : Nat → α) : vecF (W + 1) F = vecF W F ++ [F W] := by rw [vecF_eq, vecF_eq, List.range_succ, List.map_append]; rfl
theorem lget_vec {α : Type} {W : Nat} {F : Nat → α} {i : Nat} (h : i < W) : lget (vecF W F) i = some (F i) := by rw [lget_eq, vecF_get?, if_pos h]
theorem lget_push {α : Type} {H : List α} {x : α} {i : Nat} (h : i = H.length) : lget (H ++ [x]) i = some x := by subst h; rw [lget_eq, List.getElem?_append_right (Nat.le_refl _), Nat.sub_self]; rfl
theorem set_push {α : Type} {H : List α} {x y : α} {i : Nat} (h : i = H.length) : (H ++ [x]).set i y = H ++ [y] := by subst h; rw [List.set_append_right _ _ (Nat.le_refl _), Nat.sub_self]; rfl
theorem hset_to {k : List Blk → Prop} {b : Blk} : ∀ {H : List Blk} {i : Nat} (H' : List Blk), i < H.length → H.set i b = H' → k H' → hset H i b k := by
  have key : ∀ (H : List Blk) (i : Nat) (k : List Blk → Prop), i < H.length → k (H.set i b) → hset H i b k := by
    intro H; induction H with
    | nil => intro i k h; simp at h
    | cons x H ih =>
      intro i k h hk
      cases i with
      | zero => exact hk
      | succ i => exact ih i _ (by simpa using h) hk
  intro H i H' h e hk
  exact key H i k h (by rw [e]; exact hk)
theorem hpush_to {k : Nat → List Blk → Prop} {b : Blk} {H : List Blk} {j : Nat} (n : Nat) (H' : List Blk) (hn : j + H.length = n) (e : H ++ [b] = H') (hk : k n H') : hpush H j b k := by
  have key : ∀ (H : List Blk) (j : Nat) (k : Nat → List Blk → Prop), k (j + H.length) (H ++ [b]) → hpush H j b k := by
    intro H; induction H with
    | nil => intro j k hk; exact hk
    | cons x H ih => intro j k hk; exact ih (j + 1) (fun i l => k i (x :: l)) (by rw [show j + 1 + H.length = j + (x :: H).length by rw [List.length_cons]; omega]; exact hk)
  exact key H j k (by rw [hn, e]; exact hk)
theorem XGet.to {els : List AV} {n e : Nat} {k : List AV → Prop} (v : AV) (h1 : n = els.length) (h2 : e < n) (hv : els.getD e default = v) (h : k v.cells) : XGet els n e k := ⟨h1, h2, by rw [hv]; exact h⟩
theorem XPut.to {els : List AV} {n e : Nat} {v : AV} {k : List AV → Prop} (els' : List AV) (h1 : n = els.length) (h2 : e < n) (hv : els.set e v = els') (h : k els') : XPut els n e v k := ⟨h1, h2, by rw [hv]; exact h⟩
theorem froz_vec {P : Program} {H : List Blk} {i W : Nat} {t : TypeId} {nl : Bool} {F G : Nat → AV} (hb : lget H i = some (.grow t nl (vecF W F))) (hsz : sz P t = 1) (hF : ∀ j, j < W → (F j).one = true) (hG : ∀ j, j < W → (G j).one = true) (hf : ∀ j, j < W → Froz P H (F j) (G j)) :
    Froz P H (.gr i W) (.sl nl (vecF W G)) := by
  have hF' : ∀ x ∈ vecF W F, x.one = true := fun x hx => by obtain ⟨j, hj, rfl⟩ := vecF_mem.1 hx; exact hF j hj
  have hG' : ∀ x ∈ vecF W G, x.one = true := fun x hx => by obtain ⟨j, hj, rfl⟩ := vecF_mem.1 hx; exact hG j hj
  refine Froz.gr hb (vecF_len _ _) (by rw [vecF_len, vecF_len]) (fun e he => by rw [cells_one (hG' e he)]; exact hsz.symm) (by rw [flat_one hG']; exact hG') ?_
  rw [flat_one hF', flat_one hG']
  refine ⟨by rw [vecF_len, vecF_len], fun j x e => ?_⟩
  rw [vecF_get?] at e
  by_cases hj : j < W
  · rw [if_pos hj] at e
    cases e
    exact ⟨F j, by rw [vecF_get?, if_pos hj], hf j hj⟩
  · rw [if_neg hj] at e; cases e
theorem XRun.heap {P : Program} {T : Tab} {N : Nat} {r : Option Nat} {own : List Nat} {c : Code} {Q : Post} {D : List Nat} {σ : St} {H : List Blk} (H' : List Blk) (h : H' = H) (x : XRun P T N r own c Q D σ H') : XRun P T N r own c Q D σ H := h ▸ x
end GA
end

section
namespace GA
open Go Go.RowKit Go.Proofs
set_option pp.deepTerms true
set_option maxRecDepth 8000
set_option linter.unusedVariables false
set_option linter.unusedSimpArgs false

structure XEndE (P : Program) (n : Nat) (H : List Blk) (r' : AV) (k : AV → List Blk → Prop) : Prop where
  o : ∃ r H1, XEnd P n H r' r H1 ∧ k r H1
theorem ACall.bodyE {P : Program} {T : Tab} {N : Nat} {H : List Blk} {f : FuncId} {fn : Func} {c : Code} {rs : List AV} {res : List ResultVar} {k : AV → List Blk → Prop} (ok : TabOk P T) (own : List Nat) (hf : P.funcs[f]? = some fn) (hb : fn.body = some c) (hn : (fn.name == "runtime.NumGoroutine") = false)
    (hN : fn.ntmps = N) (hr : fn.results = res.toArray) (hl : rs.length ≤ N)
    (x : XRun P T N none own c (XIn T res fun r' H' => XEndE P H.length H' r' k) [] (argX rs) H) : ACall P f rs H k := by
  obtain ⟨h1, h2⟩ := ACall.inl ok own hf hb hn hN hr hl x
  refine ⟨h1, fun E h β w vs s hrs => (h2 E h β w vs s hrs).mono ?_⟩
  rintro e w' ⟨r', H', h', β', v, rfl, ⟨r, H1, ⟨g1, g2, g3, g4⟩, hk⟩, X, s', hrep⟩
  have hH : H' = H1 ++ H'.drop H.length := by rw [← g1, List.take_append_drop]
  rw [hH] at s' X hrep g4
  have s2 := s'.allN (by rw [g2]; exact g3)
  have X2 : Ext h β H h' β' H1 := X.cut (by omega)
  rw [g2] at s2
  exact ⟨r, H1, _, β', v, rfl, hk, ⟨fun b o e => hallN_imm s' (X2.imm b o e), by omega, X2.to⟩, s2, g4 E h' β' w' s' v hrep H1⟩
def HpE (f : FuncId) (qs : List AV) (h : Hp) (Φ : AV → Hp → Prop) : Prop :=
  lowL 0 qs = true ∧ ACall Try.prog f (.ptr 0 0 :: qs) [hpC h] fun r' H' => ∃ r h', r.low 0 = true ∧ Φ r h' ∧ r' = r ∧ H' = [hpC h']
theorem XCall.hpE {f : FuncId} {qs : List AV} {h : Hp} {Φ : AV → Hp → Prop} (x : HpE f qs h Φ) {H : List Blk} {k : AV → List Blk → Prop} {j : Nat} (h0 : lget H j = some (hpC h))
    (hk : ∀ r h', Φ r h' → k r (H.set j (hpC h'))) : XCall Try.prog f (.ptr j 0 :: qs) H k := by
  constructor
  have e := ACall.frame (ρ := fun i => j + i) (H := H) (k := k) x.2 (fun a b _ _ h => by have : j + a = j + b := h; omega) ?_ (fun y hy => by simp at hy; subst hy; exact hpC_low h) ?_ ?_
  · have hd : renL (fun i => j + i) qs = qs := renL_low0 x.1
    rw [List.map_cons, ← renL_eq, hd] at e
    exact e
  · intro i x1 hi
    rw [lget_eq] at h0
    rcases i with _ | i
    · simp only [List.getElem?_cons_zero, Option.some.injEq] at hi; subst hi
      rw [hpC_ren]; exact h0
    · simp at hi
  · simp only [lowL, AV.low, lowL_mono (Nat.zero_le _) x.1]; rfl
  · rintro r1 H1' ⟨r, h', hr, hΦ, rfl, rfl⟩
    rw [lget_eq] at h0
    have hj := (List.getElem?_eq_some_iff.1 h0).1
    refine ⟨rfl, H.set j (hpC h'), by simp, fun i x1 hi => ?_, fun q hq => ?_, ?_⟩
    · rcases i with _ | i
      · simp only [List.getElem?_cons_zero, Option.some.injEq] at hi; subst hi
        rw [hpC_ren]; simp [hj]
      · simp at hi
    · exact List.getElem?_set_ne (by have := hq 0 (by simp); simpa using this)
    · rw [AV.ren_low (n := 0) (fun i hi => by omega) hr]; exact hk _ _ hΦ
theorem upto_e (u : Hp) (n : Int) (o : u.Ok) (h1 : -100000 ≤ n) (h2 : n ≤ 100000) : ∃ z u', (0 ≤ z ∧ z ≤ max 0 n) ∧ Hp.Ok u' ∧ HpOk 14 [.int .i64 n] u (.int .i64 z) u' :=
  ⟨_, _, modV_bound u n, hpS_ok o, upto_c u n o h1 h2⟩
theorem from_e (u : Hp) (lo hi : Int) (o : u.Ok) (h1 : -10000 ≤ lo) (h2 : lo ≤ 10000) (h3 : -10000 ≤ hi) (h4 : hi ≤ 10000) : ∃ z u', (lo ≤ z ∧ z ≤ max lo hi) ∧ Hp.Ok u' ∧ HpOk 46 [.int .i64 lo, .int .i64 hi] u (.int .i64 z) u' :=
  ⟨_, _, by have := modV_bound u (hi - lo); omega, hpS_ok o, from_c u lo hi o h1 h2 h3 h4⟩
theorem once_e (u : Hp) (n : Int) (o : u.Ok) (h1 : -10000 ≤ n) (h2 : n ≤ 10000) : ∃ b u', Hp.Ok u' ∧ HpOk 59 [.int .i64 n] u (.bool b) u' :=
  ⟨_, _, hpS_ok o, once_c u n o h1 h2⟩
structure MkOk (s : Sn) (last : Int) : Prop where
  ok : SnOk s
  b : SnB s
  p : 2 ≤ s.places
  h : s.home = 0
  l1 : 4 ≤ s.last
  l2 : s.last ≤ last
  b1 : 1 ≤ s.bed
structure WyOk (P p : Int) (W : List Wy) : Prop where
  w : ∀ w ∈ W, 1 ≤ w.2.2 ∧ w.2.2 ≤ 5 ∧ ((w.1 = w.2.1 - 1 ∧ 1 ≤ w.2.1 ∧ w.2.1 < p) ∨ (0 ≤ w.2.1 ∧ w.2.1 ≤ w.1 - 2 ∧ w.1 < p))
  n : ∀ i, i < W.length → ((W.getD i default).1 == (W.getD i default).2.1 || (W.take i).any fun x => leadB x (W.getD i default).1 (W.getD i default).2.1) = false
  l : (W.length : Int) ≤ 2 * (p - 1)
theorem WyOk.nil {P : Int} : WyOk P 1 [] := ⟨by simp, fun i hi => by simp at hi, by simp⟩
theorem rep_app {W : List Wy} {w : Wy} (h : ∀ i, i < W.length → ((W.getD i default).1 == (W.getD i default).2.1 || (W.take i).any fun x => leadB x (W.getD i default).1 (W.getD i default).2.1) = false) (h1 : w.1 ≠ w.2.1) (h2 : ∀ x ∈ W, leadB x w.1 w.2.1 = false) :
    ∀ i, i < (W ++ [w]).length → (((W ++ [w]).getD i default).1 == ((W ++ [w]).getD i default).2.1 || ((W ++ [w]).take i).any fun x => leadB x ((W ++ [w]).getD i default).1 ((W ++ [w]).getD i default).2.1) = false := by
  intro i hi
  rw [List.length_append, List.length_singleton] at hi
  by_cases e : i < W.length
  · have e1 : (W ++ [w]).getD i default = W.getD i default := by rw [List.getD_eq_getElem?_getD, List.getD_eq_getElem?_getD, List.getElem?_append_left e]
    rw [e1, List.take_append_of_le_length (by omega)]
    exact h i e
  · have e0 : i = W.length := by omega
    have e1 : (W ++ [w]).getD i default = w := by rw [List.getD_eq_getElem?_getD, e0, List.getElem?_append_right (Nat.le_refl _), Nat.sub_self]; rfl
    rw [e1, e0, List.take_append_of_le_length (Nat.le_refl _), List.take_length, Bool.or_eq_false_iff]
    refine ⟨by simpa using h1, ?_⟩
    rw [List.any_eq_false]
    intro x hx
    rw [h2 x hx]; simp
theorem WyOk.one {P p m : Int} {W : List Wy} (h : WyOk P p W) (hp : 1 ≤ p) (h1 : 1 ≤ m) (h2 : m ≤ 5) : WyOk P (p + 1) (W ++ [(p - 1, p, m)]) := by
  refine ⟨fun w hw => ?_, rep_app h.n (by dsimp only; omega) fun x hx => ?_, ?_⟩
  · rcases List.mem_append.1 hw with hw | hw
    · have := h.w w hw; omega
    · rw [List.mem_singleton] at hw; subst hw; dsimp only; omega
  · rw [← Bool.not_eq_true, leadB_iff]
    have := h.w x hx
    dsimp only; omega
  · have := h.l
    rw [List.length_append, List.length_singleton]; omega
theorem WyOk.two {P p q m m2 : Int} {W : List Wy} (h : WyOk P p W) (hp : 1 ≤ p) (h1 : 1 ≤ m) (h2 : m ≤ 5) (h3 : 1 ≤ m2) (h4 : m2 ≤ 5) (hq : 0 ≤ q) (hq2 : q ≤ p - 2) : WyOk P (p + 1) ((W ++ [(p - 1, p, m)]) ++ [(p, q, m2)]) := by
  have h' := h.one hp h1 h2
  refine ⟨fun w hw => ?_, rep_app h'.n (by dsimp only; omega) fun x hx => ?_, ?_⟩
  · rcases List.mem_append.1 hw with hw | hw
    · exact h'.w w hw
    · rw [List.mem_singleton] at hw; subst hw; dsimp only; omega
  · rw [← Bool.not_eq_true, leadB_iff]
    dsimp only
    rcases List.mem_append.1 hx with hx | hx
    · have := h.w x hx; omega
    · rw [List.mem_singleton] at hx; subst hx; dsimp only; omega
  · have := h.l
    rw [List.length_append, List.length_append, List.length_singleton, List.length_singleton]; omega
theorem mk_ok {P bed last lim : Int} {W : List Wy} {looks : List Rw} {truths : List Tru} {nw nk nt : Bool} (hP : 2 ≤ P ∧ P ≤ 5) (hb : 1 ≤ bed ∧ bed ≤ P - 1) (hl : 4 ≤ last ∧ last ≤ lim) (hlim : lim ≤ 60) (hW : WyOk P P W)
    (hk : ∀ r ∈ looks, (r.2.length : Int) = P ∧ ∀ n ∈ r.2, 0 ≤ n ∧ n ≤ 3) (ht : ∀ t ∈ truths, (t.2.length : Int) = P ∧ ∀ r ∈ t.2, spE last none r.2 = 0 ∧ r.2.length ≤ 2) (hkl : looks.length = truths.length) (ht1 : 1 ≤ truths.length) (ht2 : truths.length ≤ 4) :
    MkOk ⟨P, 0, bed, last, nw, W, nk, looks, nt, truths⟩ lim := by
  have hwl := hW.l
  refine ⟨⟨by dsimp only; omega, by dsimp only; omega, ht1, ht2, by dsimp only; omega, hkl, fun l h => (hk l h).1, fun t h => (ht t h).1, by dsimp only; omega, by dsimp only; omega, fun w hw => ?_, fun l h n hn => (hk l h).2 n hn, by dsimp only; omega, by dsimp only; omega, fun w hw => ?_, by dsimp only; omega, hW.n, fun t h r hr => ((ht t h).2 r hr).1⟩,
    ⟨by dsimp only; omega, by dsimp only; omega, by dsimp only; omega, fun r h => by have := (hk r h).1; omega, fun t h => by have := (ht t h).1; omega, fun t h r hr => by have := ((ht t h).2 r hr).2; omega⟩, hP.1, rfl, hl.1, hl.2, hb.1⟩
  · have := hW.w w hw; first | omega | (dsimp only; omega)
  · have := hW.w w hw; first | omega | (dsimp only; omega)
theorem sp_one {last lo hi : Int} (h1 : 0 ≤ lo) (h2 : lo ≤ hi) (h3 : hi ≤ last) : spE last none [(lo, hi)] = 0 := by
  rw [spE, spE]
  rw [if_neg (by rw [inZ_iff.2 ⟨h1, by first | omega | (dsimp only; omega)⟩, inZ_iff.2 ⟨h2, h3⟩]; simp), if_neg (by simp [spBad])]
theorem sp_two {last lo cut hi : Int} (h1 : 0 ≤ lo) (h2 : lo + 1 < cut) (h3 : cut < hi - 1) (h4 : hi ≤ last) : spE last none [(lo, cut - 1), (cut + 1, hi)] = 0 := by
  rw [spE, spE, spE]
  rw [if_neg (by rw [inZ_iff.2 ⟨h1, by first | omega | (dsimp only; omega)⟩, inZ_iff.2 ⟨by first | omega | (dsimp only; omega), by first | omega | (dsimp only; omega)⟩]; simp), if_neg (by simp [spBad]), if_neg (by rw [inZ_iff.2 ⟨by first | omega | (dsimp only; omega), by first | omega | (dsimp only; omega)⟩, inZ_iff.2 ⟨by first | omega | (dsimp only; omega), by first | omega | (dsimp only; omega)⟩]; simp), if_neg (by show ¬ decide (cut + 1 ≤ cut - 1 + 1) = true; simp; omega)]
end GA
end

section
namespace GA
open Go Go.RowKit Go.Proofs
set_option pp.deepTerms true
set_option maxRecDepth 8000
set_option linter.unusedVariables false
set_option linter.unusedSimpArgs false

def zSn : List AV := [.int .i64 0, .int .i64 0, .int .i64 0, .int .i64 0, .sl true [], .sl true [], .sl true []]
theorem ints_app (a b : List Int) : ints (a ++ b) = ints a ++ ints b := List.map_append
theorem hpLow {h : Hp} {x : Blk} (hx : x ∈ [hpC h]) : x.low 1 = true := by rw [List.mem_singleton] at hx; subst hx; exact hpC_low _
theorem Walk.heapE {P : Program} {N : Nat} {r : Option Nat} {c : Code} {Q : Post} {D : List Nat} {σ : St} {H : List Blk} (H' : List Blk) (h : H' = H) (x : Walk P N r c Q D σ H') : Walk P N r c Q D σ H := h ▸ x
set_option maxHeartbeats 8000000 in
theorem fordMade_c (u : Hp) (last : Int) (o : u.Ok) (hl1 : 4 ≤ last) (hl2 : last ≤ 60) : HpE 12 [.int .i64 last] u fun r u' => ∃ s, r = snA s ∧ MkOk s last ∧ u'.Ok := by
  refine ⟨rfl, ?_⟩
  obtain ⟨P, u1, hP, o1, hc1⟩ := from_e u 2 5 o (by omega) (by omega) (by omega) (by omega)
  have hmn : min 4 last = 4 := by omega
  obtain ⟨L, u2, hL, o2, hc2⟩ := from_e u1 4 last o1 (by omega) (by omega) (by omega) (by omega)
  obtain ⟨bd, u3, hbd, o3, hc3⟩ := from_e u2 1 (P - 1) o2 (by omega) (by omega) (by omega) (by omega)
  rw [← hmn] at hc2
  refine ACall.bodyE (T := tab) (res := [.cell 4 27]) tab_ok [] Try.func12 rfl (by kernel_rfl) Try.ntmps12 rfl (by simp only [List.length_cons, List.length_nil]; decide) ?_; conv => whnf
  repeat' first | ((with_reducible first | apply XBr.tt | apply XBr.ff | apply Chk.go | apply ChkA.go | apply ChkF.go | apply ChkB.go | apply XArr.pim0 | apply XArr.pim1); conv => whnf) | (with_reducible apply XBr.not) | ((with_reducible apply XBr.dec) <;> (intro h; first | (exfalso; omega) | ((try simp only [List.length_map] at h); first | (exfalso; omega) | (conv => whnf)))) | ((with_reducible first | apply XBr.beq | apply XBr.bne) <;> (intro h; first | (exfalso; omega) | (conv => whnf))) | ((with_reducible refine XInt.i64 (by omega) (by omega) ?_); conv => whnf) | ((with_reducible refine XHold.mk ?_ ?_); (first | omega | rfl | decide | exact ⟨rfl, by decide, rfl⟩ | exact wideI _ | exact widePr _ | exact wideSk _ | (unfold Room; constructor <;> ((try simp) <;> omega)) | exact ⟨rfl, by simp only [List.length_map], by unfold Room; constructor <;> ((try simp) <;> omega)⟩ | exact ⟨by omega, by omega, by unfold Room; constructor <;> ((try simp) <;> omega)⟩); conv => whnf) | ((first | ((with_reducible refine XIx.nat ?_ ?_ ?_); omega; (intro _; rfl)) | ((with_reducible refine XIx.map ?_ ?_ ?_ ?_); omega; omega; (intro _; rfl))); conv => whnf) | (with_reducible apply XAnd.mk) | (exact XSame.mk rfl rfl) | (exact XSame.mk (by first | rfl | (simp only [List.map_append, List.length_append, List.length_map]; done) | (simp only [List.map_append, List.length_append, List.length_map]; rfl)) (by first | rfl | (simp only [List.map_append]; done) | (simp only [List.map_append]; rfl))) | (with_reducible exact trivial) | ((first | (with_reducible refine xdrop_app (by rw [List.length_map]; omega) ?_) | (with_reducible refine XDrop.desk (by assumption) ?_) | (with_reducible first | refine XArr.ints (by omega) (by omega) (by omega) ?_ | refine XArr.intsA (by omega) (by omega) (by omega) ?_) | ((with_reducible first | refine XArr.nats ?_ ?_ ?_ | refine XArr.natsA ?_ ?_ ?_ | refine XArr.ptr ?_ ?_ ?_); omega; omega)); conv => whnf) | (apply Walk.drawN (id := 6) tab_ok mixed_ok [] [6, 9, 11] (hsC [_, _, _, _]) [_, _, _, _, _, _, _, _, _, _, _, _] (by kernel_rfl) rfl) | (apply Walk.drawN (id := 17) tab_ok mixed_ok [] [1, 8] (hsC [_, _, _]) [_, _, _, _, _, _, _, _, _, _, _, _] (by kernel_rfl) rfl) | (apply Walk.drawN (id := 19) tab_ok mixed_ok [] [] (hsU _) [_, _, _, _] (by kernel_rfl) rfl) | ((first | (with_reducible apply XNext.mk) | (refine XCall.hp (j := 0) hc1 rfl rfl ?_) | (refine XCall.hp (j := 0) hc2 rfl rfl ?_) | (refine XCall.hp (j := 0) hc3 rfl rfl ?_)); conv => whnf) | ((with_reducible apply XBr.mk') <;> (intro h; conv => whnf))
  refine Walk.nilcell 2 4 86 rfl rfl ?_
  refine Walk.heapE [hpC u3, .cells zSn, .cells [.int .i64 P, .int .i64 0, .int .i64 bd, .int .i64 L, .gr 3 0, .sl true [], .sl true []], .grow 86 true []] rfl ?_
  clear hc1 hc2 hc3 hmn o o1 o2
  refine Walk.loopK tab_ok [] [(0, _), (4, _), (5, _)] ⟨rfl, rfl, rfl, trivial⟩ (fun g : Nat × List Wy × Hp => (1 ≤ g.1 ∧ (g.1 : Int) ≤ P) ∧ g.2.2.Ok ∧ WyOk P g.1 g.2.1) (fun g => [(6, natA g.1)]) (fun g => [hpC g.2.2, .cells zSn, .cells [.int .i64 P, .int .i64 0, .int .i64 bd, .int .i64 L, .gr 3 g.2.1.length, .sl true [], .sl true []], .grow 86 g.2.1.isEmpty (g.2.1.map wyA)]) (fun g => P.toNat - g.1) (1, [], u3) ⟨⟨Nat.le_refl _, by dsimp only; omega⟩, o3, WyOk.nil⟩ rfl ⟨rfl, trivial⟩ ?_
  clear o3
  rintro ⟨p, W, v⟩ ⟨⟨hp1, hp2⟩, ov, hW⟩
  dsimp only at hp1 hp2 ov hW ⊢
  have hWl := hW.l
  have hWm : (W.map wyA).length = W.length := List.length_map _
  conv => whnf
  by_cases hlt : (p : Int) < P
  · obtain ⟨m1, v1, hm1, ov1, hd1⟩ := from_e v 1 3 ov (by omega) (by omega) (by omega) (by omega)
    have hW1 := hW.one (m := m1) (by omega) (by omega) (by omega)
    by_cases hp : 1 < p
    · obtain ⟨b, v2, ov2, hd2⟩ := once_e v1 3 ov1 (by omega) (by omega)
      cases b with
      | false =>
        repeat' first | ((with_reducible first | apply XBr.tt | apply XBr.ff | apply Chk.go | apply ChkA.go | apply ChkF.go | apply ChkB.go | apply XArr.pim0 | apply XArr.pim1); conv => whnf) | (with_reducible apply XBr.not) | ((with_reducible apply XBr.dec) <;> (intro h; first | (exfalso; omega) | ((try simp only [List.length_map] at h); first | (exfalso; omega) | (conv => whnf)))) | ((with_reducible first | apply XBr.beq | apply XBr.bne) <;> (intro h; first | (exfalso; omega) | (conv => whnf))) | ((with_reducible refine XInt.i64 (by omega) (by omega) ?_); conv => whnf) | ((with_reducible refine XHold.mk ?_ ?_); (first | omega | rfl | decide | exact ⟨rfl, by decide, rfl⟩ | exact wideI _ | exact widePr _ | exact wideSk _ | (unfold Room; constructor <;> ((try simp) <;> omega)) | exact ⟨rfl, by simp only [List.length_map], by unfold Room; constructor <;> ((try simp) <;> omega)⟩ | exact ⟨by omega, by omega, by unfold Room; constructor <;> ((try simp) <;> omega)⟩); conv => whnf) | ((first | ((with_reducible refine XIx.nat ?_ ?_ ?_); omega; (intro _; rfl)) | ((with_reducible refine XIx.map ?_ ?_ ?_ ?_); omega; omega; (intro _; rfl))); conv => whnf) | (with_reducible apply XAnd.mk) | (exact XSame.mk rfl rfl) | (exact XSame.mk (by first | rfl | (simp only [List.map_append, List.length_append, List.length_map]; done) | (simp only [List.map_append, List.length_append, List.length_map]; rfl)) (by first | rfl | (simp only [List.map_append]; done) | (simp only [List.map_append]; rfl))) | (with_reducible exact trivial) | ((first | (with_reducible refine xdrop_app (by rw [List.length_map]; omega) ?_) | (with_reducible refine XDrop.desk (by assumption) ?_) | (with_reducible first | refine XArr.ints (by omega) (by omega) (by omega) ?_ | refine XArr.intsA (by omega) (by omega) (by omega) ?_) | ((with_reducible first | refine XArr.nats ?_ ?_ ?_ | refine XArr.natsA ?_ ?_ ?_ | refine XArr.ptr ?_ ?_ ?_); omega; omega)); conv => whnf) | (apply Walk.drawN (id := 6) tab_ok mixed_ok [] [6, 9, 11] (hsC [_, _, _, _]) [_, _, _, _, _, _, _, _, _, _, _, _] (by kernel_rfl) rfl) | (apply Walk.drawN (id := 17) tab_ok mixed_ok [] [1, 8] (hsC [_, _, _]) [_, _, _, _, _, _, _, _, _, _, _, _] (by kernel_rfl) rfl) | (apply Walk.drawN (id := 19) tab_ok mixed_ok [] [] (hsU _) [_, _, _, _] (by kernel_rfl) rfl) | ((first | (with_reducible apply XNext.mk) | (refine XCall.hp (j := 0) hd1 rfl rfl ?_) | (refine XCall.hp (j := 0) hd2 rfl rfl ?_)); conv => whnf) | ((refine XHold.mk ⟨rfl, hWm, by unfold Room; constructor <;> ((try simp) <;> omega)⟩ ?_); conv => whnf) | ((with_reducible apply XBr.mk') <;> (intro h; conv => whnf))
        refine XAgain.go (p + 1, W ++ [((p : Int) - 1, (p : Int), m1)], v2) ⟨⟨by dsimp only; omega, by dsimp only; omega⟩, ov2, hW1⟩ (by dsimp only; omega) ?_ ⟨rfl, rfl, rfl, rfl, trivial⟩
        dsimp only
        rw [List.length_append, isEmpty_app, List.map_append]; rfl
      | true =>
        obtain ⟨q, v3, hq, ov3, hd3⟩ := upto_e v2 ((p : Int) - 2) ov2 (by omega) (by omega)
        obtain ⟨m2, v4, hm2, ov4, hd4⟩ := from_e v3 1 5 ov3 (by omega) (by omega) (by omega) (by omega)
        have hW2 := hW.two (m := m1) (q := q) (m2 := m2) (by omega) (by omega) (by omega) (by omega) (by omega) (by omega) (by omega)
        repeat' first | ((with_reducible first | apply XBr.tt | apply XBr.ff | apply Chk.go | apply ChkA.go | apply ChkF.go | apply ChkB.go | apply XArr.pim0 | apply XArr.pim1); conv => whnf) | (with_reducible apply XBr.not) | ((with_reducible apply XBr.dec) <;> (intro h; first | (exfalso; omega) | ((try simp only [List.length_map] at h); first | (exfalso; omega) | (conv => whnf)))) | ((with_reducible first | apply XBr.beq | apply XBr.bne) <;> (intro h; first | (exfalso; omega) | (conv => whnf))) | ((with_reducible refine XInt.i64 (by omega) (by omega) ?_); conv => whnf) | ((with_reducible refine XHold.mk ?_ ?_); (first | omega | rfl | decide | exact ⟨rfl, by decide, rfl⟩ | exact wideI _ | exact widePr _ | exact wideSk _ | (unfold Room; constructor <;> ((try simp) <;> omega)) | exact ⟨rfl, by simp only [List.length_map], by unfold Room; constructor <;> ((try simp) <;> omega)⟩ | exact ⟨by omega, by omega, by unfold Room; constructor <;> ((try simp) <;> omega)⟩); conv => whnf) | ((first | ((with_reducible refine XIx.nat ?_ ?_ ?_); omega; (intro _; rfl)) | ((with_reducible refine XIx.map ?_ ?_ ?_ ?_); omega; omega; (intro _; rfl))); conv => whnf) | (with_reducible apply XAnd.mk) | (exact XSame.mk rfl rfl) | (exact XSame.mk (by first | rfl | (simp only [List.map_append, List.length_append, List.length_map]; done) | (simp only [List.map_append, List.length_append, List.length_map]; rfl)) (by first | rfl | (simp only [List.map_append]; done) | (simp only [List.map_append]; rfl))) | (with_reducible exact trivial) | ((first | (with_reducible refine xdrop_app (by rw [List.length_map]; omega) ?_) | (with_reducible refine XDrop.desk (by assumption) ?_) | (with_reducible first | refine XArr.ints (by omega) (by omega) (by omega) ?_ | refine XArr.intsA (by omega) (by omega) (by omega) ?_) | ((with_reducible first | refine XArr.nats ?_ ?_ ?_ | refine XArr.natsA ?_ ?_ ?_ | refine XArr.ptr ?_ ?_ ?_); omega; omega)); conv => whnf) | (apply Walk.drawN (id := 6) tab_ok mixed_ok [] [6, 9, 11] (hsC [_, _, _, _]) [_, _, _, _, _, _, _, _, _, _, _, _] (by kernel_rfl) rfl) | (apply Walk.drawN (id := 17) tab_ok mixed_ok [] [1, 8] (hsC [_, _, _]) [_, _, _, _, _, _, _, _, _, _, _, _] (by kernel_rfl) rfl) | (apply Walk.drawN (id := 19) tab_ok mixed_ok [] [] (hsU _) [_, _, _, _] (by kernel_rfl) rfl) | ((first | (with_reducible apply XNext.mk) | (refine XCall.hp (j := 0) hd1 rfl rfl ?_) | (refine XCall.hp (j := 0) hd2 rfl rfl ?_)); conv => whnf) | ((refine XHold.mk ⟨rfl, hWm, by unfold Room; constructor <;> ((try simp) <;> omega)⟩ ?_); conv => whnf) | ((with_reducible apply XBr.mk') <;> (intro h; conv => whnf))
        apply Walk.drawX tab_ok mixed_ok [] [6, 8, 11, 13] (hsC [_, _, _, _, _]) [_, _, _, _, _, _, _, _, _, _, _, _, _, _] (by kernel_rfl) rfl
        · skip
          repeat' first | ((with_reducible first | apply XBr.tt | apply XBr.ff | apply Chk.go | apply ChkA.go | apply ChkF.go | apply ChkB.go | apply XArr.pim0 | apply XArr.pim1); conv => whnf) | (with_reducible apply XBr.not) | ((with_reducible apply XBr.dec) <;> (intro h; first | (exfalso; omega) | ((try simp only [List.length_map] at h); first | (exfalso; omega) | (conv => whnf)))) | ((with_reducible first | apply XBr.beq | apply XBr.bne) <;> (intro h; first | (exfalso; omega) | (conv => whnf))) | ((with_reducible refine XInt.i64 (by omega) (by omega) ?_); conv => whnf) | ((with_reducible refine XHold.mk ?_ ?_); (first | omega | rfl | decide | exact ⟨rfl, by decide, rfl⟩ | exact wideI _ | exact widePr _ | exact wideSk _ | (unfold Room; constructor <;> ((try simp) <;> omega)) | exact ⟨rfl, by simp only [List.length_map], by unfold Room; constructor <;> ((try simp) <;> omega)⟩ | exact ⟨by omega, by omega, by unfold Room; constructor <;> ((try simp) <;> omega)⟩); conv => whnf) | ((first | ((with_reducible refine XIx.nat ?_ ?_ ?_); omega; (intro _; rfl)) | ((with_reducible refine XIx.map ?_ ?_ ?_ ?_); omega; omega; (intro _; rfl))); conv => whnf) | (with_reducible apply XAnd.mk) | (exact XSame.mk rfl rfl) | (exact XSame.mk (by first | rfl | (simp only [List.map_append, List.length_append, List.length_map]; done) | (simp only [List.map_append, List.length_append, List.length_map]; rfl)) (by first | rfl | (simp only [List.map_append]; done) | (simp only [List.map_append]; rfl))) | (with_reducible exact trivial) | ((first | (with_reducible refine xdrop_app (by rw [List.length_map]; omega) ?_) | (with_reducible refine XDrop.desk (by assumption) ?_) | (with_reducible first | refine XArr.ints (by omega) (by omega) (by omega) ?_ | refine XArr.intsA (by omega) (by omega) (by omega) ?_) | ((with_reducible first | refine XArr.nats ?_ ?_ ?_ | refine XArr.natsA ?_ ?_ ?_ | refine XArr.ptr ?_ ?_ ?_); omega; omega)); conv => whnf) | (apply Walk.drawN (id := 6) tab_ok mixed_ok [] [6, 9, 11] (hsC [_, _, _, _]) [_, _, _, _, _, _, _, _, _, _, _, _] (by kernel_rfl) rfl) | (apply Walk.drawN (id := 17) tab_ok mixed_ok [] [1, 8] (hsC [_, _, _]) [_, _, _, _, _, _, _, _, _, _, _, _] (by kernel_rfl) rfl) | (apply Walk.drawN (id := 19) tab_ok mixed_ok [] [] (hsU _) [_, _, _, _] (by kernel_rfl) rfl) | ((first | (with_reducible apply XNext.mk) | (refine XCall.hp (j := 0) hd3 rfl rfl ?_) | (refine XCall.hp (j := 0) hd4 rfl rfl ?_)); conv => whnf) | ((refine XHold.mk ⟨rfl, by rw [List.length_append, hWm]; rfl, by unfold Room; constructor <;> ((try simp) <;> omega)⟩ ?_); conv => whnf) | ((with_reducible apply XBr.mk') <;> (intro h; conv => whnf))
        · skip
          repeat' first | ((with_reducible first | apply XBr.tt | apply XBr.ff | apply Chk.go | apply ChkA.go | apply ChkF.go | apply ChkB.go | apply XArr.pim0 | apply XArr.pim1); conv => whnf) | (with_reducible apply XBr.not) | ((with_reducible apply XBr.dec) <;> (intro h; first | (exfalso; omega) | ((try simp only [List.length_map] at h); first | (exfalso; omega) | (conv => whnf)))) | ((with_reducible first | apply XBr.beq | apply XBr.bne) <;> (intro h; first | (exfalso; omega) | (conv => whnf))) | ((with_reducible refine XInt.i64 (by omega) (by omega) ?_); conv => whnf) | ((with_reducible refine XHold.mk ?_ ?_); (first | omega | rfl | decide | exact ⟨rfl, by decide, rfl⟩ | exact wideI _ | exact widePr _ | exact wideSk _ | (unfold Room; constructor <;> ((try simp) <;> omega)) | exact ⟨rfl, by simp only [List.length_map], by unfold Room; constructor <;> ((try simp) <;> omega)⟩ | exact ⟨by omega, by omega, by unfold Room; constructor <;> ((try simp) <;> omega)⟩); conv => whnf) | ((first | ((with_reducible refine XIx.nat ?_ ?_ ?_); omega; (intro _; rfl)) | ((with_reducible refine XIx.map ?_ ?_ ?_ ?_); omega; omega; (intro _; rfl))); conv => whnf) | (with_reducible apply XAnd.mk) | (exact XSame.mk rfl rfl) | (exact XSame.mk (by first | rfl | (simp only [List.map_append, List.length_append, List.length_map]; done) | (simp only [List.map_append, List.length_append, List.length_map]; rfl)) (by first | rfl | (simp only [List.map_append]; done) | (simp only [List.map_append]; rfl))) | (with_reducible exact trivial) | ((first | (with_reducible refine xdrop_app (by rw [List.length_map]; omega) ?_) | (with_reducible refine XDrop.desk (by assumption) ?_) | (with_reducible first | refine XArr.ints (by omega) (by omega) (by omega) ?_ | refine XArr.intsA (by omega) (by omega) (by omega) ?_) | ((with_reducible first | refine XArr.nats ?_ ?_ ?_ | refine XArr.natsA ?_ ?_ ?_ | refine XArr.ptr ?_ ?_ ?_); omega; omega)); conv => whnf) | (apply Walk.drawN (id := 6) tab_ok mixed_ok [] [6, 9, 11] (hsC [_, _, _, _]) [_, _, _, _, _, _, _, _, _, _, _, _] (by kernel_rfl) rfl) | (apply Walk.drawN (id := 17) tab_ok mixed_ok [] [1, 8] (hsC [_, _, _]) [_, _, _, _, _, _, _, _, _, _, _, _] (by kernel_rfl) rfl) | (apply Walk.drawN (id := 19) tab_ok mixed_ok [] [] (hsU _) [_, _, _, _] (by kernel_rfl) rfl) | ((first | (with_reducible apply XNext.mk) | (refine XCall.hp (j := 0) hd3 rfl rfl ?_) | (refine XCall.hp (j := 0) hd4 rfl rfl ?_)); conv => whnf) | ((refine XHold.mk ⟨rfl, by rw [List.length_append, hWm]; rfl, by unfold Room; constructor <;> ((try simp) <;> omega)⟩ ?_); conv => whnf) | ((with_reducible apply XBr.mk') <;> (intro h; conv => whnf))
        conv => whnf
        repeat' first | ((with_reducible first | apply XBr.tt | apply XBr.ff | apply Chk.go | apply ChkA.go | apply ChkF.go | apply ChkB.go | apply XArr.pim0 | apply XArr.pim1); conv => whnf) | (with_reducible apply XBr.not) | ((with_reducible apply XBr.dec) <;> (intro h; first | (exfalso; omega) | ((try simp only [List.length_map] at h); first | (exfalso; omega) | (conv => whnf)))) | ((with_reducible first | apply XBr.beq | apply XBr.bne) <;> (intro h; first | (exfalso; omega) | (conv => whnf))) | ((with_reducible refine XInt.i64 (by omega) (by omega) ?_); conv => whnf) | ((with_reducible refine XHold.mk ?_ ?_); (first | omega | rfl | decide | exact ⟨rfl, by decide, rfl⟩ | exact wideI _ | exact widePr _ | exact wideSk _ | (unfold Room; constructor <;> ((try simp) <;> omega)) | exact ⟨rfl, by simp only [List.length_map], by unfold Room; constructor <;> ((try simp) <;> omega)⟩ | exact ⟨by omega, by omega, by unfold Room; constructor <;> ((try simp) <;> omega)⟩); conv => whnf) | ((first | ((with_reducible refine XIx.nat ?_ ?_ ?_); omega; (intro _; rfl)) | ((with_reducible refine XIx.map ?_ ?_ ?_ ?_); omega; omega; (intro _; rfl))); conv => whnf) | (with_reducible apply XAnd.mk) | (exact XSame.mk rfl rfl) | (exact XSame.mk (by first | rfl | (simp only [List.map_append, List.length_append, List.length_map]; done) | (simp only [List.map_append, List.length_append, List.length_map]; rfl)) (by first | rfl | (simp only [List.map_append]; done) | (simp only [List.map_append]; rfl))) | (with_reducible exact trivial) | ((first | (with_reducible refine xdrop_app (by rw [List.length_map]; omega) ?_) | (with_reducible refine XDrop.desk (by assumption) ?_) | (with_reducible first | refine XArr.ints (by omega) (by omega) (by omega) ?_ | refine XArr.intsA (by omega) (by omega) (by omega) ?_) | ((with_reducible first | refine XArr.nats ?_ ?_ ?_ | refine XArr.natsA ?_ ?_ ?_ | refine XArr.ptr ?_ ?_ ?_); omega; omega)); conv => whnf) | (apply Walk.drawN (id := 6) tab_ok mixed_ok [] [6, 9, 11] (hsC [_, _, _, _]) [_, _, _, _, _, _, _, _, _, _, _, _] (by kernel_rfl) rfl) | (apply Walk.drawN (id := 17) tab_ok mixed_ok [] [1, 8] (hsC [_, _, _]) [_, _, _, _, _, _, _, _, _, _, _, _] (by kernel_rfl) rfl) | (apply Walk.drawN (id := 19) tab_ok mixed_ok [] [] (hsU _) [_, _, _, _] (by kernel_rfl) rfl) | ((with_reducible apply XNext.mk); conv => whnf) | ((with_reducible apply XBr.mk') <;> (intro h; conv => whnf))
        refine XAgain.go (p + 1, (W ++ [((p : Int) - 1, (p : Int), m1)]) ++ [((p : Int), q, m2)], v4) ⟨⟨by dsimp only; omega, by dsimp only; omega⟩, ov4, hW2⟩ (by dsimp only; omega) ?_ ⟨rfl, rfl, rfl, rfl, trivial⟩
        dsimp only
        rw [List.length_append, isEmpty_app, List.map_append, List.length_append, isEmpty_app, List.map_append]; rfl
    · skip
      repeat' first | ((with_reducible first | apply XBr.tt | apply XBr.ff | apply Chk.go | apply ChkA.go | apply ChkF.go | apply ChkB.go | apply XArr.pim0 | apply XArr.pim1); conv => whnf) | (with_reducible apply XBr.not) | ((with_reducible apply XBr.dec) <;> (intro h; first | (exfalso; omega) | ((try simp only [List.length_map] at h); first | (exfalso; omega) | (conv => whnf)))) | ((with_reducible first | apply XBr.beq | apply XBr.bne) <;> (intro h; first | (exfalso; omega) | (conv => whnf))) | ((with_reducible refine XInt.i64 (by omega) (by omega) ?_); conv => whnf) | ((with_reducible refine XHold.mk ?_ ?_); (first | omega | rfl | decide | exact ⟨rfl, by decide, rfl⟩ | exact wideI _ | exact widePr _ | exact wideSk _ | (unfold Room; constructor <;> ((try simp) <;> omega)) | exact ⟨rfl, by simp only [List.length_map], by unfold Room; constructor <;> ((try simp) <;> omega)⟩ | exact ⟨by omega, by omega, by unfold Room; constructor <;> ((try simp) <;> omega)⟩); conv => whnf) | ((first | ((with_reducible refine XIx.nat ?_ ?_ ?_); omega; (intro _; rfl)) | ((with_reducible refine XIx.map ?_ ?_ ?_ ?_); omega; omega; (intro _; rfl))); conv => whnf) | (with_reducible apply XAnd.mk) | (exact XSame.mk rfl rfl) | (exact XSame.mk (by first | rfl | (simp only [List.map_append, List.length_append, List.length_map]; done) | (simp only [List.map_append, List.length_append, List.length_map]; rfl)) (by first | rfl | (simp only [List.map_append]; done) | (simp only [List.map_append]; rfl))) | (with_reducible exact trivial) | ((first | (with_reducible refine xdrop_app (by rw [List.length_map]; omega) ?_) | (with_reducible refine XDrop.desk (by assumption) ?_) | (with_reducible first | refine XArr.ints (by omega) (by omega) (by omega) ?_ | refine XArr.intsA (by omega) (by omega) (by omega) ?_) | ((with_reducible first | refine XArr.nats ?_ ?_ ?_ | refine XArr.natsA ?_ ?_ ?_ | refine XArr.ptr ?_ ?_ ?_); omega; omega)); conv => whnf) | (apply Walk.drawN (id := 6) tab_ok mixed_ok [] [6, 9, 11] (hsC [_, _, _, _]) [_, _, _, _, _, _, _, _, _, _, _, _] (by kernel_rfl) rfl) | (apply Walk.drawN (id := 17) tab_ok mixed_ok [] [1, 8] (hsC [_, _, _]) [_, _, _, _, _, _, _, _, _, _, _, _] (by kernel_rfl) rfl) | (apply Walk.drawN (id := 19) tab_ok mixed_ok [] [] (hsU _) [_, _, _, _] (by kernel_rfl) rfl) | ((first | (with_reducible apply XNext.mk) | (refine XCall.hp (j := 0) hd1 rfl rfl ?_)); conv => whnf) | ((refine XHold.mk ⟨rfl, hWm, by unfold Room; constructor <;> ((try simp) <;> omega)⟩ ?_); conv => whnf) | ((with_reducible apply XBr.mk') <;> (intro h; conv => whnf))
      refine XAgain.go (p + 1, W ++ [((p : Int) - 1, (p : Int), m1)], v1) ⟨⟨by dsimp only; omega, by dsimp only; omega⟩, ov1, hW1⟩ (by dsimp only; omega) ?_ ⟨rfl, rfl, rfl, rfl, trivial⟩
      dsimp only
      rw [List.length_append, isEmpty_app, List.map_append]; rfl
  have hpP : (p : Int) = P := by omega
  rw [hpP] at hW
  obtain ⟨N, v1, hN, ov1, hd1⟩ := from_e v 1 4 ov (by omega) (by omega) (by omega) (by omega)
  repeat' first | ((with_reducible first | apply XBr.tt | apply XBr.ff | apply Chk.go | apply ChkA.go | apply ChkF.go | apply ChkB.go | apply XArr.pim0 | apply XArr.pim1); conv => whnf) | (with_reducible apply XBr.not) | ((with_reducible apply XBr.dec) <;> (intro h; first | (exfalso; omega) | ((try simp only [List.length_map] at h); first | (exfalso; omega) | (conv => whnf)))) | ((with_reducible first | apply XBr.beq | apply XBr.bne) <;> (intro h; first | (exfalso; omega) | (conv => whnf))) | ((with_reducible refine XInt.i64 (by omega) (by omega) ?_); conv => whnf) | ((with_reducible refine XHold.mk ?_ ?_); (first | omega | rfl | decide | exact ⟨rfl, by decide, rfl⟩ | exact wideI _ | exact widePr _ | exact wideSk _ | (unfold Room; constructor <;> ((try simp) <;> omega)) | exact ⟨rfl, by simp only [List.length_map], by unfold Room; constructor <;> ((try simp) <;> omega)⟩ | exact ⟨by omega, by omega, by unfold Room; constructor <;> ((try simp) <;> omega)⟩); conv => whnf) | ((first | ((with_reducible refine XIx.nat ?_ ?_ ?_); omega; (intro _; rfl)) | ((with_reducible refine XIx.map ?_ ?_ ?_ ?_); omega; omega; (intro _; rfl))); conv => whnf) | (with_reducible apply XAnd.mk) | (exact XSame.mk rfl rfl) | (exact XSame.mk (by first | rfl | (simp only [List.map_append, List.length_append, List.length_map]; done) | (simp only [List.map_append, List.length_append, List.length_map]; rfl)) (by first | rfl | (simp only [List.map_append]; done) | (simp only [List.map_append]; rfl))) | (with_reducible exact trivial) | ((first | (with_reducible refine xdrop_app (by rw [List.length_map]; omega) ?_) | (with_reducible refine XDrop.desk (by assumption) ?_) | (with_reducible first | refine XArr.ints (by omega) (by omega) (by omega) ?_ | refine XArr.intsA (by omega) (by omega) (by omega) ?_) | ((with_reducible first | refine XArr.nats ?_ ?_ ?_ | refine XArr.natsA ?_ ?_ ?_ | refine XArr.ptr ?_ ?_ ?_); omega; omega)); conv => whnf) | (apply Walk.drawN (id := 6) tab_ok mixed_ok [] [6, 9, 11] (hsC [_, _, _, _]) [_, _, _, _, _, _, _, _, _, _, _, _] (by kernel_rfl) rfl) | (apply Walk.drawN (id := 17) tab_ok mixed_ok [] [1, 8] (hsC [_, _, _]) [_, _, _, _, _, _, _, _, _, _, _, _] (by kernel_rfl) rfl) | (apply Walk.drawN (id := 19) tab_ok mixed_ok [] [] (hsU _) [_, _, _, _] (by kernel_rfl) rfl) | ((first | (with_reducible apply XNext.mk) | (refine XCall.hp (j := 0) hd1 rfl rfl ?_)); conv => whnf) | ((with_reducible apply XBr.mk') <;> (intro h; conv => whnf))
  refine Walk.freezeCell 2 4 3 W.length rfl rfl rfl hWm ?_
  refine Walk.nilcell 2 5 32 rfl rfl ?_
  refine Walk.nilcell 2 6 58 rfl rfl ?_
  refine Walk.heapE [hpC v1, .cells zSn, .cells [.int .i64 P, .int .i64 0, .int .i64 bd, .int .i64 L, .sl W.isEmpty (W.map wyA), .gr 4 0, .gr 5 0], .dead, .grow 32 true [], .grow 58 true []] rfl ?_
  clear hd1 ov
  refine Walk.loopGK tab_ok [] [(0, _), (4, _), (5, _), (66, _)] ⟨rfl, rfl, rfl, rfl, trivial⟩ (fun g : Nat × List Rw × List Tru × Hp => (g.1 : Int) ≤ N ∧ g.2.2.2.Ok ∧ (g.2.1.length = g.1 ∧ g.2.2.1.length = g.1) ∧ (∀ r ∈ g.2.1, (r.2.length : Int) = P ∧ ∀ n ∈ r.2, 0 ≤ n ∧ n ≤ 3) ∧ ∀ t ∈ g.2.2.1, (t.2.length : Int) = P ∧ ∀ r ∈ t.2, spE L none r.2 = 0 ∧ r.2.length ≤ 2) (fun g => [(67, natA g.1)]) (fun g => [hpC g.2.2.2, .cells zSn, .cells [.int .i64 P, .int .i64 0, .int .i64 bd, .int .i64 L, .sl W.isEmpty (W.map wyA), .gr 4 g.2.1.length, .gr 5 g.2.2.1.length], .dead, .grow 32 g.2.1.isEmpty (g.2.1.map rwA), .grow 58 g.2.2.1.isEmpty (g.2.2.1.map trA)]) (fun g => N.toNat - g.1) (0, [], [], v1) ⟨by dsimp only; omega, ov1, ⟨rfl, rfl⟩, by simp, by simp⟩ rfl ⟨rfl, trivial⟩ ?_ (fun _ _ => (show (6 : Nat) ≤ 6 from Nat.le_refl 6)) ?_
  · intro g _
    refine ⟨fun z hz => ?_, fun z hz => ?_⟩
    · simp only [List.mem_cons, List.not_mem_nil, or_false] at hz
      rcases hz with rfl | rfl | rfl | rfl | rfl | rfl
      · exact hpC_low _
      · rfl
      · simp only [Blk.low, lowL, AV.low, lowWy]; rfl
      · rfl
      · exact lowRk _
      · exact lowTr _
    · simp only [List.cons_append, List.nil_append, List.mem_cons, List.not_mem_nil, or_false] at hz
      rcases hz with rfl | rfl | rfl | rfl | rfl <;> rfl
  clear ov1
  rintro ⟨k, looks, truths, v⟩ ⟨hk, ov, ⟨hll, htl⟩, hlk, htr⟩
  dsimp only at hk ov hll htl hlk htr ⊢
  have hlm : (looks.map rwA).length = looks.length := List.length_map _
  have htm : (truths.map trA).length = truths.length := List.length_map _
  conv => whnf
  by_cases hlt : (k : Int) < N
  · skip
    repeat' first | ((with_reducible first | apply XBr.tt | apply XBr.ff | apply Chk.go | apply ChkA.go | apply ChkF.go | apply ChkB.go | apply XArr.pim0 | apply XArr.pim1); conv => whnf) | (with_reducible apply XBr.not) | ((with_reducible apply XBr.dec) <;> (intro h; first | (exfalso; omega) | ((try simp only [List.length_map] at h); first | (exfalso; omega) | (conv => whnf)))) | ((with_reducible first | apply XBr.beq | apply XBr.bne) <;> (intro h; first | (exfalso; omega) | (conv => whnf))) | ((with_reducible refine XInt.i64 (by omega) (by omega) ?_); conv => whnf) | ((with_reducible refine XHold.mk ?_ ?_); (first | omega | rfl | decide | exact ⟨rfl, by decide, rfl⟩ | exact wideI _ | exact widePr _ | exact wideSk _ | (unfold Room; constructor <;> ((try simp) <;> omega)) | exact ⟨rfl, by simp only [List.length_map], by unfold Room; constructor <;> ((try simp) <;> omega)⟩ | exact ⟨by omega, by omega, by unfold Room; constructor <;> ((try simp) <;> omega)⟩); conv => whnf) | ((first | ((with_reducible refine XIx.nat ?_ ?_ ?_); omega; (intro _; rfl)) | ((with_reducible refine XIx.map ?_ ?_ ?_ ?_); omega; omega; (intro _; rfl))); conv => whnf) | (with_reducible apply XAnd.mk) | (exact XSame.mk rfl rfl) | (exact XSame.mk (by first | rfl | (simp only [List.map_append, List.length_append, List.length_map]; done) | (simp only [List.map_append, List.length_append, List.length_map]; rfl)) (by first | rfl | (simp only [List.map_append]; done) | (simp only [List.map_append]; rfl))) | (with_reducible exact trivial) | ((first | (with_reducible refine xdrop_app (by rw [List.length_map]; omega) ?_) | (with_reducible refine XDrop.desk (by assumption) ?_) | (with_reducible first | refine XArr.ints (by omega) (by omega) (by omega) ?_ | refine XArr.intsA (by omega) (by omega) (by omega) ?_) | ((with_reducible first | refine XArr.nats ?_ ?_ ?_ | refine XArr.natsA ?_ ?_ ?_ | refine XArr.ptr ?_ ?_ ?_); omega; omega)); conv => whnf) | (apply Walk.drawN (id := 6) tab_ok mixed_ok [] [6, 9, 11] (hsC [_, _, _, _]) [_, _, _, _, _, _, _, _, _, _, _, _] (by kernel_rfl) rfl) | (apply Walk.drawN (id := 17) tab_ok mixed_ok [] [1, 8] (hsC [_, _, _]) [_, _, _, _, _, _, _, _, _, _, _, _] (by kernel_rfl) rfl) | (apply Walk.drawN (id := 19) tab_ok mixed_ok [] [] (hsU _) [_, _, _, _] (by kernel_rfl) rfl) | ((with_reducible apply XNext.mk); conv => whnf) | ((with_reducible apply XBr.mk') <;> (intro h; conv => whnf))
    refine Walk.nilgr 7 3 rfl ?_
    refine Walk.nilcell 6 0 55 rfl rfl ?_
    refine Walk.heapE [hpC v, .cells zSn, .cells [.int .i64 P, .int .i64 0, .int .i64 bd, .int .i64 L, .sl W.isEmpty (W.map wyA), .gr 4 looks.length, .gr 5 truths.length], .dead, .grow 32 looks.isEmpty (looks.map rwA), .grow 58 truths.isEmpty (truths.map trA), .cells [.gr 8 0], .grow 3 true [], .grow 55 true []] rfl ?_
    refine Walk.loopK tab_ok [] [(0, _), (4, _), (5, _), (8, _), (66, _), (67, _), (70, _)] ⟨rfl, rfl, rfl, rfl, rfl, rfl, rfl, trivial⟩ (fun g : Nat × List Int × List Sps × Hp => (g.1 : Int) ≤ P ∧ g.2.2.2.Ok ∧ (g.2.1.length = g.1 ∧ g.2.2.1.length = g.1) ∧ (∀ n ∈ g.2.1, 0 ≤ n ∧ n ≤ 3) ∧ ∀ r ∈ g.2.2.1, spE L none r.2 = 0 ∧ r.2.length ≤ 2) (fun g => [(7, .gr 7 g.2.1.length), (71, natA g.1)]) (fun g => [hpC g.2.2.2, .cells zSn, .cells [.int .i64 P, .int .i64 0, .int .i64 bd, .int .i64 L, .sl W.isEmpty (W.map wyA), .gr 4 looks.length, .gr 5 truths.length], .dead, .grow 32 looks.isEmpty (looks.map rwA), .grow 58 truths.isEmpty (truths.map trA), .cells [.gr 8 g.2.2.1.length], .grow 3 g.2.1.isEmpty (ints g.2.1), .grow 55 g.2.2.1.isEmpty (g.2.2.1.map spsA)]) (fun g => P.toNat - g.1) (0, [], [], v) ⟨by dsimp only; omega, ov, ⟨rfl, rfl⟩, by simp, by simp⟩ rfl ⟨rfl, rfl, trivial⟩ ?_
    clear ov
    rintro ⟨q, row, dry, v⟩ ⟨hq, ov, ⟨hrl, hdl⟩, hrow, hdry⟩
    dsimp only at hq ov hrl hdl hrow hdry ⊢
    have hrm : (ints row).length = row.length := ints_len _
    have hdm : (dry.map spsA).length = dry.length := List.length_map _
    conv => whnf
    by_cases hlt2 : (q : Int) < P
    · have htd : L.tdiv 2 = L / 2 := Int.tdiv_eq_ediv_of_nonneg (by omega)
      have htd1 : 0 ≤ L.tdiv 2 ∧ L.tdiv 2 ≤ L - 2 := by rw [htd]; omega
      obtain ⟨z1, v1, hz1, ov1, hd1⟩ := upto_e v 3 ov (by omega) (by omega)
      obtain ⟨z2, v2, hz2, ov2, hd2⟩ := upto_e v1 1 ov1 (by omega) (by omega)
      obtain ⟨z3, v3, hz3, ov3, hd3⟩ := upto_e v2 2 ov2 (by omega) (by omega)
      obtain ⟨z4, v4, hz4, ov4, hd4⟩ := upto_e v3 (L.tdiv 2) ov3 (by omega) (by omega)
      obtain ⟨z5, v5, hz5, ov5, hd5⟩ := upto_e v4 L ov4 (by omega) (by omega)
      obtain ⟨b, v6, ov6, hd6⟩ := once_e v5 4 ov5 (by omega) (by omega)
      have hzz : 0 ≤ z1 * z2 ∧ z1 * z2 ≤ 3 := by
        have : z2 = 0 ∨ z2 = 1 := by omega
        rcases this with h | h <;> rw [h] <;> omega
      have hrow' : ∀ n ∈ row ++ [z1 * z2], 0 ≤ n ∧ n ≤ 3 := fun n hn => by
        rcases List.mem_append.1 hn with hn | hn
        · exact hrow n hn
        · rw [List.mem_singleton] at hn; rw [hn]; exact hzz
      have hstep : ∀ r : Sps, spE L none r.2 = 0 → r.2.length ≤ 2 → ((q + 1 : Nat) : Int) ≤ P ∧ v6.Ok ∧ ((row ++ [z1 * z2]).length = q + 1 ∧ (dry ++ [r]).length = q + 1) ∧ (∀ n ∈ row ++ [z1 * z2], 0 ≤ n ∧ n ≤ 3) ∧ ∀ r' ∈ dry ++ [r], spE L none r'.2 = 0 ∧ r'.2.length ≤ 2 := fun r h1 h2 => ⟨by omega, ov6, ⟨by rw [List.length_append, hrl]; rfl, by rw [List.length_append, hdl]; rfl⟩, hrow', fun r' hr' => by
        rcases List.mem_append.1 hr' with hr' | hr'
        · exact hdry r' hr'
        · rw [List.mem_singleton] at hr'; rw [hr']; exact ⟨h1, h2⟩⟩
      by_cases hq0 : (q : Int) = 0
      · skip
        by_cases hc : b = true ∧ 0 + 1 < z5 ∧ z5 < L - 1
        · obtain ⟨hcb, hc1, hc2⟩ := hc
          subst hcb
          repeat' first | ((with_reducible first | apply XBr.tt | apply XBr.ff | apply Chk.go | apply ChkA.go | apply ChkF.go | apply ChkB.go | apply XArr.pim0 | apply XArr.pim1); conv => whnf) | (with_reducible apply XBr.not) | ((with_reducible apply XBr.dec) <;> (intro h; first | (exfalso; omega) | ((try simp only [List.length_map] at h); first | (exfalso; omega) | (conv => whnf)))) | ((with_reducible first | apply XBr.beq | apply XBr.bne) <;> (intro h; first | (exfalso; omega) | (conv => whnf))) | ((with_reducible refine XInt.i64 (by omega) (by omega) ?_); conv => whnf) | ((with_reducible refine XHold.mk ?_ ?_); (first | omega | rfl | decide | exact ⟨rfl, by decide, rfl⟩ | exact wideI _ | exact widePr _ | exact wideSk _ | (unfold Room; constructor <;> ((try simp) <;> omega)) | exact ⟨rfl, by simp only [List.length_map], by unfold Room; constructor <;> ((try simp) <;> omega)⟩ | exact ⟨by omega, by omega, by unfold Room; constructor <;> ((try simp) <;> omega)⟩); conv => whnf) | ((first | ((with_reducible refine XIx.nat ?_ ?_ ?_); omega; (intro _; rfl)) | ((with_reducible refine XIx.map ?_ ?_ ?_ ?_); omega; omega; (intro _; rfl))); conv => whnf) | (with_reducible apply XAnd.mk) | (exact XSame.mk rfl rfl) | (exact XSame.mk (by first | rfl | (simp only [List.map_append, List.length_append, List.length_map]; done) | (simp only [List.map_append, List.length_append, List.length_map]; rfl)) (by first | rfl | (simp only [List.map_append]; done) | (simp only [List.map_append]; rfl))) | (with_reducible exact trivial) | ((first | (with_reducible refine xdrop_app (by rw [List.length_map]; omega) ?_) | (with_reducible refine XDrop.desk (by assumption) ?_) | (with_reducible first | refine XArr.ints (by omega) (by omega) (by omega) ?_ | refine XArr.intsA (by omega) (by omega) (by omega) ?_) | ((with_reducible first | refine XArr.nats ?_ ?_ ?_ | refine XArr.natsA ?_ ?_ ?_ | refine XArr.ptr ?_ ?_ ?_); omega; omega)); conv => whnf) | (apply Walk.drawN (id := 6) tab_ok mixed_ok [] [6, 9, 11] (hsC [_, _, _, _]) [_, _, _, _, _, _, _, _, _, _, _, _] (by kernel_rfl) rfl) | (apply Walk.drawN (id := 17) tab_ok mixed_ok [] [1, 8] (hsC [_, _, _]) [_, _, _, _, _, _, _, _, _, _, _, _] (by kernel_rfl) rfl) | (apply Walk.drawN (id := 19) tab_ok mixed_ok [] [] (hsU _) [_, _, _, _] (by kernel_rfl) rfl) | ((first | (with_reducible apply XNext.mk) | (refine XCall.hp (j := 0) hd1 rfl rfl ?_) | (refine XCall.hp (j := 0) hd2 rfl rfl ?_) | (refine XCall.hp (j := 0) hd3 rfl rfl ?_) | (refine XCall.hp (j := 0) hd4 rfl rfl ?_) | (refine XCall.hp (j := 0) hd5 rfl rfl ?_) | (refine XCall.hp (j := 0) hd6 rfl rfl ?_)); conv => whnf) | ((refine XHold.mk ⟨rfl, hrm, by unfold Room; constructor <;> ((try simp) <;> omega)⟩ ?_); conv => whnf) | ((refine XHold.mk ⟨rfl, hdm, by unfold Room; constructor <;> ((try simp) <;> omega)⟩ ?_); conv => whnf) | ((with_reducible apply XBr.mk') <;> (intro h; conv => whnf))
          all_goals
            refine XAgain.go (q + 1, row ++ [z1 * z2], dry ++ [((false, [(0, z5 - 1), (z5 + 1, L)]) : Sps)], v6) (hstep _ (by exact sp_two (by omega) (by omega) (by omega) (by omega)) (by simp)) (by dsimp only; omega) ?_ ⟨rfl, rfl, rfl, rfl, rfl, rfl, rfl, (by rw [List.length_append]; rfl), rfl, trivial⟩
            dsimp only
            rw [List.length_append, isEmpty_app, isEmpty_app, List.map_append, ints_app]; rfl
        cases b with
        | false =>
          repeat' first | ((with_reducible first | apply XBr.tt | apply XBr.ff | apply Chk.go | apply ChkA.go | apply ChkF.go | apply ChkB.go | apply XArr.pim0 | apply XArr.pim1); conv => whnf) | (with_reducible apply XBr.not) | ((with_reducible apply XBr.dec) <;> (intro h; first | (exfalso; omega) | ((try simp only [List.length_map] at h); first | (exfalso; omega) | (conv => whnf)))) | ((with_reducible first | apply XBr.beq | apply XBr.bne) <;> (intro h; first | (exfalso; omega) | (conv => whnf))) | ((with_reducible refine XInt.i64 (by omega) (by omega) ?_); conv => whnf) | ((with_reducible refine XHold.mk ?_ ?_); (first | omega | rfl | decide | exact ⟨rfl, by decide, rfl⟩ | exact wideI _ | exact widePr _ | exact wideSk _ | (unfold Room; constructor <;> ((try simp) <;> omega)) | exact ⟨rfl, by simp only [List.length_map], by unfold Room; constructor <;> ((try simp) <;> omega)⟩ | exact ⟨by omega, by omega, by unfold Room; constructor <;> ((try simp) <;> omega)⟩); conv => whnf) | ((first | ((with_reducible refine XIx.nat ?_ ?_ ?_); omega; (intro _; rfl)) | ((with_reducible refine XIx.map ?_ ?_ ?_ ?_); omega; omega; (intro _; rfl))); conv => whnf) | (with_reducible apply XAnd.mk) | (exact XSame.mk rfl rfl) | (exact XSame.mk (by first | rfl | (simp only [List.map_append, List.length_append, List.length_map]; done) | (simp only [List.map_append, List.length_append, List.length_map]; rfl)) (by first | rfl | (simp only [List.map_append]; done) | (simp only [List.map_append]; rfl))) | (with_reducible exact trivial) | ((first | (with_reducible refine xdrop_app (by rw [List.length_map]; omega) ?_) | (with_reducible refine XDrop.desk (by assumption) ?_) | (with_reducible first | refine XArr.ints (by omega) (by omega) (by omega) ?_ | refine XArr.intsA (by omega) (by omega) (by omega) ?_) | ((with_reducible first | refine XArr.nats ?_ ?_ ?_ | refine XArr.natsA ?_ ?_ ?_ | refine XArr.ptr ?_ ?_ ?_); omega; omega)); conv => whnf) | (apply Walk.drawN (id := 6) tab_ok mixed_ok [] [6, 9, 11] (hsC [_, _, _, _]) [_, _, _, _, _, _, _, _, _, _, _, _] (by kernel_rfl) rfl) | (apply Walk.drawN (id := 17) tab_ok mixed_ok [] [1, 8] (hsC [_, _, _]) [_, _, _, _, _, _, _, _, _, _, _, _] (by kernel_rfl) rfl) | (apply Walk.drawN (id := 19) tab_ok mixed_ok [] [] (hsU _) [_, _, _, _] (by kernel_rfl) rfl) | ((first | (with_reducible apply XNext.mk) | (refine XCall.hp (j := 0) hd1 rfl rfl ?_) | (refine XCall.hp (j := 0) hd2 rfl rfl ?_) | (refine XCall.hp (j := 0) hd3 rfl rfl ?_) | (refine XCall.hp (j := 0) hd4 rfl rfl ?_) | (refine XCall.hp (j := 0) hd5 rfl rfl ?_) | (refine XCall.hp (j := 0) hd6 rfl rfl ?_)); conv => whnf) | ((refine XHold.mk ⟨rfl, hrm, by unfold Room; constructor <;> ((try simp) <;> omega)⟩ ?_); conv => whnf) | ((refine XHold.mk ⟨rfl, hdm, by unfold Room; constructor <;> ((try simp) <;> omega)⟩ ?_); conv => whnf) | ((with_reducible apply XBr.mk') <;> (intro h; conv => whnf))
          all_goals
            refine XAgain.go (q + 1, row ++ [z1 * z2], dry ++ [((false, [(0, max 0 (L))]) : Sps)], v6) (hstep _ (by exact sp_one (by omega) (by omega) (by omega)) (by simp)) (by dsimp only; omega) ?_ ⟨rfl, rfl, rfl, rfl, rfl, rfl, rfl, (by rw [List.length_append]; rfl), rfl, trivial⟩
            dsimp only
            rw [List.length_append, isEmpty_app, isEmpty_app, List.map_append, ints_app]; rfl
        | true =>
          have hc' : ¬ (0 + 1 < z5 ∧ z5 < L - 1) := fun h => hc ⟨rfl, h⟩
          repeat' first | ((with_reducible first | apply XBr.tt | apply XBr.ff | apply Chk.go | apply ChkA.go | apply ChkF.go | apply ChkB.go | apply XArr.pim0 | apply XArr.pim1); conv => whnf) | (with_reducible apply XBr.not) | ((with_reducible apply XBr.dec) <;> (intro h; first | (exfalso; omega) | ((try simp only [List.length_map] at h); first | (exfalso; omega) | (conv => whnf)))) | ((with_reducible first | apply XBr.beq | apply XBr.bne) <;> (intro h; first | (exfalso; omega) | (conv => whnf))) | ((with_reducible refine XInt.i64 (by omega) (by omega) ?_); conv => whnf) | ((with_reducible refine XHold.mk ?_ ?_); (first | omega | rfl | decide | exact ⟨rfl, by decide, rfl⟩ | exact wideI _ | exact widePr _ | exact wideSk _ | (unfold Room; constructor <;> ((try simp) <;> omega)) | exact ⟨rfl, by simp only [List.length_map], by unfold Room; constructor <;> ((try simp) <;> omega)⟩ | exact ⟨by omega, by omega, by unfold Room; constructor <;> ((try simp) <;> omega)⟩); conv => whnf) | ((first | ((with_reducible refine XIx.nat ?_ ?_ ?_); omega; (intro _; rfl)) | ((with_reducible refine XIx.map ?_ ?_ ?_ ?_); omega; omega; (intro _; rfl))); conv => whnf) | (with_reducible apply XAnd.mk) | (exact XSame.mk rfl rfl) | (exact XSame.mk (by first | rfl | (simp only [List.map_append, List.length_append, List.length_map]; done) | (simp only [List.map_append, List.length_append, List.length_map]; rfl)) (by first | rfl | (simp only [List.map_append]; done) | (simp only [List.map_append]; rfl))) | (with_reducible exact trivial) | ((first | (with_reducible refine xdrop_app (by rw [List.length_map]; omega) ?_) | (with_reducible refine XDrop.desk (by assumption) ?_) | (with_reducible first | refine XArr.ints (by omega) (by omega) (by omega) ?_ | refine XArr.intsA (by omega) (by omega) (by omega) ?_) | ((with_reducible first | refine XArr.nats ?_ ?_ ?_ | refine XArr.natsA ?_ ?_ ?_ | refine XArr.ptr ?_ ?_ ?_); omega; omega)); conv => whnf) | (apply Walk.drawN (id := 6) tab_ok mixed_ok [] [6, 9, 11] (hsC [_, _, _, _]) [_, _, _, _, _, _, _, _, _, _, _, _] (by kernel_rfl) rfl) | (apply Walk.drawN (id := 17) tab_ok mixed_ok [] [1, 8] (hsC [_, _, _]) [_, _, _, _, _, _, _, _, _, _, _, _] (by kernel_rfl) rfl) | (apply Walk.drawN (id := 19) tab_ok mixed_ok [] [] (hsU _) [_, _, _, _] (by kernel_rfl) rfl) | ((first | (with_reducible apply XNext.mk) | (refine XCall.hp (j := 0) hd1 rfl rfl ?_) | (refine XCall.hp (j := 0) hd2 rfl rfl ?_) | (refine XCall.hp (j := 0) hd3 rfl rfl ?_) | (refine XCall.hp (j := 0) hd4 rfl rfl ?_) | (refine XCall.hp (j := 0) hd5 rfl rfl ?_) | (refine XCall.hp (j := 0) hd6 rfl rfl ?_)); conv => whnf) | ((refine XHold.mk ⟨rfl, hrm, by unfold Room; constructor <;> ((try simp) <;> omega)⟩ ?_); conv => whnf) | ((refine XHold.mk ⟨rfl, hdm, by unfold Room; constructor <;> ((try simp) <;> omega)⟩ ?_); conv => whnf) | ((with_reducible apply XBr.mk') <;> (intro h; conv => whnf))
          all_goals
            refine XAgain.go (q + 1, row ++ [z1 * z2], dry ++ [((false, [(0, max 0 (L))]) : Sps)], v6) (hstep _ (by exact sp_one (by omega) (by omega) (by omega)) (by simp)) (by dsimp only; omega) ?_ ⟨rfl, rfl, rfl, rfl, rfl, rfl, rfl, (by rw [List.length_append]; rfl), rfl, trivial⟩
            dsimp only
            rw [List.length_append, isEmpty_app, isEmpty_app, List.map_append, ints_app]; rfl
      · skip
        by_cases hc : b = true ∧ z3 + 1 < z5 ∧ z5 < (L - z4) - 1
        · obtain ⟨hcb, hc1, hc2⟩ := hc
          subst hcb
          repeat' first | ((with_reducible first | apply XBr.tt | apply XBr.ff | apply Chk.go | apply ChkA.go | apply ChkF.go | apply ChkB.go | apply XArr.pim0 | apply XArr.pim1); conv => whnf) | (with_reducible apply XBr.not) | ((with_reducible apply XBr.dec) <;> (intro h; first | (exfalso; omega) | ((try simp only [List.length_map] at h); first | (exfalso; omega) | (conv => whnf)))) | ((with_reducible first | apply XBr.beq | apply XBr.bne) <;> (intro h; first | (exfalso; omega) | (conv => whnf))) | ((with_reducible refine XInt.i64 (by omega) (by omega) ?_); conv => whnf) | ((with_reducible refine XHold.mk ?_ ?_); (first | omega | rfl | decide | exact ⟨rfl, by decide, rfl⟩ | exact wideI _ | exact widePr _ | exact wideSk _ | (unfold Room; constructor <;> ((try simp) <;> omega)) | exact ⟨rfl, by simp only [List.length_map], by unfold Room; constructor <;> ((try simp) <;> omega)⟩ | exact ⟨by omega, by omega, by unfold Room; constructor <;> ((try simp) <;> omega)⟩); conv => whnf) | ((first | ((with_reducible refine XIx.nat ?_ ?_ ?_); omega; (intro _; rfl)) | ((with_reducible refine XIx.map ?_ ?_ ?_ ?_); omega; omega; (intro _; rfl))); conv => whnf) | (with_reducible apply XAnd.mk) | (exact XSame.mk rfl rfl) | (exact XSame.mk (by first | rfl | (simp only [List.map_append, List.length_append, List.length_map]; done) | (simp only [List.map_append, List.length_append, List.length_map]; rfl)) (by first | rfl | (simp only [List.map_append]; done) | (simp only [List.map_append]; rfl))) | (with_reducible exact trivial) | ((first | (with_reducible refine xdrop_app (by rw [List.length_map]; omega) ?_) | (with_reducible refine XDrop.desk (by assumption) ?_) | (with_reducible first | refine XArr.ints (by omega) (by omega) (by omega) ?_ | refine XArr.intsA (by omega) (by omega) (by omega) ?_) | ((with_reducible first | refine XArr.nats ?_ ?_ ?_ | refine XArr.natsA ?_ ?_ ?_ | refine XArr.ptr ?_ ?_ ?_); omega; omega)); conv => whnf) | (apply Walk.drawN (id := 6) tab_ok mixed_ok [] [6, 9, 11] (hsC [_, _, _, _]) [_, _, _, _, _, _, _, _, _, _, _, _] (by kernel_rfl) rfl) | (apply Walk.drawN (id := 17) tab_ok mixed_ok [] [1, 8] (hsC [_, _, _]) [_, _, _, _, _, _, _, _, _, _, _, _] (by kernel_rfl) rfl) | (apply Walk.drawN (id := 19) tab_ok mixed_ok [] [] (hsU _) [_, _, _, _] (by kernel_rfl) rfl) | ((first | (with_reducible apply XNext.mk) | (refine XCall.hp (j := 0) hd1 rfl rfl ?_) | (refine XCall.hp (j := 0) hd2 rfl rfl ?_) | (refine XCall.hp (j := 0) hd3 rfl rfl ?_) | (refine XCall.hp (j := 0) hd4 rfl rfl ?_) | (refine XCall.hp (j := 0) hd5 rfl rfl ?_) | (refine XCall.hp (j := 0) hd6 rfl rfl ?_)); conv => whnf) | ((refine XHold.mk ⟨rfl, hrm, by unfold Room; constructor <;> ((try simp) <;> omega)⟩ ?_); conv => whnf) | ((refine XHold.mk ⟨rfl, hdm, by unfold Room; constructor <;> ((try simp) <;> omega)⟩ ?_); conv => whnf) | ((with_reducible apply XBr.mk') <;> (intro h; conv => whnf))
          all_goals
            refine XAgain.go (q + 1, row ++ [z1 * z2], dry ++ [((false, [(z3, z5 - 1), (z5 + 1, (L - z4))]) : Sps)], v6) (hstep _ (by exact sp_two (by omega) (by omega) (by omega) (by omega)) (by simp)) (by dsimp only; omega) ?_ ⟨rfl, rfl, rfl, rfl, rfl, rfl, rfl, (by rw [List.length_append]; rfl), rfl, trivial⟩
            dsimp only
            rw [List.length_append, isEmpty_app, isEmpty_app, List.map_append, ints_app]; rfl
        cases b with
        | false =>
          repeat' first | ((with_reducible first | apply XBr.tt | apply XBr.ff | apply Chk.go | apply ChkA.go | apply ChkF.go | apply ChkB.go | apply XArr.pim0 | apply XArr.pim1); conv => whnf) | (with_reducible apply XBr.not) | ((with_reducible apply XBr.dec) <;> (intro h; first | (exfalso; omega) | ((try simp only [List.length_map] at h); first | (exfalso; omega) | (conv => whnf)))) | ((with_reducible first | apply XBr.beq | apply XBr.bne) <;> (intro h; first | (exfalso; omega) | (conv => whnf))) | ((with_reducible refine XInt.i64 (by omega) (by omega) ?_); conv => whnf) | ((with_reducible refine XHold.mk ?_ ?_); (first | omega | rfl | decide | exact ⟨rfl, by decide, rfl⟩ | exact wideI _ | exact widePr _ | exact wideSk _ | (unfold Room; constructor <;> ((try simp) <;> omega)) | exact ⟨rfl, by simp only [List.length_map], by unfold Room; constructor <;> ((try simp) <;> omega)⟩ | exact ⟨by omega, by omega, by unfold Room; constructor <;> ((try simp) <;> omega)⟩); conv => whnf) | ((first | ((with_reducible refine XIx.nat ?_ ?_ ?_); omega; (intro _; rfl)) | ((with_reducible refine XIx.map ?_ ?_ ?_ ?_); omega; omega; (intro _; rfl))); conv => whnf) | (with_reducible apply XAnd.mk) | (exact XSame.mk rfl rfl) | (exact XSame.mk (by first | rfl | (simp only [List.map_append, List.length_append, List.length_map]; done) | (simp only [List.map_append, List.length_append, List.length_map]; rfl)) (by first | rfl | (simp only [List.map_append]; done) | (simp only [List.map_append]; rfl))) | (with_reducible exact trivial) | ((first | (with_reducible refine xdrop_app (by rw [List.length_map]; omega) ?_) | (with_reducible refine XDrop.desk (by assumption) ?_) | (with_reducible first | refine XArr.ints (by omega) (by omega) (by omega) ?_ | refine XArr.intsA (by omega) (by omega) (by omega) ?_) | ((with_reducible first | refine XArr.nats ?_ ?_ ?_ | refine XArr.natsA ?_ ?_ ?_ | refine XArr.ptr ?_ ?_ ?_); omega; omega)); conv => whnf) | (apply Walk.drawN (id := 6) tab_ok mixed_ok [] [6, 9, 11] (hsC [_, _, _, _]) [_, _, _, _, _, _, _, _, _, _, _, _] (by kernel_rfl) rfl) | (apply Walk.drawN (id := 17) tab_ok mixed_ok [] [1, 8] (hsC [_, _, _]) [_, _, _, _, _, _, _, _, _, _, _, _] (by kernel_rfl) rfl) | (apply Walk.drawN (id := 19) tab_ok mixed_ok [] [] (hsU _) [_, _, _, _] (by kernel_rfl) rfl) | ((first | (with_reducible apply XNext.mk) | (refine XCall.hp (j := 0) hd1 rfl rfl ?_) | (refine XCall.hp (j := 0) hd2 rfl rfl ?_) | (refine XCall.hp (j := 0) hd3 rfl rfl ?_) | (refine XCall.hp (j := 0) hd4 rfl rfl ?_) | (refine XCall.hp (j := 0) hd5 rfl rfl ?_) | (refine XCall.hp (j := 0) hd6 rfl rfl ?_)); conv => whnf) | ((refine XHold.mk ⟨rfl, hrm, by unfold Room; constructor <;> ((try simp) <;> omega)⟩ ?_); conv => whnf) | ((refine XHold.mk ⟨rfl, hdm, by unfold Room; constructor <;> ((try simp) <;> omega)⟩ ?_); conv => whnf) | ((with_reducible apply XBr.mk') <;> (intro h; conv => whnf))
          all_goals
            refine XAgain.go (q + 1, row ++ [z1 * z2], dry ++ [((false, [(z3, max z3 ((L - z4)))]) : Sps)], v6) (hstep _ (by exact sp_one (by omega) (by omega) (by omega)) (by simp)) (by dsimp only; omega) ?_ ⟨rfl, rfl, rfl, rfl, rfl, rfl, rfl, (by rw [List.length_append]; rfl), rfl, trivial⟩
            dsimp only
            rw [List.length_append, isEmpty_app, isEmpty_app, List.map_append, ints_app]; rfl
        | true =>
          have hc' : ¬ (z3 + 1 < z5 ∧ z5 < (L - z4) - 1) := fun h => hc ⟨rfl, h⟩
          repeat' first | ((with_reducible first | apply XBr.tt | apply XBr.ff | apply Chk.go | apply ChkA.go | apply ChkF.go | apply ChkB.go | apply XArr.pim0 | apply XArr.pim1); conv => whnf) | (with_reducible apply XBr.not) | ((with_reducible apply XBr.dec) <;> (intro h; first | (exfalso; omega) | ((try simp only [List.length_map] at h); first | (exfalso; omega) | (conv => whnf)))) | ((with_reducible first | apply XBr.beq | apply XBr.bne) <;> (intro h; first | (exfalso; omega) | (conv => whnf))) | ((with_reducible refine XInt.i64 (by omega) (by omega) ?_); conv => whnf) | ((with_reducible refine XHold.mk ?_ ?_); (first | omega | rfl | decide | exact ⟨rfl, by decide, rfl⟩ | exact wideI _ | exact widePr _ | exact wideSk _ | (unfold Room; constructor <;> ((try simp) <;> omega)) | exact ⟨rfl, by simp only [List.length_map], by unfold Room; constructor <;> ((try simp) <;> omega)⟩ | exact ⟨by omega, by omega, by unfold Room; constructor <;> ((try simp) <;> omega)⟩); conv => whnf) | ((first | ((with_reducible refine XIx.nat ?_ ?_ ?_); omega; (intro _; rfl)) | ((with_reducible refine XIx.map ?_ ?_ ?_ ?_); omega; omega; (intro _; rfl))); conv => whnf) | (with_reducible apply XAnd.mk) | (exact XSame.mk rfl rfl) | (exact XSame.mk (by first | rfl | (simp only [List.map_append, List.length_append, List.length_map]; done) | (simp only [List.map_append, List.length_append, List.length_map]; rfl)) (by first | rfl | (simp only [List.map_append]; done) | (simp only [List.map_append]; rfl))) | (with_reducible exact trivial) | ((first | (with_reducible refine xdrop_app (by rw [List.length_map]; omega) ?_) | (with_reducible refine XDrop.desk (by assumption) ?_) | (with_reducible first | refine XArr.ints (by omega) (by omega) (by omega) ?_ | refine XArr.intsA (by omega) (by omega) (by omega) ?_) | ((with_reducible first | refine XArr.nats ?_ ?_ ?_ | refine XArr.natsA ?_ ?_ ?_ | refine XArr.ptr ?_ ?_ ?_); omega; omega)); conv => whnf) | (apply Walk.drawN (id := 6) tab_ok mixed_ok [] [6, 9, 11] (hsC [_, _, _, _]) [_, _, _, _, _, _, _, _, _, _, _, _] (by kernel_rfl) rfl) | (apply Walk.drawN (id := 17) tab_ok mixed_ok [] [1, 8] (hsC [_, _, _]) [_, _, _, _, _, _, _, _, _, _, _, _] (by kernel_rfl) rfl) | (apply Walk.drawN (id := 19) tab_ok mixed_ok [] [] (hsU _) [_, _, _, _] (by kernel_rfl) rfl) | ((first | (with_reducible apply XNext.mk) | (refine XCall.hp (j := 0) hd1 rfl rfl ?_) | (refine XCall.hp (j := 0) hd2 rfl rfl ?_) | (refine XCall.hp (j := 0) hd3 rfl rfl ?_) | (refine XCall.hp (j := 0) hd4 rfl rfl ?_) | (refine XCall.hp (j := 0) hd5 rfl rfl ?_) | (refine XCall.hp (j := 0) hd6 rfl rfl ?_)); conv => whnf) | ((refine XHold.mk ⟨rfl, hrm, by unfold Room; constructor <;> ((try simp) <;> omega)⟩ ?_); conv => whnf) | ((refine XHold.mk ⟨rfl, hdm, by unfold Room; constructor <;> ((try simp) <;> omega)⟩ ?_); conv => whnf) | ((with_reducible apply XBr.mk') <;> (intro h; conv => whnf))
          all_goals
            refine XAgain.go (q + 1, row ++ [z1 * z2], dry ++ [((false, [(z3, max z3 ((L - z4)))]) : Sps)], v6) (hstep _ (by exact sp_one (by omega) (by omega) (by omega)) (by simp)) (by dsimp only; omega) ?_ ⟨rfl, rfl, rfl, rfl, rfl, rfl, rfl, (by rw [List.length_append]; rfl), rfl, trivial⟩
            dsimp only
            rw [List.length_append, isEmpty_app, isEmpty_app, List.map_append, ints_app]; rfl
    have hqP : (q : Int) = P := by omega
    repeat' first | ((with_reducible first | apply XBr.tt | apply XBr.ff | apply Chk.go | apply ChkA.go | apply ChkF.go | apply ChkB.go | apply XArr.pim0 | apply XArr.pim1); conv => whnf) | (with_reducible apply XBr.not) | ((with_reducible apply XBr.dec) <;> (intro h; first | (exfalso; omega) | ((try simp only [List.length_map] at h); first | (exfalso; omega) | (conv => whnf)))) | ((with_reducible first | apply XBr.beq | apply XBr.bne) <;> (intro h; first | (exfalso; omega) | (conv => whnf))) | ((with_reducible refine XInt.i64 (by omega) (by omega) ?_); conv => whnf) | ((with_reducible refine XHold.mk ?_ ?_); (first | omega | rfl | decide | exact ⟨rfl, by decide, rfl⟩ | exact wideI _ | exact widePr _ | exact wideSk _ | (unfold Room; constructor <;> ((try simp) <;> omega)) | exact ⟨rfl, by simp only [List.length_map], by unfold Room; constructor <;> ((try simp) <;> omega)⟩ | exact ⟨by omega, by omega, by unfold Room; constructor <;> ((try simp) <;> omega)⟩); conv => whnf) | ((first | ((with_reducible refine XIx.nat ?_ ?_ ?_); omega; (intro _; rfl)) | ((with_reducible refine XIx.map ?_ ?_ ?_ ?_); omega; omega; (intro _; rfl))); conv => whnf) | (with_reducible apply XAnd.mk) | (exact XSame.mk rfl rfl) | (exact XSame.mk (by first | rfl | (simp only [List.map_append, List.length_append, List.length_map]; done) | (simp only [List.map_append, List.length_append, List.length_map]; rfl)) (by first | rfl | (simp only [List.map_append]; done) | (simp only [List.map_append]; rfl))) | (with_reducible exact trivial) | ((first | (with_reducible refine xdrop_app (by rw [List.length_map]; omega) ?_) | (with_reducible refine XDrop.desk (by assumption) ?_) | (with_reducible first | refine XArr.ints (by omega) (by omega) (by omega) ?_ | refine XArr.intsA (by omega) (by omega) (by omega) ?_) | ((with_reducible first | refine XArr.nats ?_ ?_ ?_ | refine XArr.natsA ?_ ?_ ?_ | refine XArr.ptr ?_ ?_ ?_); omega; omega)); conv => whnf) | (apply Walk.drawN (id := 6) tab_ok mixed_ok [] [6, 9, 11] (hsC [_, _, _, _]) [_, _, _, _, _, _, _, _, _, _, _, _] (by kernel_rfl) rfl) | (apply Walk.drawN (id := 17) tab_ok mixed_ok [] [1, 8] (hsC [_, _, _]) [_, _, _, _, _, _, _, _, _, _, _, _] (by kernel_rfl) rfl) | (apply Walk.drawN (id := 19) tab_ok mixed_ok [] [] (hsU _) [_, _, _, _] (by kernel_rfl) rfl) | ((with_reducible apply XNext.mk); conv => whnf) | ((with_reducible apply XBr.mk') <;> (intro h; conv => whnf))
    refine Walk.freeze 7 7 row.length rfl rfl hrm ?_
    refine Walk.freezeCell 6 0 8 dry.length rfl rfl rfl hdm ?_
    apply Walk.drawX tab_ok mixed_ok [] [4, 9, 11, 13] (hsC [_, _, _, _, _]) [_, _, _, _, _, _, _, _, _, _, _, _, _, _] (by kernel_rfl) rfl
    · skip
      repeat' first | ((with_reducible first | apply XBr.tt | apply XBr.ff | apply Chk.go | apply ChkA.go | apply ChkF.go | apply ChkB.go | apply XArr.pim0 | apply XArr.pim1); conv => whnf) | (with_reducible apply XBr.not) | ((with_reducible apply XBr.dec) <;> (intro h; first | (exfalso; omega) | ((try simp only [List.length_map] at h); first | (exfalso; omega) | (conv => whnf)))) | ((with_reducible first | apply XBr.beq | apply XBr.bne) <;> (intro h; first | (exfalso; omega) | (conv => whnf))) | ((with_reducible refine XInt.i64 (by omega) (by omega) ?_); conv => whnf) | ((with_reducible refine XHold.mk ?_ ?_); (first | omega | rfl | decide | exact ⟨rfl, by decide, rfl⟩ | exact wideI _ | exact widePr _ | exact wideSk _ | (unfold Room; constructor <;> ((try simp) <;> omega)) | exact ⟨rfl, by simp only [List.length_map], by unfold Room; constructor <;> ((try simp) <;> omega)⟩ | exact ⟨by omega, by omega, by unfold Room; constructor <;> ((try simp) <;> omega)⟩); conv => whnf) | ((first | ((with_reducible refine XIx.nat ?_ ?_ ?_); omega; (intro _; rfl)) | ((with_reducible refine XIx.map ?_ ?_ ?_ ?_); omega; omega; (intro _; rfl))); conv => whnf) | (with_reducible apply XAnd.mk) | (exact XSame.mk rfl rfl) | (exact XSame.mk (by first | rfl | (simp only [List.map_append, List.length_append, List.length_map]; done) | (simp only [List.map_append, List.length_append, List.length_map]; rfl)) (by first | rfl | (simp only [List.map_append]; done) | (simp only [List.map_append]; rfl))) | (with_reducible exact trivial) | ((first | (with_reducible refine xdrop_app (by rw [List.length_map]; omega) ?_) | (with_reducible refine XDrop.desk (by assumption) ?_) | (with_reducible first | refine XArr.ints (by omega) (by omega) (by omega) ?_ | refine XArr.intsA (by omega) (by omega) (by omega) ?_) | ((with_reducible first | refine XArr.nats ?_ ?_ ?_ | refine XArr.natsA ?_ ?_ ?_ | refine XArr.ptr ?_ ?_ ?_); omega; omega)); conv => whnf) | (apply Walk.drawN (id := 6) tab_ok mixed_ok [] [6, 9, 11] (hsC [_, _, _, _]) [_, _, _, _, _, _, _, _, _, _, _, _] (by kernel_rfl) rfl) | (apply Walk.drawN (id := 17) tab_ok mixed_ok [] [1, 8] (hsC [_, _, _]) [_, _, _, _, _, _, _, _, _, _, _, _] (by kernel_rfl) rfl) | (apply Walk.drawN (id := 19) tab_ok mixed_ok [] [] (hsU _) [_, _, _, _] (by kernel_rfl) rfl) | ((with_reducible apply XNext.mk); conv => whnf) | ((refine XHold.mk ⟨rfl, hlm, by unfold Room; constructor <;> ((try simp) <;> omega)⟩ ?_); conv => whnf) | ((refine XHold.mk ⟨rfl, htm, by unfold Room; constructor <;> ((try simp) <;> omega)⟩ ?_); conv => whnf) | ((with_reducible apply XBr.mk') <;> (intro h; conv => whnf))
    · skip
      repeat' first | ((with_reducible first | apply XBr.tt | apply XBr.ff | apply Chk.go | apply ChkA.go | apply ChkF.go | apply ChkB.go | apply XArr.pim0 | apply XArr.pim1); conv => whnf) | (with_reducible apply XBr.not) | ((with_reducible apply XBr.dec) <;> (intro h; first | (exfalso; omega) | ((try simp only [List.length_map] at h); first | (exfalso; omega) | (conv => whnf)))) | ((with_reducible first | apply XBr.beq | apply XBr.bne) <;> (intro h; first | (exfalso; omega) | (conv => whnf))) | ((with_reducible refine XInt.i64 (by omega) (by omega) ?_); conv => whnf) | ((with_reducible refine XHold.mk ?_ ?_); (first | omega | rfl | decide | exact ⟨rfl, by decide, rfl⟩ | exact wideI _ | exact widePr _ | exact wideSk _ | (unfold Room; constructor <;> ((try simp) <;> omega)) | exact ⟨rfl, by simp only [List.length_map], by unfold Room; constructor <;> ((try simp) <;> omega)⟩ | exact ⟨by omega, by omega, by unfold Room; constructor <;> ((try simp) <;> omega)⟩); conv => whnf) | ((first | ((with_reducible refine XIx.nat ?_ ?_ ?_); omega; (intro _; rfl)) | ((with_reducible refine XIx.map ?_ ?_ ?_ ?_); omega; omega; (intro _; rfl))); conv => whnf) | (with_reducible apply XAnd.mk) | (exact XSame.mk rfl rfl) | (exact XSame.mk (by first | rfl | (simp only [List.map_append, List.length_append, List.length_map]; done) | (simp only [List.map_append, List.length_append, List.length_map]; rfl)) (by first | rfl | (simp only [List.map_append]; done) | (simp only [List.map_append]; rfl))) | (with_reducible exact trivial) | ((first | (with_reducible refine xdrop_app (by rw [List.length_map]; omega) ?_) | (with_reducible refine XDrop.desk (by assumption) ?_) | (with_reducible first | refine XArr.ints (by omega) (by omega) (by omega) ?_ | refine XArr.intsA (by omega) (by omega) (by omega) ?_) | ((with_reducible first | refine XArr.nats ?_ ?_ ?_ | refine XArr.natsA ?_ ?_ ?_ | refine XArr.ptr ?_ ?_ ?_); omega; omega)); conv => whnf) | (apply Walk.drawN (id := 6) tab_ok mixed_ok [] [6, 9, 11] (hsC [_, _, _, _]) [_, _, _, _, _, _, _, _, _, _, _, _] (by kernel_rfl) rfl) | (apply Walk.drawN (id := 17) tab_ok mixed_ok [] [1, 8] (hsC [_, _, _]) [_, _, _, _, _, _, _, _, _, _, _, _] (by kernel_rfl) rfl) | (apply Walk.drawN (id := 19) tab_ok mixed_ok [] [] (hsU _) [_, _, _, _] (by kernel_rfl) rfl) | ((with_reducible apply XNext.mk); conv => whnf) | ((refine XHold.mk ⟨rfl, hlm, by unfold Room; constructor <;> ((try simp) <;> omega)⟩ ?_); conv => whnf) | ((refine XHold.mk ⟨rfl, htm, by unfold Room; constructor <;> ((try simp) <;> omega)⟩ ?_); conv => whnf) | ((with_reducible apply XBr.mk') <;> (intro h; conv => whnf))
    conv => whnf
    repeat' first | ((with_reducible first | apply XBr.tt | apply XBr.ff | apply Chk.go | apply ChkA.go | apply ChkF.go | apply ChkB.go | apply XArr.pim0 | apply XArr.pim1); conv => whnf) | (with_reducible apply XBr.not) | ((with_reducible apply XBr.dec) <;> (intro h; first | (exfalso; omega) | ((try simp only [List.length_map] at h); first | (exfalso; omega) | (conv => whnf)))) | ((with_reducible first | apply XBr.beq | apply XBr.bne) <;> (intro h; first | (exfalso; omega) | (conv => whnf))) | ((with_reducible refine XInt.i64 (by omega) (by omega) ?_); conv => whnf) | ((with_reducible refine XHold.mk ?_ ?_); (first | omega | rfl | decide | exact ⟨rfl, by decide, rfl⟩ | exact wideI _ | exact widePr _ | exact wideSk _ | (unfold Room; constructor <;> ((try simp) <;> omega)) | exact ⟨rfl, by simp only [List.length_map], by unfold Room; constructor <;> ((try simp) <;> omega)⟩ | exact ⟨by omega, by omega, by unfold Room; constructor <;> ((try simp) <;> omega)⟩); conv => whnf) | ((first | ((with_reducible refine XIx.nat ?_ ?_ ?_); omega; (intro _; rfl)) | ((with_reducible refine XIx.map ?_ ?_ ?_ ?_); omega; omega; (intro _; rfl))); conv => whnf) | (with_reducible apply XAnd.mk) | (exact XSame.mk rfl rfl) | (exact XSame.mk (by first | rfl | (simp only [List.map_append, List.length_append, List.length_map]; done) | (simp only [List.map_append, List.length_append, List.length_map]; rfl)) (by first | rfl | (simp only [List.map_append]; done) | (simp only [List.map_append]; rfl))) | (with_reducible exact trivial) | ((first | (with_reducible refine xdrop_app (by rw [List.length_map]; omega) ?_) | (with_reducible refine XDrop.desk (by assumption) ?_) | (with_reducible first | refine XArr.ints (by omega) (by omega) (by omega) ?_ | refine XArr.intsA (by omega) (by omega) (by omega) ?_) | ((with_reducible first | refine XArr.nats ?_ ?_ ?_ | refine XArr.natsA ?_ ?_ ?_ | refine XArr.ptr ?_ ?_ ?_); omega; omega)); conv => whnf) | (apply Walk.drawN (id := 6) tab_ok mixed_ok [] [6, 9, 11] (hsC [_, _, _, _]) [_, _, _, _, _, _, _, _, _, _, _, _] (by kernel_rfl) rfl) | (apply Walk.drawN (id := 17) tab_ok mixed_ok [] [1, 8] (hsC [_, _, _]) [_, _, _, _, _, _, _, _, _, _, _, _] (by kernel_rfl) rfl) | (apply Walk.drawN (id := 19) tab_ok mixed_ok [] [] (hsU _) [_, _, _, _] (by kernel_rfl) rfl) | ((with_reducible apply XNext.mk); conv => whnf) | ((with_reducible apply XBr.mk') <;> (intro h; conv => whnf))
    refine XAgainG.go (k + 1, looks ++ [((row.isEmpty, row) : Rw)], truths ++ [((dry.isEmpty, dry) : Tru)], v) [.cells [.sl dry.isEmpty (dry.map spsA)], .dead, .dead] ⟨by dsimp only; omega, ov, ⟨by dsimp only; rw [List.length_append, hll]; rfl, by dsimp only; rw [List.length_append, htl]; rfl⟩, fun r hr => ?_, fun t ht => ?_⟩ (by dsimp only; omega) ?_ ⟨rfl, rfl, rfl, rfl, rfl, trivial⟩
    · rcases List.mem_append.1 hr with hr | hr
      · exact hlk r hr
      · rw [List.mem_singleton] at hr; rw [hr]; exact ⟨by dsimp only; omega, hrow⟩
    · rcases List.mem_append.1 ht with ht | ht
      · exact htr t ht
      · rw [List.mem_singleton] at ht; rw [ht]; exact ⟨by dsimp only; omega, hdry⟩
    dsimp only
    rw [List.length_append, List.length_append, isEmpty_app, isEmpty_app, List.map_append, List.map_append]; rfl
  have hkN : (k : Int) = N := by omega
  repeat' first | ((with_reducible first | apply XBr.tt | apply XBr.ff | apply Chk.go | apply ChkA.go | apply ChkF.go | apply ChkB.go | apply XArr.pim0 | apply XArr.pim1); conv => whnf) | (with_reducible apply XBr.not) | ((with_reducible apply XBr.dec) <;> (intro h; first | (exfalso; omega) | ((try simp only [List.length_map] at h); first | (exfalso; omega) | (conv => whnf)))) | ((with_reducible first | apply XBr.beq | apply XBr.bne) <;> (intro h; first | (exfalso; omega) | (conv => whnf))) | ((with_reducible refine XInt.i64 (by omega) (by omega) ?_); conv => whnf) | ((with_reducible refine XHold.mk ?_ ?_); (first | omega | rfl | decide | exact ⟨rfl, by decide, rfl⟩ | exact wideI _ | exact widePr _ | exact wideSk _ | (unfold Room; constructor <;> ((try simp) <;> omega)) | exact ⟨rfl, by simp only [List.length_map], by unfold Room; constructor <;> ((try simp) <;> omega)⟩ | exact ⟨by omega, by omega, by unfold Room; constructor <;> ((try simp) <;> omega)⟩); conv => whnf) | ((first | ((with_reducible refine XIx.nat ?_ ?_ ?_); omega; (intro _; rfl)) | ((with_reducible refine XIx.map ?_ ?_ ?_ ?_); omega; omega; (intro _; rfl))); conv => whnf) | (with_reducible apply XAnd.mk) | (exact XSame.mk rfl rfl) | (exact XSame.mk (by first | rfl | (simp only [List.map_append, List.length_append, List.length_map]; done) | (simp only [List.map_append, List.length_append, List.length_map]; rfl)) (by first | rfl | (simp only [List.map_append]; done) | (simp only [List.map_append]; rfl))) | (with_reducible exact trivial) | ((first | (with_reducible refine xdrop_app (by rw [List.length_map]; omega) ?_) | (with_reducible refine XDrop.desk (by assumption) ?_) | (with_reducible first | refine XArr.ints (by omega) (by omega) (by omega) ?_ | refine XArr.intsA (by omega) (by omega) (by omega) ?_) | ((with_reducible first | refine XArr.nats ?_ ?_ ?_ | refine XArr.natsA ?_ ?_ ?_ | refine XArr.ptr ?_ ?_ ?_); omega; omega)); conv => whnf) | (apply Walk.drawN (id := 6) tab_ok mixed_ok [] [6, 9, 11] (hsC [_, _, _, _]) [_, _, _, _, _, _, _, _, _, _, _, _] (by kernel_rfl) rfl) | (apply Walk.drawN (id := 17) tab_ok mixed_ok [] [1, 8] (hsC [_, _, _]) [_, _, _, _, _, _, _, _, _, _, _, _] (by kernel_rfl) rfl) | (apply Walk.drawN (id := 19) tab_ok mixed_ok [] [] (hsU _) [_, _, _, _] (by kernel_rfl) rfl) | ((with_reducible apply XNext.mk); conv => whnf) | ((with_reducible apply XBr.mk') <;> (intro h; conv => whnf))
  exact ⟨_, [hpC v], ⟨rfl, rfl, fun x hx => hpLow hx, FrozN.agg (snOne ⟨P, 0, bd, L, W.isEmpty, W, looks.isEmpty, looks, truths.isEmpty, truths⟩) (.cons (.low rfl) (.cons (.low rfl) (.cons (.low rfl) (.cons (.low rfl) (.cons (.low (lowWy _)) (.cons (FrozN.grow (show (1 : Nat) ≤ 4 by omega) rfl hlm (lowRk _)) (.cons (FrozN.grow (show (1 : Nat) ≤ 5 by omega) rfl htm (lowTr _)) .nil)))))))⟩, _, v, snL _, ⟨_, rfl, mk_ok (by omega) (by omega) (by omega) hl2 hW hlk htr (by omega) (by omega) (by omega), ov⟩, rfl, rfl⟩
end GA
end

section
namespace GA
open Go Go.RowKit Go.Proofs
set_option pp.deepTerms true
set_option maxRecDepth 8000
set_option linter.unusedVariables false
set_option linter.unusedSimpArgs false

theorem fstart_c (s : Sn) (ok : SnOk s) (m : Nat) (hm : (m : Int) ≤ s.last) : Comp Try.prog 111 [dskFA s, wsA s, natA m] (.int .i64 (startZ s m)) := by
  have h1 := ok.h1; have hal := allN_lt ok; have l2 := ok.l2
  have hac := fall_c s ok
  obtain ⟨h0, hh0⟩ : ∃ h0 : Nat, s.home = h0 := ⟨s.home.toNat, by omega⟩
  have hpa := fparts_c s ok h0 (allN s) (by omega) (by omega)
  have hle := fun l (h : l ∈ partsL s h0 (allN s)) => partsL_all ok h
  have hlen := partsL_len s h0 (allN s)
  have hsd : startZ s m = (partsL s h0 (allN s)).foldl (fun n l => min n (worthZ s ⟨h0, m, l⟩)) 60 := by unfold startZ; rw [hh0]; rfl
  rw [hsd]
  generalize partsL s h0 (allN s) = L at hpa hle hlen
  have hpa' : Comp Try.prog 98 [dskFA s, .int .i64 s.home, natA (allN s)] (nsA L) := by rw [hh0]; exact hpa
  have e1 : ((L.map natA).length : Int) = L.length := by rw [List.length_map]
  refine Comp.body (T := tab) (res := [.tmp 6]) tab_ok [] Try.func111 rfl (by kernel_rfl) Try.ntmps111 rfl (by simp only [List.length_cons, List.length_nil]; decide) (by simp only [lowL, AV.low, dskFL, worsL, natA]; rfl) ?_; conv => whnf
  repeat' first | ((with_reducible first | apply XBr.tt | apply XBr.ff | apply Chk.go | apply ChkA.go | apply ChkF.go | apply ChkB.go | apply XArr.pim0 | apply XArr.pim1); conv => whnf) | (with_reducible apply XBr.not) | ((with_reducible apply XBr.dec) <;> (intro h; first | (exfalso; omega) | ((try simp only [List.length_map] at h); first | (exfalso; omega) | (conv => whnf)))) | ((with_reducible first | apply XBr.beq | apply XBr.bne) <;> (intro h; first | (exfalso; omega) | (conv => whnf))) | ((with_reducible refine XInt.i64 (by omega) (by omega) ?_); conv => whnf) | ((with_reducible refine XHold.mk ?_ ?_); (first | omega | rfl | decide | exact ⟨rfl, by decide, rfl⟩ | exact wideI _ | exact widePr _ | exact wideSk _ | (unfold Room; constructor <;> ((try simp) <;> omega)) | exact ⟨rfl, by simp only [List.length_map], by unfold Room; constructor <;> ((try simp) <;> omega)⟩ | exact ⟨by omega, by omega, by unfold Room; constructor <;> ((try simp) <;> omega)⟩); conv => whnf) | ((first | ((with_reducible refine XIx.nat ?_ ?_ ?_); omega; (intro _; rfl)) | ((with_reducible refine XIx.map ?_ ?_ ?_ ?_); omega; omega; (intro _; rfl))); conv => whnf) | (with_reducible apply XAnd.mk) | (exact XSame.mk rfl rfl) | (exact XSame.mk (by first | rfl | (simp only [List.map_append, List.length_append, List.length_map]; done) | (simp only [List.map_append, List.length_append, List.length_map]; rfl)) (by first | rfl | (simp only [List.map_append]; done) | (simp only [List.map_append]; rfl))) | (with_reducible exact trivial) | ((first | (with_reducible refine xdrop_app (by rw [List.length_map]; omega) ?_) | (with_reducible refine XDrop.desk (by assumption) ?_) | (with_reducible first | refine XArr.ints (by omega) (by omega) (by omega) ?_ | refine XArr.intsA (by omega) (by omega) (by omega) ?_) | ((with_reducible first | refine XArr.nats ?_ ?_ ?_ | refine XArr.natsA ?_ ?_ ?_ | refine XArr.ptr ?_ ?_ ?_); omega; omega)); conv => whnf) | (apply Walk.drawN (id := 2) tab_ok mixed_ok [] [] (hsU _) [_, _, _, _, _, _, _, _, _, _, _] (by kernel_rfl) rfl) | ((first | (with_reducible apply XNext.mk) | (refine XCall.ret hac ?_) | (refine XCall.ret hpa' ?_)); conv => whnf) | ((with_reducible apply XBr.mk') <;> (intro h; conv => whnf))
  refine Walk.loopK tab_ok [] [(0, _), (1, _), (2, _), (18, _), (19, _)] ⟨rfl, rfl, rfl, rfl, rfl, trivial⟩ (fun k : Nat => k ≤ L.length) (fun k => [(7, .int .i64 ((L.take k).foldl (fun n l => min n (worthZ s ⟨h0, m, l⟩)) 60)), (20, natA k)]) (fun _ => []) (fun k => L.length - k) 0 (Nat.zero_le _) rfl ⟨rfl, rfl, trivial⟩ ?_
  intro k hk
  have hnx : k < L.length → (L.take (k + 1)).foldl (fun n l => min n (worthZ s ⟨h0, m, l⟩)) 60 = min ((L.take k).foldl (fun n l => min n (worthZ s ⟨h0, m, l⟩)) 60) (worthZ s ⟨h0, m, L.getD k default⟩) := fun h => by rw [take_next h, List.foldl_append]; rfl
  have hend : k = L.length → (L.take k).foldl (fun n l => min n (worthZ s ⟨h0, m, l⟩)) 60 = L.foldl (fun n l => min n (worthZ s ⟨h0, m, l⟩)) 60 := fun h => by rw [h, List.take_length]
  generalize (L.take k).foldl (fun n l => min n (worthZ s ⟨h0, m, l⟩)) 60 = v at hnx hend
  conv => whnf
  by_cases hlt : k < L.length
  · have hnx := hnx hlt
    have hof := wof_c s ok ⟨h0, m, L.getD k default⟩ ⟨by show (h0 : Int) < s.places; omega, hm, hle _ (getD_mem hlt)⟩
    have hst : staA ⟨h0, m, L.getD k default⟩ = .agg [.int .i64 s.home, natA m, natA (L.getD k default)] := by rw [hh0]; rfl
    rw [hst] at hof
    generalize worthZ s ⟨h0, m, L.getD k default⟩ = w at hof hnx
    have hls := fleast_c v false [w] (by simp)
    repeat' first | ((with_reducible first | apply XBr.tt | apply XBr.ff | apply Chk.go | apply ChkA.go | apply ChkF.go | apply ChkB.go | apply XArr.pim0 | apply XArr.pim1); conv => whnf) | (with_reducible apply XBr.not) | ((with_reducible apply XBr.dec) <;> (intro h; first | (exfalso; omega) | ((try simp only [List.length_map] at h); first | (exfalso; omega) | (conv => whnf)))) | ((with_reducible first | apply XBr.beq | apply XBr.bne) <;> (intro h; first | (exfalso; omega) | (conv => whnf))) | ((with_reducible refine XInt.i64 (by omega) (by omega) ?_); conv => whnf) | ((with_reducible refine XHold.mk ?_ ?_); (first | omega | rfl | decide | exact ⟨rfl, by decide, rfl⟩ | exact wideI _ | exact widePr _ | exact wideSk _ | (unfold Room; constructor <;> ((try simp) <;> omega)) | exact ⟨rfl, by simp only [List.length_map], by unfold Room; constructor <;> ((try simp) <;> omega)⟩ | exact ⟨by omega, by omega, by unfold Room; constructor <;> ((try simp) <;> omega)⟩); conv => whnf) | ((first | ((with_reducible refine XIx.nat ?_ ?_ ?_); omega; (intro _; rfl)) | ((with_reducible refine XIx.map ?_ ?_ ?_ ?_); omega; omega; (intro _; rfl))); conv => whnf) | (with_reducible apply XAnd.mk) | (exact XSame.mk rfl rfl) | (exact XSame.mk (by first | rfl | (simp only [List.map_append, List.length_append, List.length_map]; done) | (simp only [List.map_append, List.length_append, List.length_map]; rfl)) (by first | rfl | (simp only [List.map_append]; done) | (simp only [List.map_append]; rfl))) | (with_reducible exact trivial) | ((first | (with_reducible refine xdrop_app (by rw [List.length_map]; omega) ?_) | (with_reducible refine XDrop.desk (by assumption) ?_) | (with_reducible first | refine XArr.ints (by omega) (by omega) (by omega) ?_ | refine XArr.intsA (by omega) (by omega) (by omega) ?_) | ((with_reducible first | refine XArr.nats ?_ ?_ ?_ | refine XArr.natsA ?_ ?_ ?_ | refine XArr.ptr ?_ ?_ ?_); omega; omega)); conv => whnf) | (apply Walk.drawN (id := 2) tab_ok mixed_ok [] [] (hsU _) [_, _, _, _, _, _, _, _, _, _, _] (by kernel_rfl) rfl) | ((first | (with_reducible apply XNext.mk) | (refine XCall.ret hof ?_) | (refine XCall.ret hls ?_)); conv => whnf) | ((with_reducible apply XBr.mk') <;> (intro h; conv => whnf))
    exact XAgain.go (k + 1) (by omega) (by omega) rfl ⟨rfl, rfl, rfl, rfl, rfl, (by rw [hnx]; rfl), rfl, trivial⟩
  obtain rfl : k = L.length := by omega
  repeat' first | ((with_reducible first | apply XBr.tt | apply XBr.ff | apply Chk.go | apply ChkA.go | apply ChkF.go | apply ChkB.go | apply XArr.pim0 | apply XArr.pim1); conv => whnf) | (with_reducible apply XBr.not) | ((with_reducible apply XBr.dec) <;> (intro h; first | (exfalso; omega) | ((try simp only [List.length_map] at h); first | (exfalso; omega) | (conv => whnf)))) | ((with_reducible first | apply XBr.beq | apply XBr.bne) <;> (intro h; first | (exfalso; omega) | (conv => whnf))) | ((with_reducible refine XInt.i64 (by omega) (by omega) ?_); conv => whnf) | ((with_reducible refine XHold.mk ?_ ?_); (first | omega | rfl | decide | exact ⟨rfl, by decide, rfl⟩ | exact wideI _ | exact widePr _ | exact wideSk _ | (unfold Room; constructor <;> ((try simp) <;> omega)) | exact ⟨rfl, by simp only [List.length_map], by unfold Room; constructor <;> ((try simp) <;> omega)⟩ | exact ⟨by omega, by omega, by unfold Room; constructor <;> ((try simp) <;> omega)⟩); conv => whnf) | ((first | ((with_reducible refine XIx.nat ?_ ?_ ?_); omega; (intro _; rfl)) | ((with_reducible refine XIx.map ?_ ?_ ?_ ?_); omega; omega; (intro _; rfl))); conv => whnf) | (with_reducible apply XAnd.mk) | (exact XSame.mk rfl rfl) | (exact XSame.mk (by first | rfl | (simp only [List.map_append, List.length_append, List.length_map]; done) | (simp only [List.map_append, List.length_append, List.length_map]; rfl)) (by first | rfl | (simp only [List.map_append]; done) | (simp only [List.map_append]; rfl))) | (with_reducible exact trivial) | ((first | (with_reducible refine xdrop_app (by rw [List.length_map]; omega) ?_) | (with_reducible refine XDrop.desk (by assumption) ?_) | (with_reducible first | refine XArr.ints (by omega) (by omega) (by omega) ?_ | refine XArr.intsA (by omega) (by omega) (by omega) ?_) | ((with_reducible first | refine XArr.nats ?_ ?_ ?_ | refine XArr.natsA ?_ ?_ ?_ | refine XArr.ptr ?_ ?_ ?_); omega; omega)); conv => whnf) | (apply Walk.drawN (id := 2) tab_ok mixed_ok [] [] (hsU _) [_, _, _, _, _, _, _, _, _, _, _] (by kernel_rfl) rfl) | ((with_reducible apply XNext.mk); conv => whnf) | ((with_reducible apply XBr.mk') <;> (intro h; conv => whnf))
  exact XOut.int (hend rfl)
def begE (s : Sn) (m : Int) : Int := if snE s ≠ 0 then snE s else if inZ m 0 s.last = false then 3 else 0
theorem begE_iff {s : Sn} {m : Int} : begE s m = 0 ↔ SnOk s ∧ 0 ≤ m ∧ m ≤ s.last := by
  unfold begE
  by_cases h : snE s = 0
  · rw [if_neg (by simp [h]), snE_iff.symm]
    by_cases h2 : inZ m 0 s.last = false
    · rw [if_pos h2]
      simp only [inZ, Bool.and_eq_false_iff, decide_eq_false_iff_not] at h2
      constructor
      · intro h3; cases h3
      · rintro ⟨-, h3, h4⟩; omega
    · rw [if_neg h2]
      have h3 : inZ m 0 s.last = true := by simpa using h2
      rw [inZ_iff] at h3
      exact ⟨fun _ => ⟨h, h3⟩, fun _ => rfl⟩
  · rw [if_pos h, snE_iff.symm]
    exact ⟨fun h' => absurd h' h, fun h' => absurd h'.1 h⟩
theorem begun_ok (s : Sn) (hb : SnB s) (m : Int) (h : begE s m = 0) : Comp Try.prog 110 [snA s, .int .i64 m] (.tup [dskFA s, .int .i64 0]) := by
  obtain ⟨ok, h1⟩ := begE_iff.1 h
  have ho := fdOpened_c s hb ok
  have hmn := fminute_c s m
  rw [inZ_iff.2 h1] at hmn
  refine Comp.body (T := tab) (res := [.tmp 4, .tmp 5]) tab_ok [] Try.func110 rfl (by kernel_rfl) Try.ntmps110 rfl (by simp only [List.length_cons, List.length_nil]; decide) (by simp only [lowL, AV.low, snL]; rfl) ?_; conv => whnf
  repeat' first | ((with_reducible first | apply XBr.tt | apply XBr.ff | apply Chk.go | apply ChkA.go | apply ChkF.go | apply ChkB.go | apply XArr.pim0 | apply XArr.pim1); conv => whnf) | (with_reducible apply XBr.not) | ((with_reducible apply XBr.dec) <;> (intro h; first | (exfalso; omega) | ((try simp only [List.length_map] at h); first | (exfalso; omega) | (conv => whnf)))) | ((with_reducible first | apply XBr.beq | apply XBr.bne) <;> (intro h; first | (exfalso; omega) | (conv => whnf))) | ((with_reducible refine XInt.i64 (by omega) (by omega) ?_); conv => whnf) | ((with_reducible refine XHold.mk ?_ ?_); (first | omega | rfl | decide | exact ⟨rfl, by decide, rfl⟩ | exact wideI _ | exact widePr _ | exact wideSk _ | (unfold Room; constructor <;> ((try simp) <;> omega)) | exact ⟨rfl, by simp only [List.length_map], by unfold Room; constructor <;> ((try simp) <;> omega)⟩ | exact ⟨by omega, by omega, by unfold Room; constructor <;> ((try simp) <;> omega)⟩); conv => whnf) | ((first | ((with_reducible refine XIx.nat ?_ ?_ ?_); omega; (intro _; rfl)) | ((with_reducible refine XIx.map ?_ ?_ ?_ ?_); omega; omega; (intro _; rfl))); conv => whnf) | (with_reducible apply XAnd.mk) | (exact XSame.mk rfl rfl) | (exact XSame.mk (by first | rfl | (simp only [List.map_append, List.length_append, List.length_map]; done) | (simp only [List.map_append, List.length_append, List.length_map]; rfl)) (by first | rfl | (simp only [List.map_append]; done) | (simp only [List.map_append]; rfl))) | (with_reducible exact trivial) | ((first | (with_reducible refine xdrop_app (by rw [List.length_map]; omega) ?_) | (with_reducible refine XDrop.desk (by assumption) ?_) | (with_reducible first | refine XArr.ints (by omega) (by omega) (by omega) ?_ | refine XArr.intsA (by omega) (by omega) (by omega) ?_) | ((with_reducible first | refine XArr.nats ?_ ?_ ?_ | refine XArr.natsA ?_ ?_ ?_ | refine XArr.ptr ?_ ?_ ?_); omega; omega) | (with_reducible apply XNext.mk) | (refine XCall.ret ho ?_) | (refine XCall.ret hmn ?_)); conv => whnf) | ((with_reducible apply XBr.mk') <;> (intro h; conv => whnf))
  exact ⟨.low (by show ((dskFA s).low 0 && true) = true; rw [dskFL]; rfl)⟩
theorem fStart_ok (s : Sn) (hb : SnB s) (ok : SnOk s) (m : Nat) (hm : (m : Int) ≤ s.last) : Comp Try.prog 42 [snA s, natA m] (.tup [.int .i64 (startZ s m), .int .i64 0]) := by
  have hc := begun_ok s hb m (begE_iff.2 ⟨ok, by omega, hm⟩)
  have hw := worths_c s ok
  have hs := fstart_c s ok m hm
  refine Comp.body (T := tab) (res := [.tmp 4, .tmp 5]) tab_ok [] Try.func42 rfl (by kernel_rfl) Try.ntmps42 rfl (by simp only [List.length_cons, List.length_nil]; decide) (by simp only [lowL, AV.low, snL]; rfl) ?_; conv => whnf
  repeat' first | ((with_reducible first | apply XBr.tt | apply XBr.ff | apply Chk.go | apply ChkA.go | apply ChkF.go | apply ChkB.go | apply XArr.pim0 | apply XArr.pim1); conv => whnf) | (with_reducible apply XBr.not) | ((with_reducible apply XBr.dec) <;> (intro h; first | (exfalso; omega) | ((try simp only [List.length_map] at h); first | (exfalso; omega) | (conv => whnf)))) | ((with_reducible first | apply XBr.beq | apply XBr.bne) <;> (intro h; first | (exfalso; omega) | (conv => whnf))) | ((with_reducible refine XInt.i64 (by omega) (by omega) ?_); conv => whnf) | ((with_reducible refine XHold.mk ?_ ?_); (first | omega | rfl | decide | exact ⟨rfl, by decide, rfl⟩ | exact wideI _ | exact widePr _ | exact wideSk _ | (unfold Room; constructor <;> ((try simp) <;> omega)) | exact ⟨rfl, by simp only [List.length_map], by unfold Room; constructor <;> ((try simp) <;> omega)⟩ | exact ⟨by omega, by omega, by unfold Room; constructor <;> ((try simp) <;> omega)⟩); conv => whnf) | ((first | ((with_reducible refine XIx.nat ?_ ?_ ?_); omega; (intro _; rfl)) | ((with_reducible refine XIx.map ?_ ?_ ?_ ?_); omega; omega; (intro _; rfl))); conv => whnf) | (with_reducible apply XAnd.mk) | (exact XSame.mk rfl rfl) | (exact XSame.mk (by first | rfl | (simp only [List.map_append, List.length_append, List.length_map]; done) | (simp only [List.map_append, List.length_append, List.length_map]; rfl)) (by first | rfl | (simp only [List.map_append]; done) | (simp only [List.map_append]; rfl))) | (with_reducible exact trivial) | ((first | (with_reducible refine xdrop_app (by rw [List.length_map]; omega) ?_) | (with_reducible refine XDrop.desk (by assumption) ?_) | (with_reducible first | refine XArr.ints (by omega) (by omega) (by omega) ?_ | refine XArr.intsA (by omega) (by omega) (by omega) ?_) | ((with_reducible first | refine XArr.nats ?_ ?_ ?_ | refine XArr.natsA ?_ ?_ ?_ | refine XArr.ptr ?_ ?_ ?_); omega; omega) | (with_reducible apply XNext.mk) | (refine XCall.ret hc ?_) | (refine XCall.ret hw ?_) | (refine XCall.ret hs ?_)); conv => whnf) | ((with_reducible apply XBr.mk') <;> (intro h; conv => whnf))
  exact ⟨.low rfl⟩
end GA
end

section
namespace GA
open Go Go.RowKit Go.Proofs
set_option pp.deepTerms true
set_option maxRecDepth 8000
set_option linter.unusedVariables false
set_option linter.unusedSimpArgs false

def tolI (s : Sn) (p i : Nat) : List Int := (s.looks.getD i default).2.set p (i : Int)
def tolB (s : Sn) (p i : Nat) : Blk := .grow 3 false (ints (tolI s p i))
def tolV (s : Sn) (P i : Nat) : AV := .gr (i + 3) P
theorem tolS_looks (s : Sn) (p : Nat) : (tolS s p).looks.map rwA = vecF s.looks.length fun i => .sl false (ints (tolI s p i)) := by
  show (vecF s.looks.length fun i => tolR p i (s.looks.getD i default)).map rwA = _
  rw [vecF_map]; rfl
theorem tolI_len (s : Sn) (p i : Nat) : (tolI s p i).length = (s.looks.getD i default).2.length := List.length_set
theorem tol_froz {s : Sn} {p P n : Nat} {A B C : Blk} (hn : n = s.looks.length) (hC : C = .grow 32 false (vecF n (tolV s P))) (hP : ∀ i, i < n → (s.looks.getD i default).2.length = P) : Froz Try.prog (A :: B :: C :: vecF n (tolB s p)) (.gr 2 n) (.sl false ((tolS s p).looks.map rwA)) := by
  rw [tolS_looks, ← hn]
  refine froz_vec (by show lget (A :: B :: C :: _) 2 = _; rw [hC]; rfl) (by kernel_rfl) (fun _ _ => rfl) (fun _ _ => rfl) fun i hi => ?_
  refine Froz.grow (t := 3) ?_ ?_ (lowI _)
  · show lget (vecF n (tolB s p)) i = _
    rw [lget_vec hi]; rfl
  · rw [ints_len, tolI_len, hP i hi]
theorem XPutEls.mk' {els new : List AV} {o : Nat} {k : List AV → Prop} (els' : List AV) (e : splice els o new = els') (h : k els') : XPutEls els o new k := ⟨by rw [e]; exact h⟩
theorem lget_3 {a b c : Blk} {R : List Blk} {k : Nat} : lget (a :: b :: c :: R) (k + 3) = lget R k := rfl
theorem set_3 {a b c x : Blk} {R : List Blk} {k : Nat} : (a :: b :: c :: R).set (k + 3) x = a :: b :: c :: R.set k x := rfl
theorem told_c (s : Sn) (hb : SnB s) (ok : SnOk s) (p : Nat) (hp : (p : Int) < s.places) : Comp Try.prog 112 [snA s, natA p] (snA (tolS s p)) := by
  have t2 := ok.t2; have k1 := ok.k1; have p2 := ok.p2
  obtain ⟨P0, hP0⟩ : ∃ P0 : Nat, s.places = P0 := ⟨s.places.toNat, by have := ok.p1; omega⟩
  have hrl : ∀ i, i < s.looks.length → (s.looks.getD i default).2.length = P0 := fun i hi => by have := ok.kl _ (getD_mem (d := default) hi); omega
  have e1 : ((s.looks.map rwA).length : Int) = s.looks.length := by rw [List.length_map]
  refine Comp.body (T := tab) (res := [.cell 4 27]) tab_ok [2] Try.func112 rfl (by kernel_rfl) Try.ntmps112 rfl (by simp only [List.length_cons, List.length_nil]; decide) (by simp only [lowL, AV.low, snL]; rfl) ?_; conv => whnf
  repeat' first | ((with_reducible first | apply XBr.tt | apply XBr.ff | apply Chk.go | apply ChkA.go | apply ChkF.go | apply ChkB.go | apply XArr.pim0 | apply XArr.pim1); conv => whnf) | (with_reducible apply XBr.not) | ((with_reducible apply XBr.dec) <;> (intro h; first | (exfalso; omega) | ((try simp only [List.length_map] at h); first | (exfalso; omega) | (conv => whnf)))) | ((with_reducible first | apply XBr.beq | apply XBr.bne) <;> (intro h; first | (exfalso; omega) | (conv => whnf))) | ((with_reducible refine XInt.i64 (by omega) (by omega) ?_); conv => whnf) | ((with_reducible refine XHold.mk ?_ ?_); (first | omega | rfl | decide | exact ⟨rfl, by decide, rfl⟩ | exact wideI _ | exact widePr _ | exact wideSk _ | (unfold Room; constructor <;> ((try simp) <;> omega)) | exact ⟨rfl, by simp only [List.length_map], by unfold Room; constructor <;> ((try simp) <;> omega)⟩ | exact ⟨by omega, by omega, by unfold Room; constructor <;> ((try simp) <;> omega)⟩); conv => whnf) | ((first | ((with_reducible refine XIx.nat ?_ ?_ ?_); omega; (intro _; rfl)) | ((with_reducible refine XIx.map ?_ ?_ ?_ ?_); omega; omega; (intro _; rfl))); conv => whnf) | (with_reducible apply XAnd.mk) | (exact XSame.mk rfl rfl) | (exact XSame.mk (by first | rfl | (simp only [List.map_append, List.length_append, List.length_map]; done) | (simp only [List.map_append, List.length_append, List.length_map]; rfl)) (by first | rfl | (simp only [List.map_append]; done) | (simp only [List.map_append]; rfl))) | (with_reducible exact trivial) | ((first | (with_reducible refine xdrop_app (by rw [List.length_map]; omega) ?_) | (with_reducible refine XDrop.desk (by assumption) ?_) | (with_reducible first | refine XArr.ints (by omega) (by omega) (by omega) ?_ | refine XArr.intsA (by omega) (by omega) (by omega) ?_) | ((with_reducible first | refine XArr.nats ?_ ?_ ?_ | refine XArr.natsA ?_ ?_ ?_ | refine XArr.ptr ?_ ?_ ?_); omega; omega) | (with_reducible apply XNext.mk)); conv => whnf) | ((refine XHold.mk ⟨by omega, by omega, by unfold Room; constructor <;> omega⟩ ?_); conv => whnf) | ((with_reducible apply XBr.mk') <;> (intro h; conv => whnf))
  refine Walk.loopK tab_ok [] [(1, _), (2, _), (4, _), (5, .gr 2 s.looks.length), (13, _), (14, _)] ⟨rfl, rfl, rfl, (by show some (AV.gr 2 (((s.looks.map rwA).length : Nat) : Int).toNat) = some (AV.gr 2 s.looks.length); rw [e1, Int.toNat_natCast]), rfl, rfl, trivial⟩ (fun k : Nat => k ≤ s.looks.length) (fun k => [(15, natA k)]) (fun k => .cells (snC s) :: .cells [.int .i64 0, .int .i64 0, .int .i64 0, .int .i64 0, .sl true [], .sl true [], .sl true []] :: .grow 32 false (vecF s.looks.length fun i => if i < k then tolV s P0 i else .sl true []) :: vecF k (tolB s p)) (fun k => s.looks.length - k) 0 (Nat.zero_le _) ?_ ⟨rfl, trivial⟩ ?_
  · rw [e1, Int.toNat_natCast, vecF_congr (G := fun _ => AV.sl true []) fun i _ => if_neg (Nat.not_lt_zero i), vecF_replicate, vecF_eq]; rfl
  intro k hk
  have hse : ∀ v : AV, k < s.looks.length → v = tolV s P0 k → (vecF s.looks.length fun i => if i < k then tolV s P0 i else AV.sl true []).set k v = vecF s.looks.length fun i => if i < k + 1 then tolV s P0 i else .sl true [] := fun v hk hv => by
    rw [vecF_set]
    refine vecF_congr fun i _ => ?_
    show (if i = k then v else if i < k then tolV s P0 i else AV.sl true []) = if i < k + 1 then tolV s P0 i else .sl true []
    by_cases e : i = k
    · rw [if_pos e, if_pos (by omega), hv, e]
    · rw [if_neg e]
      by_cases e2 : i < k
      · rw [if_pos e2, if_pos (by omega)]
      · rw [if_neg e2, if_neg (by omega)]
  have hel : (vecF s.looks.length fun i => if i < k then tolV s P0 i else AV.sl true []).length = s.looks.length := vecF_len _ _
  have hee : k = s.looks.length → (vecF s.looks.length fun i => if i < k then tolV s P0 i else AV.sl true []) = vecF s.looks.length (tolV s P0) := fun h => vecF_congr fun i hi => if_pos (by omega)
  generalize (vecF s.looks.length fun i => if i < k then tolV s P0 i else AV.sl true []) = els at hse hel hee
  have hRl : (vecF k (tolB s p)).length = k := vecF_len _ _
  have hRn : vecF k (tolB s p) ++ [tolB s p k] = vecF (k + 1) (tolB s p) := (vecF_succ _ _).symm
  have hRe : k = s.looks.length → ∀ A B, Froz Try.prog (A :: B :: .grow 32 false els :: vecF k (tolB s p)) (.gr 2 s.looks.length) (.sl false ((tolS s p).looks.map rwA)) := fun h A B => by rw [h]; exact tol_froz (n := s.looks.length) rfl (by rw [hee h]) hrl
  generalize vecF k (tolB s p) = R at hRl hRn hRe
  obtain ⟨A, hA⟩ : ∃ A, A = Blk.cells (snC s) := ⟨_, rfl⟩
  obtain ⟨B, hB⟩ : ∃ B, B = Blk.cells [.int .i64 0, .int .i64 0, .int .i64 0, .int .i64 0, .sl true [], .sl true [], .sl true []] := ⟨_, rfl⟩
  rw [← hA, ← hB]
  obtain ⟨H0, hH0⟩ : ∃ H0, H0 = A :: B :: Blk.grow 32 false els :: R := ⟨_, rfl⟩
  have h0l : H0.length = k + 3 := by rw [hH0]; simp only [List.length_cons, hRl]
  have h00 : lget H0 0 = some (.cells (snC s)) := by rw [hH0, hA]; rfl
  refine XRun.heap H0 hH0 ?_
  conv => whnf
  by_cases hlt : k < s.looks.length
  · have hrow := hrl k hlt
    have hkn := ok.kn _ (getD_mem (d := default) hlt)
    have htb : tolB s p k = .grow 3 false (ints ((s.looks.getD k default).2.set p (k : Int))) := rfl
    have hes : k < els.length := by omega
    have e2 : ((ints (s.looks.getD k default).2).length : Int) = P0 := by rw [ints_len, hrow]
    have e4 : (((s.looks[k]?.getD default).snd.length : Nat) : Int) = P0 := by rw [← List.getD_eq_getElem?_getD]; omega
    have hN : (((ints (s.looks.getD k default).2).length : Nat) : Int).toNat = P0 := by rw [e2, Int.toNat_natCast]
    have hNl : (((ints (s.looks.getD k default).2).length : Nat) : Int).toNat = (ints (s.looks.getD k default).2).length := Int.toNat_natCast _
    have hps : (ints (s.looks.getD k default).2).set p (natA k) = ints ((s.looks.getD k default).2.set p (k : Int)) := (List.map_set (f := AV.int .i64)).symm
    obtain ⟨b0, hb0⟩ : ∃ b0, b0 = Blk.grow 3 false (List.replicate (((ints (s.looks.getD k default).2).length : Nat) : Int).toNat (AV.int .i64 0)) := ⟨_, rfl⟩
    obtain ⟨b1, hb1⟩ : ∃ b1, b1 = Blk.grow 3 false (ints (s.looks.getD k default).2) := ⟨_, rfl⟩
    obtain ⟨v, hv⟩ : ∃ v, v = AV.gr (k + 3) (((ints (s.looks.getD k default).2).length : Nat) : Int).toNat := ⟨_, rfl⟩
    have hvP : v = tolV s P0 k := by rw [hv, hN]; rfl
    obtain ⟨H1, hH1⟩ : ∃ H1, H1 = A :: B :: Blk.grow 32 false els :: (R ++ [b0]) := ⟨_, rfl⟩
    obtain ⟨H2, hH2⟩ : ∃ H2, H2 = A :: B :: Blk.grow 32 false (els.set k v) :: (R ++ [b0]) := ⟨_, rfl⟩
    obtain ⟨H3, hH3⟩ : ∃ H3, H3 = A :: B :: Blk.grow 32 false (els.set k v) :: (R ++ [b1]) := ⟨_, rfl⟩
    obtain ⟨H4, hH4⟩ : ∃ H4, H4 = A :: B :: Blk.grow 32 false (els.set k v) :: (R ++ [tolB s p k]) := ⟨_, rfl⟩
    have h12 : lget H1 2 = some (.grow 32 false els) := by rw [hH1]; rfl
    have h1s : H1.set 2 (.grow 32 false (els.set k v)) = H2 := by rw [hH1, hH2]; rfl
    have h22 : lget H2 2 = some (.grow 32 false (els.set k v)) := by rw [hH2]; rfl
    have h32 : lget H3 2 = some (.grow 32 false (els.set k v)) := by rw [hH3]; rfl
    have h2k : lget H2 (k + 3) = some (.grow 3 false (List.replicate (((ints (s.looks.getD k default).2).length : Nat) : Int).toNat (AV.int .i64 0))) := by rw [hH2, lget_3, ← hb0]; exact lget_push hRl.symm
    have h3k : lget H3 (k + 3) = some (.grow 3 false (ints (s.looks.getD k default).2)) := by rw [hH3, lget_3, ← hb1]; exact lget_push hRl.symm
    have h2s : H2.set (k + 3) (.grow 3 false (ints (s.looks.getD k default).2)) = H3 := by rw [hH2, hH3, set_3, ← hb1, set_push hRl.symm]
    have h3s : H3.set (k + 3) (.grow 3 false (ints ((s.looks.getD k default).2.set p (k : Int)))) = H4 := by rw [hH3, hH4, set_3, ← htb, set_push hRl.symm]
    have hl1 : H1.length = k + 4 := by rw [hH1]; simp only [List.length_cons, List.length_append, hRl, List.length_nil]
    have hl2 : H2.length = k + 4 := by rw [hH2]; simp only [List.length_cons, List.length_append, hRl, List.length_nil]
    have hl3 : H3.length = k + 4 := by rw [hH3]; simp only [List.length_cons, List.length_append, hRl, List.length_nil]
    have hsl : (els.set k v).length = s.looks.length := by rw [List.length_set]; exact hel
    repeat' first | ((with_reducible first | apply XBr.tt | apply XBr.ff | apply Chk.go | apply ChkA.go | apply ChkF.go | apply ChkB.go | apply XArr.pim0 | apply XArr.pim1); conv => whnf) | (with_reducible apply XBr.not) | ((with_reducible apply XBr.dec) <;> (intro h; first | (exfalso; omega) | ((try simp only [List.length_map] at h); first | (exfalso; omega) | (conv => whnf)))) | ((with_reducible first | apply XBr.beq | apply XBr.bne) <;> (intro h; first | (exfalso; omega) | (conv => whnf))) | ((with_reducible refine XInt.i64 (by omega) (by omega) ?_); conv => whnf) | ((with_reducible refine XHold.mk ?_ ?_); (first | omega | rfl | decide | exact ⟨rfl, by decide, rfl⟩ | exact wideI _ | exact widePr _ | exact wideSk _ | (unfold Room; constructor <;> ((try simp) <;> omega)) | exact ⟨rfl, by simp only [List.length_map], by unfold Room; constructor <;> ((try simp) <;> omega)⟩ | exact ⟨by omega, by omega, by unfold Room; constructor <;> ((try simp) <;> omega)⟩); conv => whnf) | ((first | ((with_reducible refine XIx.nat ?_ ?_ ?_); omega; (intro _; rfl)) | ((with_reducible refine XIx.map ?_ ?_ ?_ ?_); omega; omega; (intro _; rfl))); conv => whnf) | (with_reducible apply XAnd.mk) | (exact XSame.mk rfl rfl) | (exact XSame.mk (by first | rfl | (simp only [List.map_append, List.length_append, List.length_map]; done) | (simp only [List.map_append, List.length_append, List.length_map]; rfl)) (by first | rfl | (simp only [List.map_append]; done) | (simp only [List.map_append]; rfl))) | (with_reducible exact trivial) | ((first | (with_reducible refine xdrop_app (by rw [List.length_map]; omega) ?_) | (with_reducible refine XDrop.desk (by assumption) ?_) | (with_reducible first | refine XArr.ints (by omega) (by omega) (by omega) ?_ | refine XArr.intsA (by omega) (by omega) (by omega) ?_) | ((with_reducible first | refine XArr.nats ?_ ?_ ?_ | refine XArr.natsA ?_ ?_ ?_ | refine XArr.ptr ?_ ?_ ?_); omega; omega) | (with_reducible apply XNext.mk)); conv => whnf) | ((with_reducible apply XBr.mk') <;> (intro h; conv => whnf))
    refine hpush_to (k + 3) H1 (by omega) (by rw [hH0, hH1, hb0]; rfl) ?_
    conv => whnf
    repeat' first | ((with_reducible first | apply XBr.tt | apply XBr.ff | apply Chk.go | apply ChkA.go | apply ChkF.go | apply ChkB.go | apply XArr.pim0 | apply XArr.pim1); conv => whnf) | (with_reducible apply XBr.not) | ((with_reducible apply XBr.dec) <;> (intro h; first | (exfalso; omega) | ((try simp only [List.length_map] at h); first | (exfalso; omega) | (conv => whnf)))) | ((with_reducible first | apply XBr.beq | apply XBr.bne) <;> (intro h; first | (exfalso; omega) | (conv => whnf))) | ((with_reducible refine XInt.i64 (by omega) (by omega) ?_); conv => whnf) | ((with_reducible refine XHold.mk ?_ ?_); (first | omega | rfl | decide | exact ⟨rfl, by decide, rfl⟩ | exact wideI _ | exact widePr _ | exact wideSk _ | (unfold Room; constructor <;> ((try simp) <;> omega)) | exact ⟨rfl, by simp only [List.length_map], by unfold Room; constructor <;> ((try simp) <;> omega)⟩ | exact ⟨by omega, by omega, by unfold Room; constructor <;> ((try simp) <;> omega)⟩); conv => whnf) | ((first | ((with_reducible refine XIx.nat ?_ ?_ ?_); omega; (intro _; rfl)) | ((with_reducible refine XIx.map ?_ ?_ ?_ ?_); omega; omega; (intro _; rfl))); conv => whnf) | (with_reducible apply XAnd.mk) | (exact XSame.mk rfl rfl) | (exact XSame.mk (by first | rfl | (simp only [List.map_append, List.length_append, List.length_map]; done) | (simp only [List.map_append, List.length_append, List.length_map]; rfl)) (by first | rfl | (simp only [List.map_append]; done) | (simp only [List.map_append]; rfl))) | (with_reducible exact trivial) | ((first | (with_reducible refine xdrop_app (by rw [List.length_map]; omega) ?_) | (with_reducible refine XDrop.desk (by assumption) ?_) | (with_reducible first | refine XArr.ints (by omega) (by omega) (by omega) ?_ | refine XArr.intsA (by omega) (by omega) (by omega) ?_) | ((with_reducible first | refine XArr.nats ?_ ?_ ?_ | refine XArr.natsA ?_ ?_ ?_ | refine XArr.ptr ?_ ?_ ?_); omega; omega) | (with_reducible apply XNext.mk)); conv => whnf) | (rw [h12]; conv => whnf) | ((first | (refine XHold.mk ⟨hel, rfl, by omega, by omega⟩ ?_) | (refine XPut.to (els.set k v) hel.symm hlt (by rw [hv]; rfl) ?_)); conv => whnf) | ((with_reducible apply XBr.mk') <;> (intro h; conv => whnf))
    refine hset_to H2 (by omega) h1s ?_
    conv => whnf
    repeat' first | ((with_reducible first | apply XBr.tt | apply XBr.ff | apply Chk.go | apply ChkA.go | apply ChkF.go | apply ChkB.go | apply XArr.pim0 | apply XArr.pim1); conv => whnf) | (with_reducible apply XBr.not) | ((with_reducible apply XBr.dec) <;> (intro h; first | (exfalso; omega) | ((try simp only [List.length_map] at h); first | (exfalso; omega) | (conv => whnf)))) | ((with_reducible first | apply XBr.beq | apply XBr.bne) <;> (intro h; first | (exfalso; omega) | (conv => whnf))) | ((with_reducible refine XInt.i64 (by omega) (by omega) ?_); conv => whnf) | ((with_reducible refine XHold.mk ?_ ?_); (first | omega | rfl | decide | exact ⟨rfl, by decide, rfl⟩ | exact wideI _ | exact widePr _ | exact wideSk _ | (unfold Room; constructor <;> ((try simp) <;> omega)) | exact ⟨rfl, by simp only [List.length_map], by unfold Room; constructor <;> ((try simp) <;> omega)⟩ | exact ⟨by omega, by omega, by unfold Room; constructor <;> ((try simp) <;> omega)⟩); conv => whnf) | ((first | ((with_reducible refine XIx.nat ?_ ?_ ?_); omega; (intro _; rfl)) | ((with_reducible refine XIx.map ?_ ?_ ?_ ?_); omega; omega; (intro _; rfl))); conv => whnf) | (with_reducible apply XAnd.mk) | (exact XSame.mk rfl rfl) | (exact XSame.mk (by first | rfl | (simp only [List.map_append, List.length_append, List.length_map]; done) | (simp only [List.map_append, List.length_append, List.length_map]; rfl)) (by first | rfl | (simp only [List.map_append]; done) | (simp only [List.map_append]; rfl))) | (with_reducible exact trivial) | ((first | (with_reducible refine xdrop_app (by rw [List.length_map]; omega) ?_) | (with_reducible refine XDrop.desk (by assumption) ?_) | (with_reducible first | refine XArr.ints (by omega) (by omega) (by omega) ?_ | refine XArr.intsA (by omega) (by omega) (by omega) ?_) | ((with_reducible first | refine XArr.nats ?_ ?_ ?_ | refine XArr.natsA ?_ ?_ ?_ | refine XArr.ptr ?_ ?_ ?_); omega; omega) | (with_reducible apply XNext.mk)); conv => whnf) | (rw [h22]; conv => whnf) | ((first | (refine XHold.mk ⟨hsl, rfl, by omega, by omega⟩ ?_) | ((refine XGet.set rfl hes hel.symm ?_); rw [hv])); conv => whnf) | (rw [h2k]; conv => whnf) | ((refine XHold.mk ⟨rfl, List.length_replicate⟩ ?_); conv => whnf) | ((with_reducible apply XBr.mk') <;> (intro h; conv => whnf))
    refine XPutEls.mk' (ints (s.looks.getD k default).2) ?_ ?_
    · rw [hN, List.take_of_length_le (by rw [ints_len]; omega)]
      unfold splice
      rw [List.take_zero, List.nil_append, List.drop_eq_nil_of_le (by rw [List.length_replicate, ints_len]; omega), List.append_nil]
    refine hset_to H3 (by omega) h2s ?_
    conv => whnf
    repeat' first | ((with_reducible first | apply XBr.tt | apply XBr.ff | apply Chk.go | apply ChkA.go | apply ChkF.go | apply ChkB.go | apply XArr.pim0 | apply XArr.pim1); conv => whnf) | (with_reducible apply XBr.not) | ((with_reducible apply XBr.dec) <;> (intro h; first | (exfalso; omega) | ((try simp only [List.length_map] at h); first | (exfalso; omega) | (conv => whnf)))) | ((with_reducible first | apply XBr.beq | apply XBr.bne) <;> (intro h; first | (exfalso; omega) | (conv => whnf))) | ((with_reducible refine XInt.i64 (by omega) (by omega) ?_); conv => whnf) | ((with_reducible refine XHold.mk ?_ ?_); (first | omega | rfl | decide | exact ⟨rfl, by decide, rfl⟩ | exact wideI _ | exact widePr _ | exact wideSk _ | (unfold Room; constructor <;> ((try simp) <;> omega)) | exact ⟨rfl, by simp only [List.length_map], by unfold Room; constructor <;> ((try simp) <;> omega)⟩ | exact ⟨by omega, by omega, by unfold Room; constructor <;> ((try simp) <;> omega)⟩); conv => whnf) | ((first | ((with_reducible refine XIx.nat ?_ ?_ ?_); omega; (intro _; rfl)) | ((with_reducible refine XIx.map ?_ ?_ ?_ ?_); omega; omega; (intro _; rfl))); conv => whnf) | (with_reducible apply XAnd.mk) | (exact XSame.mk rfl rfl) | (exact XSame.mk (by first | rfl | (simp only [List.map_append, List.length_append, List.length_map]; done) | (simp only [List.map_append, List.length_append, List.length_map]; rfl)) (by first | rfl | (simp only [List.map_append]; done) | (simp only [List.map_append]; rfl))) | (with_reducible exact trivial) | ((first | (with_reducible refine xdrop_app (by rw [List.length_map]; omega) ?_) | (with_reducible refine XDrop.desk (by assumption) ?_) | (with_reducible first | refine XArr.ints (by omega) (by omega) (by omega) ?_ | refine XArr.intsA (by omega) (by omega) (by omega) ?_) | ((with_reducible first | refine XArr.nats ?_ ?_ ?_ | refine XArr.natsA ?_ ?_ ?_ | refine XArr.ptr ?_ ?_ ?_); omega; omega) | (with_reducible apply XNext.mk)); conv => whnf) | (rw [h32]; conv => whnf) | ((first | (refine XHold.mk ⟨hsl, rfl, by omega, by omega⟩ ?_) | ((refine XGet.set rfl hes hel.symm ?_); rw [hv])); conv => whnf) | (rw [h3k]; conv => whnf) | ((first | (refine XHold.mk ⟨hNl.symm, rfl, by omega, by omega⟩ ?_) | (refine XPut.to (ints ((s.looks.getD k default).2.set p (k : Int))) hNl (by omega) hps ?_)); conv => whnf) | ((with_reducible apply XBr.mk') <;> (intro h; conv => whnf))
    refine hset_to H4 (by omega) h3s ?_
    conv => whnf
    repeat' first | ((with_reducible first | apply XBr.tt | apply XBr.ff | apply Chk.go | apply ChkA.go | apply ChkF.go | apply ChkB.go | apply XArr.pim0 | apply XArr.pim1); conv => whnf) | (with_reducible apply XBr.not) | ((with_reducible apply XBr.dec) <;> (intro h; first | (exfalso; omega) | ((try simp only [List.length_map] at h); first | (exfalso; omega) | (conv => whnf)))) | ((with_reducible first | apply XBr.beq | apply XBr.bne) <;> (intro h; first | (exfalso; omega) | (conv => whnf))) | ((with_reducible refine XInt.i64 (by omega) (by omega) ?_); conv => whnf) | ((with_reducible refine XHold.mk ?_ ?_); (first | omega | rfl | decide | exact ⟨rfl, by decide, rfl⟩ | exact wideI _ | exact widePr _ | exact wideSk _ | (unfold Room; constructor <;> ((try simp) <;> omega)) | exact ⟨rfl, by simp only [List.length_map], by unfold Room; constructor <;> ((try simp) <;> omega)⟩ | exact ⟨by omega, by omega, by unfold Room; constructor <;> ((try simp) <;> omega)⟩); conv => whnf) | ((first | ((with_reducible refine XIx.nat ?_ ?_ ?_); omega; (intro _; rfl)) | ((with_reducible refine XIx.map ?_ ?_ ?_ ?_); omega; omega; (intro _; rfl))); conv => whnf) | (with_reducible apply XAnd.mk) | (exact XSame.mk rfl rfl) | (exact XSame.mk (by first | rfl | (simp only [List.map_append, List.length_append, List.length_map]; done) | (simp only [List.map_append, List.length_append, List.length_map]; rfl)) (by first | rfl | (simp only [List.map_append]; done) | (simp only [List.map_append]; rfl))) | (with_reducible exact trivial) | ((first | (with_reducible refine xdrop_app (by rw [List.length_map]; omega) ?_) | (with_reducible refine XDrop.desk (by assumption) ?_) | (with_reducible first | refine XArr.ints (by omega) (by omega) (by omega) ?_ | refine XArr.intsA (by omega) (by omega) (by omega) ?_) | ((with_reducible first | refine XArr.nats ?_ ?_ ?_ | refine XArr.natsA ?_ ?_ ?_ | refine XArr.ptr ?_ ?_ ?_); omega; omega) | (with_reducible apply XNext.mk)); conv => whnf) | ((with_reducible apply XBr.mk') <;> (intro h; conv => whnf))
    refine XAgain.go (k + 1) (by omega) (by omega) ?_ ⟨rfl, rfl, rfl, rfl, rfl, rfl, rfl, trivial⟩
    rw [← hse v hlt hvP, ← hRn]; exact hH4.symm
  obtain rfl : k = s.looks.length := by omega
  have hRe := hRe rfl
  obtain ⟨C, hC⟩ : ∃ C : List AV, C = [.int .i64 s.places, .int .i64 s.home, .int .i64 s.bed, .int .i64 s.last, .sl s.nw (s.ways.map wyA), .gr 2 s.looks.length, .sl s.nt (s.truths.map trA)] := ⟨_, rfl⟩
  obtain ⟨H5, hH5⟩ : ∃ H5, H5 = .cells C :: B :: Blk.grow 32 false els :: R := ⟨_, rfl⟩
  obtain ⟨H6, hH6⟩ : ∃ H6, H6 = .cells C :: .cells C :: Blk.grow 32 false els :: R := ⟨_, rfl⟩
  have h5s : H0.set 0 (.cells C) = H5 := by rw [hH0, hH5]; rfl
  have h50 : lget H5 0 = some (.cells C) := by rw [hH5]; rfl
  have h51 : lget H5 1 = some (.cells [.int .i64 0, .int .i64 0, .int .i64 0, .int .i64 0, .sl true [], .sl true [], .sl true []]) := by rw [hH5, hB]; rfl
  have h6s : H5.set 1 (.cells C) = H6 := by rw [hH5, hH6]; rfl
  have h61 : lget H6 1 = some (.cells C) := by rw [hH6]; rfl
  have hl5 : H5.length = s.looks.length + 3 := by rw [hH5]; simp only [List.length_cons, hRl]
  rw [hC] at h5s h50 h6s h61
  repeat' first | ((with_reducible first | apply XBr.tt | apply XBr.ff | apply Chk.go | apply ChkA.go | apply ChkF.go | apply ChkB.go | apply XArr.pim0 | apply XArr.pim1); conv => whnf) | (with_reducible apply XBr.not) | ((with_reducible apply XBr.dec) <;> (intro h; first | (exfalso; omega) | ((try simp only [List.length_map] at h); first | (exfalso; omega) | (conv => whnf)))) | ((with_reducible first | apply XBr.beq | apply XBr.bne) <;> (intro h; first | (exfalso; omega) | (conv => whnf))) | ((with_reducible refine XInt.i64 (by omega) (by omega) ?_); conv => whnf) | ((with_reducible refine XHold.mk ?_ ?_); (first | omega | rfl | decide | exact ⟨rfl, by decide, rfl⟩ | exact wideI _ | exact widePr _ | exact wideSk _ | (unfold Room; constructor <;> ((try simp) <;> omega)) | exact ⟨rfl, by simp only [List.length_map], by unfold Room; constructor <;> ((try simp) <;> omega)⟩ | exact ⟨by omega, by omega, by unfold Room; constructor <;> ((try simp) <;> omega)⟩); conv => whnf) | ((first | ((with_reducible refine XIx.nat ?_ ?_ ?_); omega; (intro _; rfl)) | ((with_reducible refine XIx.map ?_ ?_ ?_ ?_); omega; omega; (intro _; rfl))); conv => whnf) | (with_reducible apply XAnd.mk) | (exact XSame.mk rfl rfl) | (exact XSame.mk (by first | rfl | (simp only [List.map_append, List.length_append, List.length_map]; done) | (simp only [List.map_append, List.length_append, List.length_map]; rfl)) (by first | rfl | (simp only [List.map_append]; done) | (simp only [List.map_append]; rfl))) | (with_reducible exact trivial) | ((first | (with_reducible refine xdrop_app (by rw [List.length_map]; omega) ?_) | (with_reducible refine XDrop.desk (by assumption) ?_) | (with_reducible first | refine XArr.ints (by omega) (by omega) (by omega) ?_ | refine XArr.intsA (by omega) (by omega) (by omega) ?_) | ((with_reducible first | refine XArr.nats ?_ ?_ ?_ | refine XArr.natsA ?_ ?_ ?_ | refine XArr.ptr ?_ ?_ ?_); omega; omega) | (with_reducible apply XNext.mk)); conv => whnf) | (rw [h00]; conv => whnf) | ((refine hset_to H5 (by omega) h5s ?_); conv => whnf) | (rw [h50]; conv => whnf) | (rw [h51]; conv => whnf) | ((refine hset_to H6 (by omega) h6s ?_); conv => whnf) | (rw [h61]; conv => whnf) | ((with_reducible apply XBr.mk') <;> (intro h; conv => whnf))
  refine ⟨Froz.agg (rs := [.int .i64 s.places, .int .i64 s.home, .int .i64 s.bed, .int .i64 s.last, .sl s.nw (s.ways.map wyA), .gr 2 s.looks.length, .sl s.nt (s.truths.map trA)]) (snOne (tolS s p)) (.cons (.low rfl) (.cons (.low rfl) (.cons (.low rfl) (.cons (.low rfl) (.cons (.low (lowWy _)) (.cons (by rw [hH6]; exact hRe _ _) (.cons (.low (lowTr _)) .nil)))))))⟩
end GA
end

section
namespace GA
open Go Go.RowKit Go.Proofs
set_option pp.deepTerms true
set_option maxRecDepth 8000
set_option linter.unusedVariables false
set_option linter.unusedSimpArgs false

theorem tol_B {s : Sn} (hb : SnB s) (p : Nat) : SnB (tolS s p) := by
  refine { hb with k := ?_, kl := ?_ }
  · show (vecF _ _).length ≤ 1000
    rw [vecF_len]; exact hb.k
  · intro l hl
    obtain ⟨i, hi, rfl⟩ := vecF_mem.1 (show l ∈ vecF s.looks.length _ from hl)
    show ((s.looks.getD i default).2.set p (i : Int)).length ≤ _
    rw [List.length_set]; exact hb.kl _ (getD_mem hi)
theorem fTold_ok (s : Sn) (hb : SnB s) (ok : SnOk s) (m : Nat) (hm : (m : Int) ≤ s.last) : Comp Try.prog 43 [snA s, natA m] (.tup [.int .i64 (startZ (tolS s s.home.toNat) m), .int .i64 0]) := by
  have h1 := ok.h1
  have hc := begun_ok s hb m (begE_iff.2 ⟨ok, by omega, hm⟩)
  have ht := told_c s hb ok s.home.toNat (by omega)
  have hs := fStart_ok (tolS s s.home.toNat) (tol_B hb _) (tol_ok ok (by omega)) m hm
  have ht' : Comp Try.prog 112 [snA s, .int .i64 s.home] (snA (tolS s s.home.toNat)) := by
    have e : natA s.home.toNat = .int .i64 s.home := by unfold natA; rw [Int.toNat_of_nonneg h1.1]
    rw [e] at ht; exact ht
  generalize startZ (tolS s s.home.toNat) m = z at hs
  generalize tolS s s.home.toNat = u at hs ht'
  refine Comp.body (T := tab) (res := [.tmp 4, .tmp 5]) tab_ok [] Try.func43 rfl (by kernel_rfl) Try.ntmps43 rfl (by simp only [List.length_cons, List.length_nil]; decide) (by simp only [lowL, AV.low, snL]; rfl) ?_; conv => whnf
  repeat' first | ((with_reducible first | apply XBr.tt | apply XBr.ff | apply Chk.go | apply ChkA.go | apply ChkF.go | apply ChkB.go | apply XArr.pim0 | apply XArr.pim1); conv => whnf) | (with_reducible apply XBr.not) | ((with_reducible apply XBr.dec) <;> (intro h; first | (exfalso; omega) | ((try simp only [List.length_map] at h); first | (exfalso; omega) | (conv => whnf)))) | ((with_reducible first | apply XBr.beq | apply XBr.bne) <;> (intro h; first | (exfalso; omega) | (conv => whnf))) | ((with_reducible refine XInt.i64 (by omega) (by omega) ?_); conv => whnf) | ((with_reducible refine XHold.mk ?_ ?_); (first | omega | rfl | decide | exact ⟨rfl, by decide, rfl⟩ | exact wideI _ | exact widePr _ | exact wideSk _ | (unfold Room; constructor <;> ((try simp) <;> omega)) | exact ⟨rfl, by simp only [List.length_map], by unfold Room; constructor <;> ((try simp) <;> omega)⟩ | exact ⟨by omega, by omega, by unfold Room; constructor <;> ((try simp) <;> omega)⟩); conv => whnf) | ((first | ((with_reducible refine XIx.nat ?_ ?_ ?_); omega; (intro _; rfl)) | ((with_reducible refine XIx.map ?_ ?_ ?_ ?_); omega; omega; (intro _; rfl))); conv => whnf) | (with_reducible apply XAnd.mk) | (exact XSame.mk rfl rfl) | (exact XSame.mk (by first | rfl | (simp only [List.map_append, List.length_append, List.length_map]; done) | (simp only [List.map_append, List.length_append, List.length_map]; rfl)) (by first | rfl | (simp only [List.map_append]; done) | (simp only [List.map_append]; rfl))) | (with_reducible exact trivial) | ((first | (with_reducible refine xdrop_app (by rw [List.length_map]; omega) ?_) | (with_reducible refine XDrop.desk (by assumption) ?_) | (with_reducible first | refine XArr.ints (by omega) (by omega) (by omega) ?_ | refine XArr.intsA (by omega) (by omega) (by omega) ?_) | ((with_reducible first | refine XArr.nats ?_ ?_ ?_ | refine XArr.natsA ?_ ?_ ?_ | refine XArr.ptr ?_ ?_ ?_); omega; omega) | (with_reducible apply XNext.mk) | (refine XCall.ret hc ?_) | (refine XCall.ret ht' ?_) | (refine XCall.ret hs ?_)); conv => whnf) | ((with_reducible apply XBr.mk') <;> (intro h; conv => whnf))
  exact ⟨.low rfl⟩
def spyK (s : Sn) (m : Nat) : Nat → Int × Int
  | 0 => (-1, -1)
  | k + 1 => if (k : Int) = s.home then spyK s m k else if (spyK s m k).1 = -1 ∨ (spyK s m k).2 < startZ (tolS s k) m then ((k : Int), startZ (tolS s k) m) else spyK s m k
def spyE (s : Sn) (m : Nat) : Int × Int := spyK s m s.places.toNat
theorem fSpy_ok (s : Sn) (hb : SnB s) (ok : SnOk s) (m : Nat) (hm : (m : Int) ≤ s.last) : Comp Try.prog 44 [snA s, natA m] (.tup [.int .i64 (spyE s m).1, .int .i64 (spyE s m).2, .int .i64 0]) := by
  have p2 := ok.p2
  obtain ⟨P0, hP0⟩ : ∃ P0 : Nat, s.places = P0 := ⟨s.places.toNat, by have := ok.p1; omega⟩
  have hc := begun_ok s hb m (begE_iff.2 ⟨ok, by omega, hm⟩)
  have hE : spyE s m = spyK s m P0 := by unfold spyE; rw [hP0]; rfl
  rw [hE]
  refine Comp.body (T := tab) (res := [.tmp 4, .tmp 5, .tmp 6]) tab_ok [] Try.func44 rfl (by kernel_rfl) Try.ntmps44 rfl (by simp only [List.length_cons, List.length_nil]; decide) (by simp only [lowL, AV.low, snL]; rfl) ?_; conv => whnf
  repeat' first | ((with_reducible first | apply XBr.tt | apply XBr.ff | apply Chk.go | apply ChkA.go | apply ChkF.go | apply ChkB.go | apply XArr.pim0 | apply XArr.pim1); conv => whnf) | (with_reducible apply XBr.not) | ((with_reducible apply XBr.dec) <;> (intro h; first | (exfalso; omega) | ((try simp only [List.length_map] at h); first | (exfalso; omega) | (conv => whnf)))) | ((with_reducible first | apply XBr.beq | apply XBr.bne) <;> (intro h; first | (exfalso; omega) | (conv => whnf))) | ((with_reducible refine XInt.i64 (by omega) (by omega) ?_); conv => whnf) | ((with_reducible refine XHold.mk ?_ ?_); (first | omega | rfl | decide | exact ⟨rfl, by decide, rfl⟩ | exact wideI _ | exact widePr _ | exact wideSk _ | (unfold Room; constructor <;> ((try simp) <;> omega)) | exact ⟨rfl, by simp only [List.length_map], by unfold Room; constructor <;> ((try simp) <;> omega)⟩ | exact ⟨by omega, by omega, by unfold Room; constructor <;> ((try simp) <;> omega)⟩); conv => whnf) | ((first | ((with_reducible refine XIx.nat ?_ ?_ ?_); omega; (intro _; rfl)) | ((with_reducible refine XIx.map ?_ ?_ ?_ ?_); omega; omega; (intro _; rfl))); conv => whnf) | (with_reducible apply XAnd.mk) | (exact XSame.mk rfl rfl) | (exact XSame.mk (by first | rfl | (simp only [List.map_append, List.length_append, List.length_map]; done) | (simp only [List.map_append, List.length_append, List.length_map]; rfl)) (by first | rfl | (simp only [List.map_append]; done) | (simp only [List.map_append]; rfl))) | (with_reducible exact trivial) | ((first | (with_reducible refine xdrop_app (by rw [List.length_map]; omega) ?_) | (with_reducible refine XDrop.desk (by assumption) ?_) | (with_reducible first | refine XArr.ints (by omega) (by omega) (by omega) ?_ | refine XArr.intsA (by omega) (by omega) (by omega) ?_) | ((with_reducible first | refine XArr.nats ?_ ?_ ?_ | refine XArr.natsA ?_ ?_ ?_ | refine XArr.ptr ?_ ?_ ?_); omega; omega) | (with_reducible apply XNext.mk) | (refine XCall.ret hc ?_)); conv => whnf) | ((with_reducible apply XBr.mk') <;> (intro h; conv => whnf))
  refine Walk.loopK tab_ok [] [(1, _), (2, _), (6, _), (22, _)] ⟨rfl, rfl, rfl, rfl, trivial⟩ (fun k : Nat => k ≤ P0) (fun k => [(4, .int .i64 (spyK s m k).1), (5, .int .i64 (spyK s m k).2), (23, natA k)]) (fun _ => []) (fun k => P0 - k) 0 (Nat.zero_le _) rfl ⟨rfl, rfl, rfl, trivial⟩ ?_
  intro k hk
  have hnx : spyK s m (k + 1) = if (k : Int) = s.home then spyK s m k else if (spyK s m k).1 = -1 ∨ (spyK s m k).2 < startZ (tolS s k) m then ((k : Int), startZ (tolS s k) m) else spyK s m k := rfl
  have hend : k = P0 → spyK s m P0 = spyK s m k := fun h => by rw [h]
  generalize spyK s m k = b at hnx hend
  obtain ⟨a, v⟩ := b
  dsimp only at hnx ⊢
  conv => whnf
  by_cases hlt : k < P0
  · by_cases hh : (k : Int) = s.home
    · rw [if_pos hh] at hnx
      repeat' first | ((with_reducible first | apply XBr.tt | apply XBr.ff | apply Chk.go | apply ChkA.go | apply ChkF.go | apply ChkB.go | apply XArr.pim0 | apply XArr.pim1); conv => whnf) | (with_reducible apply XBr.not) | ((with_reducible apply XBr.dec) <;> (intro h; first | (exfalso; omega) | ((try simp only [List.length_map] at h); first | (exfalso; omega) | (conv => whnf)))) | ((with_reducible first | apply XBr.beq | apply XBr.bne) <;> (intro h; first | (exfalso; omega) | (conv => whnf))) | ((with_reducible refine XInt.i64 (by omega) (by omega) ?_); conv => whnf) | ((with_reducible refine XHold.mk ?_ ?_); (first | omega | rfl | decide | exact ⟨rfl, by decide, rfl⟩ | exact wideI _ | exact widePr _ | exact wideSk _ | (unfold Room; constructor <;> ((try simp) <;> omega)) | exact ⟨rfl, by simp only [List.length_map], by unfold Room; constructor <;> ((try simp) <;> omega)⟩ | exact ⟨by omega, by omega, by unfold Room; constructor <;> ((try simp) <;> omega)⟩); conv => whnf) | ((first | ((with_reducible refine XIx.nat ?_ ?_ ?_); omega; (intro _; rfl)) | ((with_reducible refine XIx.map ?_ ?_ ?_ ?_); omega; omega; (intro _; rfl))); conv => whnf) | (with_reducible apply XAnd.mk) | (exact XSame.mk rfl rfl) | (exact XSame.mk (by first | rfl | (simp only [List.map_append, List.length_append, List.length_map]; done) | (simp only [List.map_append, List.length_append, List.length_map]; rfl)) (by first | rfl | (simp only [List.map_append]; done) | (simp only [List.map_append]; rfl))) | (with_reducible exact trivial) | ((first | (with_reducible refine xdrop_app (by rw [List.length_map]; omega) ?_) | (with_reducible refine XDrop.desk (by assumption) ?_) | (with_reducible first | refine XArr.ints (by omega) (by omega) (by omega) ?_ | refine XArr.intsA (by omega) (by omega) (by omega) ?_) | ((with_reducible first | refine XArr.nats ?_ ?_ ?_ | refine XArr.natsA ?_ ?_ ?_ | refine XArr.ptr ?_ ?_ ?_); omega; omega) | (with_reducible apply XNext.mk)); conv => whnf) | ((with_reducible apply XBr.mk') <;> (intro h; conv => whnf))
      exact XAgain.go (k + 1) (by omega) (by omega) rfl ⟨rfl, rfl, rfl, rfl, (by rw [hnx]; rfl), (by rw [hnx]; rfl), rfl, trivial⟩
    rw [if_neg hh] at hnx
    have ht := told_c s hb ok k (by omega)
    have hs := fStart_ok (tolS s k) (tol_B hb _) (tol_ok ok (by omega)) m hm
    generalize startZ (tolS s k) m = z at hs hnx
    generalize tolS s k = u at hs ht
    by_cases hz : a = -1 ∨ v < z
    · rw [if_pos hz] at hnx
      repeat' first | ((with_reducible first | apply XBr.tt | apply XBr.ff | apply Chk.go | apply ChkA.go | apply ChkF.go | apply ChkB.go | apply XArr.pim0 | apply XArr.pim1); conv => whnf) | (with_reducible apply XBr.not) | ((with_reducible apply XBr.dec) <;> (intro h; first | (exfalso; omega) | ((try simp only [List.length_map] at h); first | (exfalso; omega) | (conv => whnf)))) | ((with_reducible first | apply XBr.beq | apply XBr.bne) <;> (intro h; first | (exfalso; omega) | (conv => whnf))) | ((with_reducible refine XInt.i64 (by omega) (by omega) ?_); conv => whnf) | ((with_reducible refine XHold.mk ?_ ?_); (first | omega | rfl | decide | exact ⟨rfl, by decide, rfl⟩ | exact wideI _ | exact widePr _ | exact wideSk _ | (unfold Room; constructor <;> ((try simp) <;> omega)) | exact ⟨rfl, by simp only [List.length_map], by unfold Room; constructor <;> ((try simp) <;> omega)⟩ | exact ⟨by omega, by omega, by unfold Room; constructor <;> ((try simp) <;> omega)⟩); conv => whnf) | ((first | ((with_reducible refine XIx.nat ?_ ?_ ?_); omega; (intro _; rfl)) | ((with_reducible refine XIx.map ?_ ?_ ?_ ?_); omega; omega; (intro _; rfl))); conv => whnf) | (with_reducible apply XAnd.mk) | (exact XSame.mk rfl rfl) | (exact XSame.mk (by first | rfl | (simp only [List.map_append, List.length_append, List.length_map]; done) | (simp only [List.map_append, List.length_append, List.length_map]; rfl)) (by first | rfl | (simp only [List.map_append]; done) | (simp only [List.map_append]; rfl))) | (with_reducible exact trivial) | ((first | (with_reducible refine xdrop_app (by rw [List.length_map]; omega) ?_) | (with_reducible refine XDrop.desk (by assumption) ?_) | (with_reducible first | refine XArr.ints (by omega) (by omega) (by omega) ?_ | refine XArr.intsA (by omega) (by omega) (by omega) ?_) | ((with_reducible first | refine XArr.nats ?_ ?_ ?_ | refine XArr.natsA ?_ ?_ ?_ | refine XArr.ptr ?_ ?_ ?_); omega; omega) | (with_reducible apply XNext.mk) | (refine XCall.ret ht ?_) | (refine XCall.ret hs ?_)); conv => whnf) | ((with_reducible apply XBr.mk') <;> (intro h; conv => whnf))
      all_goals exact XAgain.go (k + 1) (by omega) (by omega) rfl ⟨rfl, rfl, rfl, rfl, (by rw [hnx]; rfl), (by rw [hnx]; rfl), rfl, trivial⟩
    · rw [if_neg hz] at hnx
      repeat' first | ((with_reducible first | apply XBr.tt | apply XBr.ff | apply Chk.go | apply ChkA.go | apply ChkF.go | apply ChkB.go | apply XArr.pim0 | apply XArr.pim1); conv => whnf) | (with_reducible apply XBr.not) | ((with_reducible apply XBr.dec) <;> (intro h; first | (exfalso; omega) | ((try simp only [List.length_map] at h); first | (exfalso; omega) | (conv => whnf)))) | ((with_reducible first | apply XBr.beq | apply XBr.bne) <;> (intro h; first | (exfalso; omega) | (conv => whnf))) | ((with_reducible refine XInt.i64 (by omega) (by omega) ?_); conv => whnf) | ((with_reducible refine XHold.mk ?_ ?_); (first | omega | rfl | decide | exact ⟨rfl, by decide, rfl⟩ | exact wideI _ | exact widePr _ | exact wideSk _ | (unfold Room; constructor <;> ((try simp) <;> omega)) | exact ⟨rfl, by simp only [List.length_map], by unfold Room; constructor <;> ((try simp) <;> omega)⟩ | exact ⟨by omega, by omega, by unfold Room; constructor <;> ((try simp) <;> omega)⟩); conv => whnf) | ((first | ((with_reducible refine XIx.nat ?_ ?_ ?_); omega; (intro _; rfl)) | ((with_reducible refine XIx.map ?_ ?_ ?_ ?_); omega; omega; (intro _; rfl))); conv => whnf) | (with_reducible apply XAnd.mk) | (exact XSame.mk rfl rfl) | (exact XSame.mk (by first | rfl | (simp only [List.map_append, List.length_append, List.length_map]; done) | (simp only [List.map_append, List.length_append, List.length_map]; rfl)) (by first | rfl | (simp only [List.map_append]; done) | (simp only [List.map_append]; rfl))) | (with_reducible exact trivial) | ((first | (with_reducible refine xdrop_app (by rw [List.length_map]; omega) ?_) | (with_reducible refine XDrop.desk (by assumption) ?_) | (with_reducible first | refine XArr.ints (by omega) (by omega) (by omega) ?_ | refine XArr.intsA (by omega) (by omega) (by omega) ?_) | ((with_reducible first | refine XArr.nats ?_ ?_ ?_ | refine XArr.natsA ?_ ?_ ?_ | refine XArr.ptr ?_ ?_ ?_); omega; omega) | (with_reducible apply XNext.mk) | (refine XCall.ret ht ?_) | (refine XCall.ret hs ?_)); conv => whnf) | ((with_reducible apply XBr.mk') <;> (intro h; conv => whnf))
      all_goals exact XAgain.go (k + 1) (by omega) (by omega) rfl ⟨rfl, rfl, rfl, rfl, (by rw [hnx]; rfl), (by rw [hnx]; rfl), rfl, trivial⟩
  rw [hend (by omega)]
  repeat' first | ((with_reducible first | apply XBr.tt | apply XBr.ff | apply Chk.go | apply ChkA.go | apply ChkF.go | apply ChkB.go | apply XArr.pim0 | apply XArr.pim1); conv => whnf) | (with_reducible apply XBr.not) | ((with_reducible apply XBr.dec) <;> (intro h; first | (exfalso; omega) | ((try simp only [List.length_map] at h); first | (exfalso; omega) | (conv => whnf)))) | ((with_reducible first | apply XBr.beq | apply XBr.bne) <;> (intro h; first | (exfalso; omega) | (conv => whnf))) | ((with_reducible refine XInt.i64 (by omega) (by omega) ?_); conv => whnf) | ((with_reducible refine XHold.mk ?_ ?_); (first | omega | rfl | decide | exact ⟨rfl, by decide, rfl⟩ | exact wideI _ | exact widePr _ | exact wideSk _ | (unfold Room; constructor <;> ((try simp) <;> omega)) | exact ⟨rfl, by simp only [List.length_map], by unfold Room; constructor <;> ((try simp) <;> omega)⟩ | exact ⟨by omega, by omega, by unfold Room; constructor <;> ((try simp) <;> omega)⟩); conv => whnf) | ((first | ((with_reducible refine XIx.nat ?_ ?_ ?_); omega; (intro _; rfl)) | ((with_reducible refine XIx.map ?_ ?_ ?_ ?_); omega; omega; (intro _; rfl))); conv => whnf) | (with_reducible apply XAnd.mk) | (exact XSame.mk rfl rfl) | (exact XSame.mk (by first | rfl | (simp only [List.map_append, List.length_append, List.length_map]; done) | (simp only [List.map_append, List.length_append, List.length_map]; rfl)) (by first | rfl | (simp only [List.map_append]; done) | (simp only [List.map_append]; rfl))) | (with_reducible exact trivial) | ((first | (with_reducible refine xdrop_app (by rw [List.length_map]; omega) ?_) | (with_reducible refine XDrop.desk (by assumption) ?_) | (with_reducible first | refine XArr.ints (by omega) (by omega) (by omega) ?_ | refine XArr.intsA (by omega) (by omega) (by omega) ?_) | ((with_reducible first | refine XArr.nats ?_ ?_ ?_ | refine XArr.natsA ?_ ?_ ?_ | refine XArr.ptr ?_ ?_ ?_); omega; omega) | (with_reducible apply XNext.mk)); conv => whnf) | ((with_reducible apply XBr.mk') <;> (intro h; conv => whnf))
  exact ⟨.low rfl⟩
end GA
end

section
namespace GA
open Go Go.RowKit Go.Proofs
set_option pp.deepTerms true
set_option maxRecDepth 8000
set_option linter.unusedVariables false
set_option linter.unusedSimpArgs false

theorem equal_sg (n1 n2 : Bool) (xs : List (Int × Int)) (hx : xs.length ≤ 100000) : Comp Try.prog 148 [.sl n1 (xs.map (sgA)), .sl n2 (xs.map (sgA))] (.bool true) := by
  refine Comp.body (T := tab) (res := [.tmp 4]) tab_ok [] Try.func148 rfl (by kernel_rfl) Try.ntmps148 rfl (by simp only [List.length_cons, List.length_nil]; decide) (by simp only [lowL, AV.low, lowSg]; rfl) ?_; conv => whnf
  repeat' first | ((with_reducible apply XBr.bne) <;> (intro h; first | (exfalso; omega) | (conv => whnf))) | fail
  refine Walk.loopK tab_ok [] [(0, _), (1, _), (12, _)] ⟨rfl, rfl, rfl, trivial⟩ (fun i : Nat => i ≤ xs.length) (fun i => [(13, natA i)]) (fun _ => []) (fun i => xs.length - i) 0 (Nat.zero_le _) rfl ⟨rfl, trivial⟩ ?_
  intro i hi
  conv => whnf
  have e1 : ((xs.map (sgA)).length : Int) = xs.length := by rw [List.length_map]
  by_cases hlt : i < xs.length
  · skip
    repeat' first | ((with_reducible apply XBr.ff); conv => whnf) | ((with_reducible apply XBr.dec) <;> (intro h; first | (exfalso; omega) | ((try simp only [List.length_map] at h); first | (exfalso; omega) | (conv => whnf)))) | ((first | (with_reducible refine XInt.i64 (by omega) (by omega) ?_) | ((with_reducible refine XIx.nat ?_ ?_ ?_); omega; (intro _; rfl))); conv => whnf) | (with_reducible apply XAnd.mk) | ((first | (with_reducible apply Chk.go) | (with_reducible apply ChkA.go) | (with_reducible apply ChkF.go) | (with_reducible apply ChkB.go)); conv => whnf) | (exact XSame.mk rfl rfl) | (with_reducible exact trivial) | (apply Walk.drawN (id := 6) tab_ok mixed_ok [] [] (hsU _) [_, _, _, _, _, _, _, _, _] (by kernel_rfl) rfl) | ((with_reducible apply XNext.mk); conv => whnf) | ((refine XEqA.mk ⟨[(xs.getD i default).1, (xs.getD i default).2], [(xs.getD i default).1, (xs.getD i default).2], rfl, rfl, rfl, rfl, ?_⟩); exact XSame.mk (show AV.bool (!(_ == _)) = AV.bool false by simp) rfl) | fail
    exact XAgain.go (i + 1) (by omega) (by omega) rfl ⟨rfl, rfl, rfl, rfl, trivial⟩
  obtain rfl : i = xs.length := by omega
  repeat' first | ((with_reducible apply XBr.dec) <;> (intro h; first | (exfalso; omega) | ((try simp only [List.length_map] at h); first | (exfalso; omega) | (conv => whnf)))) | fail
  exact XOut.bool rfl
theorem eq_sg (n1 n2 : Bool) (xs : List (Int × Int)) (hx : xs.length ≤ 100000) : Comp Try.prog 76 [.sl n1 (xs.map (sgA)), .sl n2 (xs.map (sgA))] (.bool true) := by
  refine Comp.body (T := tab) (res := [.tmp 4]) tab_ok [] Try.func76 rfl (by kernel_rfl) Try.ntmps76 rfl (by simp only [List.length_cons, List.length_nil]; decide) (by simp only [lowL, AV.low, lowSg]; rfl) ?_; conv => whnf
  repeat' first | ((refine XCall.ret (equal_sg n1 n2 xs hx) ?_); conv => whnf) | fail
  exact XOut.bool rfl
def threeS : Sn := ⟨3, 0, 2, 12, false, [(0, 1, 2), (1, 2, 2)], false, [(false, [0, 0, 0]), (false, [0, 0, 0])], false, [(false, [(false, [(0, 12)]), (false, [(0, 9)]), (false, [(0, 7)])]), (false, [(false, [(0, 12)]), (false, [(0, 6)]), (false, [(0, 5)])])]⟩
theorem three1_c (nl : Bool) (hi : List Int) (hh : hi.length ≤ 100) : Comp Try.prog 147 [.sl nl (ints hi)] (trA (hi.isEmpty, hi.map fun n => (false, [((0 : Int), n)]))) := by
  have e1 : ((ints hi).length : Int) = hi.length := by rw [ints_len]
  refine Comp.body (T := tab) (res := [.cell 2 58]) tab_ok [] Try.func147 rfl (by kernel_rfl) Try.ntmps147 rfl (by simp only [List.length_cons, List.length_nil]; decide) (by simp only [lowL, AV.low, lowI]; rfl) ?_; conv => whnf
  skip
  refine Walk.nilcell 1 0 55 rfl rfl ?_
  refine Walk.loopGK tab_ok [] [(2, _), (3, _), (6, _), (7, _)] ⟨rfl, rfl, rfl, rfl, trivial⟩ (fun k : Nat => k ≤ hi.length) (fun k => [(8, natA k)]) (fun k => [.cells [.sl true []], .cells [.gr 2 k], .grow 55 (hi.take k).isEmpty (((hi.take k).map fun n => ((false, [((0 : Int), n)]) : Sps)).map spsA)]) (fun k => hi.length - k) 0 (Nat.zero_le _) rfl ⟨rfl, trivial⟩ ?_ (fun _ _ => (show (3 : Nat) ≤ 3 from Nat.le_refl 3)) ?_
  · intro k _
    refine ⟨fun z hz => ?_, fun z hz => ?_⟩
    · simp only [List.mem_cons, List.not_mem_nil, or_false] at hz
      rcases hz with rfl | rfl | rfl <;> first | rfl | exact lowSps _
    · simp only [List.cons_append, List.nil_append, List.mem_cons, List.not_mem_nil, or_false] at hz
      rcases hz with rfl | rfl | rfl | rfl | rfl <;> first | rfl | exact lowI _
  intro k hk
  have hnx := fun h => take_next (xs := hi) (i := k) h
  have hall : k = hi.length → hi.take k = hi := fun h => by rw [h, List.take_length]
  have hkl : (hi.take k).length = k := by rw [List.length_take]; omega
  generalize hi.take k = R at hnx hall hkl
  have hRl : ((R.map fun n => ((false, [((0 : Int), n)]) : Sps)).map spsA).length = k := by rw [List.length_map, List.length_map]; exact hkl
  conv => whnf
  by_cases hlt : k < hi.length
  · skip
    repeat' first | ((with_reducible apply XBr.dec) <;> (intro h; first | (exfalso; omega) | ((try simp only [List.length_map] at h); first | (exfalso; omega) | (conv => whnf)))) | ((with_reducible refine XInt.i64 (by omega) (by omega) ?_); conv => whnf) | ((with_reducible refine XHold.mk ?_ ?_); (first | omega | rfl | decide | exact ⟨rfl, by decide, rfl⟩ | exact wideI _ | exact widePr _ | exact wideSk _ | (unfold Room; constructor <;> ((try simp) <;> omega)) | exact ⟨rfl, by simp only [List.length_map], by unfold Room; constructor <;> ((try simp) <;> omega)⟩ | exact ⟨by omega, by omega, by unfold Room; constructor <;> ((try simp) <;> omega)⟩); conv => whnf) | (((with_reducible refine XIx.nat ?_ ?_ ?_); omega; (intro _; rfl)); conv => whnf) | fail
    refine XAgainG.go (k + 1) [] (by omega) (by omega) ?_ ⟨rfl, rfl, rfl, rfl, rfl, trivial⟩
    show [Blk.cells _, Blk.cells _, Blk.grow _ (hi.take (k + 1)).isEmpty (((hi.take (k + 1)).map fun n => ((false, [((0 : Int), n)]) : Sps)).map spsA)] ++ [] = _
    rw [hnx hlt, isEmpty_app, List.map_append, List.map_append]; rfl
  obtain rfl : k = hi.length := by omega
  obtain rfl := hall rfl
  repeat' first | ((with_reducible apply XBr.dec) <;> (intro h; first | (exfalso; omega) | ((try simp only [List.length_map] at h); first | (exfalso; omega) | (conv => whnf)))) | fail
  exact ⟨Froz.agg (one1 rfl) (.cons (Froz.grow rfl hRl (lowSps _)) .nil)⟩
theorem three_c : Comp Try.prog 75 [] (snA threeS) := by
  have h1 := three1_c false [12, 9, 7] (by decide)
  have h2 := three1_c false [12, 6, 5] (by decide)
  refine Comp.body (T := tab) (res := [.cell 0 27]) tab_ok [] Try.func75 rfl (by kernel_rfl) Try.ntmps75 rfl (by simp only [List.length_cons, List.length_nil]; decide) (by rfl) ?_; conv => whnf
  repeat' first | ((with_reducible refine XHold.mk ?_ ?_); (first | omega | rfl | decide | exact ⟨rfl, by decide, rfl⟩ | exact wideI _ | exact widePr _ | exact wideSk _ | (unfold Room; constructor <;> ((try simp) <;> omega)) | exact ⟨rfl, by simp only [List.length_map], by unfold Room; constructor <;> ((try simp) <;> omega)⟩ | exact ⟨by omega, by omega, by unfold Room; constructor <;> ((try simp) <;> omega)⟩); conv => whnf) | ((first | (refine XCall.ret h1 ?_) | (refine XCall.ret h2 ?_)); conv => whnf) | fail
  exact ⟨Froz.low (snL threeS)⟩
theorem threeB : SnB threeS := ⟨by decide, by decide, by decide, by decide, by decide, by decide⟩
theorem threeOk : SnOk threeS := snE_iff.1 (by decide +kernel)
theorem awake02_c : Comp Try.prog 22 [] (.bool true) := by
  have h0 := three_c
  have h1 := fTurn_ok threeS threeB 1 threeOk (by decide) (by decide +kernel)
  have t1 : turnN threeS 1 = 7 := by decide +kernel
  rw [t1] at h1
  have h2 := fDry_c threeS threeB 1 7
  rw [show dryE threeS 1 7 = 0 by decide +kernel, show (if (0 : Int) = 0 then drN threeS (1 : Int).toNat (7 : Int).toNat else 0) = 1 by decide +kernel] at h2
  have h3 := fSteps_ok threeS threeB 1 2 3 (by decide +kernel)
  rw [show stepsS threeS (stN 1 2 3) = [(0, 2), (1, 1), (2, 2)] by decide +kernel] at h3
  have h4 := fFixed_ok threeS threeB threeOk 0 (by decide) false [(1, 2), (2, 2), (2, 1), (1, 2), (0, 2)] (by decide)
  rw [show fixR threeS ((0 : Nat) : Int) [(1, 2), (2, 2), (2, 1), (1, 2), (0, 2)] = (1, 1) by decide +kernel, if_neg (by decide +kernel)] at h4
  have h5 := eq_sg false false [(0, 2), (1, 1), (2, 2)] (by decide)
  refine Comp.body (T := tab) (res := [.tmp 0]) tab_ok [] Try.func22 rfl (by kernel_rfl) Try.ntmps22 rfl (by simp only [List.length_cons, List.length_nil]; decide) (by rfl) ?_; conv => whnf
  repeat' first | ((with_reducible refine XHold.mk ?_ ?_); (first | omega | rfl | decide | exact ⟨rfl, by decide, rfl⟩ | exact wideI _ | exact widePr _ | exact wideSk _ | (unfold Room; constructor <;> ((try simp) <;> omega)) | exact ⟨rfl, by simp only [List.length_map], by unfold Room; constructor <;> ((try simp) <;> omega)⟩ | exact ⟨by omega, by omega, by unfold Room; constructor <;> ((try simp) <;> omega)⟩); conv => whnf) | ((first | (refine XCall.ret h0 ?_) | (refine XCall.ret h1 ?_) | (refine XCall.ret h2 ?_) | (refine XCall.ret h3 ?_) | (refine XCall.ret h4 ?_)); conv => whnf) | fail
  refine Walk.norm tab_ok [] [(1, _), (2, _), (3, _), (4, _), (5, _), (6, _), (7, _), (8, _), (9, _)] ⟨rfl, rfl, rfl, rfl, rfl, rfl, rfl, rfl, rfl, trivial⟩ ?_
  conv => whnf
  repeat' first | ((with_reducible apply XBr.tt); conv => whnf) | ((with_reducible apply XBr.beq) <;> (intro h; first | (exfalso; omega) | (conv => whnf))) | ((with_reducible refine XHold.mk ?_ ?_); (first | omega | rfl | decide | exact ⟨rfl, by decide, rfl⟩ | exact wideI _ | exact widePr _ | exact wideSk _ | (unfold Room; constructor <;> ((try simp) <;> omega)) | exact ⟨rfl, by simp only [List.length_map], by unfold Room; constructor <;> ((try simp) <;> omega)⟩ | exact ⟨by omega, by omega, by unfold Room; constructor <;> ((try simp) <;> omega)⟩); conv => whnf) | ((refine XCall.ret h5 ?_); conv => whnf) | fail
  exact ⟨.low rfl⟩
end GA
end

section
namespace GA
open Go Go.RowKit Go.Proofs
set_option maxRecDepth 8000
set_option linter.unusedVariables false
set_option linter.unusedSimpArgs false

theorem getD_map' {α β : Type} (f : α → β) (l : List α) (i : Nat) (d : α) : (l.map f).getD i (f d) = f (l.getD i d) := by
  rw [List.getD_eq_getElem?_getD, List.getD_eq_getElem?_getD, List.getElem?_map]
  cases l[i]? <;> rfl
structure SnEq (s u : Sn) : Prop where
  places : s.places = u.places
  home : s.home = u.home
  bed : s.bed = u.bed
  last : s.last = u.last
  ways : s.ways = u.ways
  looks : s.looks.map (·.2) = u.looks.map (·.2)
  truths : s.truths.map (fun t => t.2.map (·.2)) = u.truths.map (fun t => t.2.map (·.2))
theorem SnEq.symm {s u : Sn} (e : SnEq s u) : SnEq u s := ⟨e.places.symm, e.home.symm, e.bed.symm, e.last.symm, e.ways.symm, e.looks.symm, e.truths.symm⟩
theorem SnEq.trans {s u v : Sn} (e : SnEq s u) (f : SnEq u v) : SnEq s v := ⟨e.places.trans f.places, e.home.trans f.home, e.bed.trans f.bed, e.last.trans f.last, e.ways.trans f.ways, e.looks.trans f.looks, e.truths.trans f.truths⟩
theorem SnEq.lenK {s u : Sn} (e : SnEq s u) : s.looks.length = u.looks.length := by have := congrArg List.length e.looks; simpa using this
theorem SnEq.lenT {s u : Sn} (e : SnEq s u) : s.truths.length = u.truths.length := by have := congrArg List.length e.truths; simpa using this
theorem lookZ_eq' (s : Sn) (t p : Nat) : lookZ s t p = ((s.looks.map (·.2)).getD t []).getD p default := by
  unfold lookZ; rw [show ([] : List Int) = (default : Rw).2 from rfl, getD_map' (fun r : Rw => r.2)]
theorem SnEq.look {s u : Sn} (e : SnEq s u) (t p : Nat) : lookZ s t p = lookZ u t p := by rw [lookZ_eq', lookZ_eq', e.looks]
theorem dryT_eq' (s : Sn) (t p m : Nat) : dryT s t p m = ((((s.truths.map fun t => t.2.map (·.2)).getD t []).getD p []).any fun x => inZ m x.1 x.2) := by
  unfold dryT
  rw [show ([] : List (List (Int × Int))) = (default : Tru).2.map (·.2) from rfl, getD_map' (fun t : Tru => t.2.map (·.2)), show ([] : List (Int × Int)) = (default : Sps).2 from rfl, getD_map' (fun t : Sps => t.2)]
theorem SnEq.dry {s u : Sn} (e : SnEq s u) (t p m : Nat) : dryT s t p m = dryT u t p m := by rw [dryT_eq', dryT_eq', e.truths]
theorem SnEq.drN {s u : Sn} (e : SnEq s u) (p m : Nat) : drN s p m = drN u p m := by unfold GA.drN; rw [e.lenT]; exact bsum_congr fun i _ => e.dry i p m
theorem SnEq.allN {s u : Sn} (e : SnEq s u) : allN s = allN u := by unfold GA.allN; rw [e.lenT]
theorem SnEq.partN {s u : Sn} (e : SnEq s u) (p l n : Nat) : partN s p l n = partN u p l n := by unfold GA.partN; rw [e.lenK]; exact bsum_congr fun i _ => by rw [e.look]
theorem SnEq.parts {s u : Sn} (e : SnEq s u) (p l : Nat) : partsL s p l = partsL u p l := by
  unfold partsL
  have : ∀ k, partsK s p l k = partsK u p l k := fun k => by
    induction k with
    | zero => rfl
    | succ k ih => rw [partsK, partsK, ih, e.partN]
  exact this 4
theorem SnEq.safe {s u : Sn} (e : SnEq s u) (x : Sta) : safeB s x = safeB u x := by unfold safeB; rw [e.drN]
theorem SnEq.waysL {s u : Sn} (e : SnEq s u) (p : Nat) : waysL s p = waysL u p := by
  unfold GA.waysL
  rw [e.places]
  have : ∀ k, waysK s p k = waysK u p k := fun k => by
    induction k with
    | zero => rfl
    | succ k ih => rw [waysK, waysK, ih]; unfold waysQ; rw [e.ways]
  exact this _
theorem SnEq.out {s u : Sn} (e : SnEq s u) (x : Sta) (t : Int × Int) : outS s x t = outS u x t := by unfold outS; rw [e.parts]
theorem SnEq.after {s u : Sn} (e : SnEq s u) (x : Sta) (t : Int × Int) : afterS s x t = afterS u x t := by
  unfold afterS
  rw [e.out, e.waysL, e.last, e.safe, show safeB s = safeB u from funext fun y => e.safe y]
theorem SnEq.steps {s u : Sn} (e : SnEq s u) (x : Sta) : stepsS s x = stepsS u x := by
  unfold stepsS
  rw [e.waysL, show (fun t => !(afterS s x t).isEmpty) = (fun t => !(afterS u x t).isEmpty) from funext fun t => by rw [e.after]]
theorem SnEq.gain {s u : Sn} (e : SnEq s u) (f : Sta → Int) (x : Sta) (t : Int × Int) : gainZ s f x t = gainZ u f x t := by unfold gainZ; rw [e.after, e.bed]
theorem SnEq.best {s u : Sn} (e : SnEq s u) (f : Sta → Int) (x : Sta) : bestZ s f x = bestZ u f x := by
  unfold bestZ homeZ
  rw [e.safe, e.steps, e.home, show (fun n t => max n (gainZ s f x t)) = (fun n t => max n (gainZ u f x t)) from funext fun n => funext fun t => by rw [e.gain]]
theorem SnEq.worth {s u : Sn} (e : SnEq s u) (x : Sta) : worthZ s x = worthZ u x := by
  unfold worthZ
  rw [e.last]
  have : ∀ k y, worthK s k y = worthK u k y := fun k => by
    induction k with
    | zero => intro y; rfl
    | succ k ih => intro y; rw [worthK, worthK, e.best, show worthK s k = worthK u k from funext ih]
  exact this _ _
theorem all_map2 {α β : Type} {f : α → β} {p : β → Bool} (l : List α) : l.all (fun x => p (f x)) = (l.map f).all p := by rw [List.all_map]; rfl
theorem SnEq.err {s u : Sn} (e : SnEq s u) : snE s = snE u := by
  have h1 : cntB s = cntB u := by
    unfold cntB
    rw [e.places, e.ways, e.lenK, e.lenT]
    have a1 : (s.looks.all fun l => decide ((l.2.length : Int) = u.places)) = (u.looks.all fun l => decide ((l.2.length : Int) = u.places)) := by
      rw [all_map2 (f := fun r : Rw => r.2) (p := fun l => decide ((l.length : Int) = u.places)), e.looks, ← all_map2 (f := fun r : Rw => r.2) (p := fun l => decide ((l.length : Int) = u.places))]
    have a2 : (s.truths.all fun t => decide ((t.2.length : Int) = u.places)) = (u.truths.all fun t => decide ((t.2.length : Int) = u.places)) := by
      have k : ∀ v : Sn, (v.truths.all fun t => decide ((t.2.length : Int) = u.places)) = ((v.truths.map fun t => t.2.map (·.2)).all fun l => decide ((l.length : Int) = u.places)) := fun v => by
        rw [← all_map2 (f := fun t : Tru => t.2.map (·.2)) (p := fun l => decide ((l.length : Int) = u.places))]
        simp only [List.length_map]
      rw [k s, k u, e.truths]
    rw [a1, a2]
  have h2 : (s.looks.all fun l => l.2.all fun n => inZ n 0 3) = (u.looks.all fun l => l.2.all fun n => inZ n 0 3) := by
    rw [all_map2 (f := fun r : Rw => r.2) (p := fun l => l.all fun n => inZ n 0 3), e.looks, ← all_map2 (f := fun r : Rw => r.2) (p := fun l => l.all fun n => inZ n 0 3)]
  have h3 : plB s = plB u := funext fun p => by unfold plB; rw [e.places]
  have h4 : agnB s = agnB u := by
    unfold agnB
    rw [show agnI s = agnI u from funext fun i => by unfold agnI wyB; rw [e.ways], e.ways]
  have h5 : s.truths.map (trE s) = u.truths.map (trE u) := by
    have k : ∀ v : Sn, v.last = u.last → v.truths.map (trE v) = (v.truths.map fun t => t.2.map (·.2)).map fun l => firstE (l.map fun r => spE u.last none r) := fun v hv => by
      rw [List.map_map]
      refine List.map_congr_left fun t _ => ?_
      show firstE _ = firstE _
      rw [List.map_map, hv]; rfl
    rw [k s e.last, k u rfl, e.truths]
  unfold snE
  rw [h1, h2, h3, h4, h5, e.last, e.ways, e.home, e.bed]
def ownR (r : Rw) : Rw := (false, r.2)
def ownT (t : Tru) : Tru := (false, t.2.map fun r => (false, r.2))
def ownS (s : Sn) : Sn := { s with nw := false, nk := false, nt := false, looks := s.looks.map ownR, truths := s.truths.map ownT }
theorem own_eq (s : Sn) : SnEq s (ownS s) := by
  refine ⟨rfl, rfl, rfl, rfl, rfl, ?_, ?_⟩
  · show _ = (s.looks.map ownR).map _
    rw [List.map_map]; rfl
  · show _ = (s.truths.map ownT).map _
    rw [List.map_map]
    refine List.map_congr_left fun t _ => ?_
    show _ = (t.2.map _).map _
    rw [List.map_map]; rfl
end GA
end

section
namespace GA
open Go Go.RowKit Go.Proofs
set_option pp.deepTerms true
set_option maxRecDepth 8000
set_option linter.unusedVariables false
set_option linter.unusedSimpArgs false

theorem wideWy (xs : List Wy) : wide 3 (xs.map wyA) = true := wide_map (f := wyA) (n := 3) (fun _ => rfl) (fun _ => rfl) xs
theorem wideSg (xs : List (Int × Int)) : wide 2 (xs.map sgA) = true := wide_map (f := sgA) (n := 2) (fun _ => rfl) (fun _ => rfl) xs
theorem wideTr (xs : List Tru) : wide 1 (xs.map trA) = true := wide_map (f := trA) (n := 1) (fun _ => rfl) (fun _ => rfl) xs
theorem dup_wy (nl : Bool) (xs : List Wy) (hx : xs.length ≤ 100000) : Comp Try.prog 77 [.sl nl (xs.map wyA)] (.sl false (xs.map wyA)) := by
  refine Comp.body (T := tab) (res := [.tmp 2]) tab_ok [] Try.func77 rfl (by kernel_rfl) Try.ntmps77 rfl (by simp only [List.length_cons, List.length_nil]; decide) (by simp only [lowL, AV.low, lowWy]; rfl) ?_; conv => whnf
  refine XHold.mk ⟨by omega, by simp, by unfold Room; simp; omega⟩ ?_
  conv => whnf
  refine XHold.mk (wideWy xs) ?_
  conv => whnf
  refine XHold.mk ⟨rfl, rfl, by unfold Room; simp; omega⟩ ?_
  conv => whnf
  exact ⟨Froz.grow rfl (by simp) (lowWy xs)⟩
theorem dup_sg (nl : Bool) (xs : List (Int × Int)) (hx : xs.length ≤ 100000) : Comp Try.prog 50 [.sl nl (xs.map sgA)] (.sl false (xs.map sgA)) := by
  refine Comp.body (T := tab) (res := [.tmp 2]) tab_ok [] Try.func50 rfl (by kernel_rfl) Try.ntmps50 rfl (by simp only [List.length_cons, List.length_nil]; decide) (by simp only [lowL, AV.low, lowSg]; rfl) ?_; conv => whnf
  refine XHold.mk ⟨by omega, by simp, by unfold Room; simp; omega⟩ ?_
  conv => whnf
  refine XHold.mk (wideSg xs) ?_
  conv => whnf
  refine XHold.mk ⟨rfl, rfl, by unfold Room; simp; omega⟩ ?_
  conv => whnf
  exact ⟨Froz.grow rfl (by simp) (lowSg xs)⟩
theorem renTr (f : Nat → Nat) (nl : Bool) (xs : List Tru) : Blk.ren f (.grow 58 nl (xs.map trA)) = .grow 58 nl (xs.map trA) := Blk.ren_low (n := 0) (fun i hi => by omega) (lowTr xs)
theorem dup_tr_g (nl : Bool) (xs : List Tru) (hx : xs.length ≤ 100000) : Gives Try.prog 78 [.sl nl (xs.map trA)] (.gr 0 xs.length) [.grow 58 false (xs.map trA)] := by
  refine Gives.body (T := tab) (res := [.tmp 2]) tab_ok [] Try.func78 rfl (by kernel_rfl) Try.ntmps78 rfl (by simp only [List.length_cons, List.length_nil]; decide) (by simp only [lowL, AV.low, lowTr]; rfl) rfl (fun x hx => by simp only [List.mem_cons, List.not_mem_nil, or_false] at hx; subst hx; exact lowTr _) ?_; conv => whnf
  refine XHold.mk ⟨by omega, by simp, by unfold Room; simp; omega⟩ ?_
  conv => whnf
  refine XHold.mk (wideTr xs) ?_
  conv => whnf
  refine XHold.mk ⟨rfl, rfl, by unfold Room; simp; omega⟩ ?_
  conv => whnf
  exact XGive.mk' [0] rfl (by decide) ⟨congrArg some (renTr _ _ _).symm, trivial⟩ (by show AV.gr 0 _ = AV.gr 0 _; congr 1; show 0 + (xs.map trA).length = _; rw [List.length_map, Nat.zero_add])
def ownP (r : Sps) : Sps := (false, r.2)
theorem dupRows_sps (nl : Bool) (xs : List Sps) (hx : xs.length ≤ 1000) (hr : ∀ r ∈ xs, r.2.length ≤ 1000) : Comp Try.prog 79 [.sl nl (xs.map spsA)] (.sl false ((xs.map ownP).map spsA)) := by
  have e1 : ((xs.map spsA).length : Int) = xs.length := by rw [List.length_map]
  refine Comp.body (T := tab) (res := [.tmp 2]) tab_ok [] Try.func79 rfl (by kernel_rfl) Try.ntmps79 rfl (by simp only [List.length_cons, List.length_nil]; decide) (by simp only [lowL, AV.low, lowSps]; rfl) ?_; conv => whnf
  refine XHold.mk ⟨by omega, by omega, by unfold Room; simp; omega⟩ ?_
  conv => whnf
  skip
  refine Walk.loopGK tab_ok [] [(2, _), (9, _), (10, _)] ⟨rfl, rfl, rfl, trivial⟩ (fun k : Nat => k ≤ xs.length) (fun k => [(3, .gr 0 k), (11, natA k)]) (fun k => [.grow 55 false (((xs.take k).map ownP).map spsA)]) (fun k => xs.length - k) 0 (Nat.zero_le _) rfl ⟨rfl, rfl, trivial⟩ ?_ (fun _ _ => (show (1 : Nat) ≤ 1 from Nat.le_refl 1)) ?_
  · intro k _
    refine ⟨fun z hz => ?_, fun z hz => ?_⟩
    · rw [List.mem_singleton] at hz; subst hz; exact lowSps _
    · simp only [List.cons_append, List.nil_append, List.mem_cons, List.not_mem_nil, or_false] at hz
      rcases hz with rfl | rfl | rfl | rfl | rfl <;> first | rfl | exact lowSps _
  intro k hk
  have hnx := fun h => take_next (xs := xs) (i := k) h
  have hall : k = xs.length → xs.take k = xs := fun h => by rw [h, List.take_length]
  have hkl : (xs.take k).length = k := by rw [List.length_take]; omega
  generalize xs.take k = R at hnx hall hkl
  have hRl : ((R.map ownP).map spsA).length = k := by rw [List.length_map, List.length_map]; exact hkl
  conv => whnf
  by_cases hlt : k < xs.length
  · have hd := dup_sg (xs.getD k default).1 (xs.getD k default).2 (by have := hr _ (getD_mem (d := default) hlt); omega)
    repeat' first | ((with_reducible apply XBr.dec) <;> (intro h; first | (exfalso; omega) | ((try simp only [List.length_map] at h); first | (exfalso; omega) | (conv => whnf)))) | ((with_reducible refine XInt.i64 (by omega) (by omega) ?_); conv => whnf) | ((with_reducible refine XHold.mk ?_ ?_); (first | omega | rfl | decide | exact ⟨rfl, by decide, rfl⟩ | exact wideI _ | exact widePr _ | exact wideSk _ | (unfold Room; constructor <;> ((try simp) <;> omega)) | exact ⟨rfl, by simp only [List.length_map], by unfold Room; constructor <;> ((try simp) <;> omega)⟩ | exact ⟨by omega, by omega, by unfold Room; constructor <;> ((try simp) <;> omega)⟩); conv => whnf) | ((first | ((with_reducible refine XIx.nat ?_ ?_ ?_); omega; (intro _; rfl)) | (refine XCall.ret hd ?_)); conv => whnf) | fail
    refine XAgainG.go (k + 1) [] (by omega) (by omega) ?_ ⟨rfl, rfl, rfl, rfl, rfl, trivial⟩
    show [Blk.grow _ false (((xs.take (k + 1)).map ownP).map spsA)] ++ [] = _
    rw [hnx hlt, List.map_append, List.map_append]; rfl
  obtain rfl : k = xs.length := by omega
  obtain rfl := hall rfl
  repeat' first | ((with_reducible apply XBr.dec) <;> (intro h; first | (exfalso; omega) | ((try simp only [List.length_map] at h); first | (exfalso; omega) | (conv => whnf)))) | fail
  exact ⟨Froz.grow rfl hRl (lowSps _)⟩
end GA
end

section
namespace GA
open Go Go.RowKit Go.Proofs
set_option pp.deepTerms true
set_option maxRecDepth 8000
set_option linter.unusedVariables false
set_option linter.unusedSimpArgs false

def owT (t : Tru) : AV := .sl false ((t.2.map ownP).map spsA)
theorem owTL {n : Nat} (t : Tru) : (owT t).low n = true := lowSps _
def owE (s : Sn) (k : Nat) : List AV := (s.truths.take k).map owT ++ (s.truths.drop k).map trA
theorem owE_len (s : Sn) {k : Nat} (hk : k ≤ s.truths.length) : (owE s k).length = s.truths.length := by unfold owE; rw [List.length_append, List.length_map, List.length_map, List.length_take, List.length_drop]; omega
theorem owE_low {n : Nat} (s : Sn) (k : Nat) : lowL n (owE s k) = true := lowL_app (lowL_map (fun _ => owTL _) _) (lowTr _)
theorem owE_set (s : Sn) {k : Nat} (hk : k < s.truths.length) : (owE s k).set k (owT (s.truths.getD k default)) = owE s (k + 1) := by
  unfold owE
  have hl : ((s.truths.take k).map owT).length = k := by rw [List.length_map, List.length_take]; omega
  rw [List.set_append_right _ _ (by omega), hl, Nat.sub_self, drop_next hk, List.map_cons, List.set_cons_zero, take_next hk, List.map_append, List.append_assoc]; rfl
end GA
end
