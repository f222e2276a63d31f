/- Part 6 of a proof: F18, F50, F51, F52, F55, F56, F30, F57, F58, F35, F36, F43, F65, F19, Abs43. -/
import Derived.Test.YtmeankpoalkloaaP5
section
namespace GA
open Go Go.RowKit Go.Proofs
set_option pp.deepTerms true
set_option maxRecDepth 8000
set_option linter.unusedVariables false
set_option linter.unusedSimpArgs false

theorem wTab_at (s : Sn) (ok : SnOk s) {p m l : Nat} (hv : vld s ⟨p, m, l⟩) : (wTab s)[976 * p + 16 * m + l]? = some (.int .i64 (worthZ s ⟨p, m, l⟩)) := by
  have p2 := ok.p2; have l2 := ok.l2; have hal := allN_lt ok
  obtain ⟨v1, v2, v3⟩ := hv
  dsimp only at v1 v2 v3
  have h := vec_at (f := AV.int .i64) (W := 4880) (F := G3 (wNum s (vldB s))) (j := 976 * p + 16 * m + l) (by omega)
  rw [G3_at _ (by omega) (by omega), wNum_at (vldB_iff.2 ⟨v1, v2, v3⟩)] at h
  exact h
theorem wof_c (s : Sn) (ok : SnOk s) (x : Sta) (hv : vld s x) : Comp Try.prog 74 [wsA s, staA x] (.int .i64 (worthZ s x)) := by
  have p2 := ok.p2; have l2 := ok.l2; have hal := allN_lt ok
  have ha := wTab_at s ok hv
  obtain ⟨v1, v2, v3⟩ := hv
  refine Comp.body (T := tab) (res := [.tmp 4]) tab_ok [] Try.func74 rfl (by kernel_rfl) Try.ntmps74 rfl (by simp only [List.length_cons, List.length_nil]; decide) (by simp only [lowL, worsL, staL]; rfl) ?_; conv => whnf
  repeat' first | (with_reducible apply XAnd.mk) | ((first | (with_reducible apply Chk.go) | (with_reducible apply ChkA.go) | (with_reducible apply ChkF.go) | (with_reducible apply ChkB.go)); conv => whnf) | (exact XSame.mk rfl rfl) | (with_reducible exact trivial) | (apply Walk.drawN (id := 1) tab_ok mixed_ok [] [] (hsU _) [_, _, _, _, _, _, _, _, _, _, _, _, _] (by kernel_rfl) rfl) | ((first | (with_reducible apply XNext.mk) | (refine XArr.at _ (by omega) (by omega) (by rw [List.getElem?_drop, List.getElem?_drop, show (x.p : Int).toNat * 976 + ((x.m : Int).toNat * 16 + (x.l : Int).toNat * 1) = 976 * x.p + 16 * x.m + x.l by omega]; exact ha) ?_) | (refine XArr.pim (by omega) (by omega) ?_)); conv => whnf) | fail
  exact ⟨.low rfl⟩
def turnB (s : Sn) (l b : Nat) : Bool := worthZ s ⟨s.bed.toNat, s.last.toNat - b, l⟩ != -1
def turnN (s : Sn) (l : Nat) : Int := match (List.range (s.last.toNat + 1)).find? (turnB s l) with | some b => s.last - b | none => -1
theorem find_range_none {f : Nat → Bool} {n : Nat} (h : ∀ j, j < n → f j = false) : (List.range n).find? f = none := by
  rw [List.find?_eq_none]
  intro j hj
  rw [h j (List.mem_range.1 hj)]; simp
theorem find_range_some {f : Nat → Bool} : ∀ {n k : Nat}, k < n → f k = true → (∀ j, j < k → f j = false) → (List.range n).find? f = some k
  | n + 1, k, hk, h1, h2 => by
    rw [List.range_succ, List.find?_append]
    by_cases e : k < n
    · rw [find_range_some e h1 h2]; rfl
    · obtain rfl : k = n := by omega
      rw [find_range_none h2]
      rw [Option.none_or, List.find?_cons, h1]
theorem fTurn_ok (s : Sn) (hb : SnB s) (l : Nat) (ok : SnOk s) (h1 : 1 ≤ l) (h2 : l ≤ allN s) : Comp Try.prog 25 [snA s, natA l] (.tup [.int .i64 (if turnN s l = -1 then 0 else turnN s l), .int .i64 (if turnN s l = -1 then 6 else 0)]) := by
  have ho := fdOpened_c s hb ok
  have hst := fset_c s ok l
  have p2 := ok.p2; have l1 := ok.l1; have l2 := ok.l2; have b1 := ok.b1; have hal := allN_lt ok
  rw [inZ_iff.2 ⟨by omega, by omega⟩] at hst
  have hw := worths_c s ok
  obtain ⟨L0, hL0⟩ : ∃ L0 : Nat, s.last = L0 := ⟨s.last.toNat, by omega⟩
  refine Comp.body (T := tab) (res := [.tmp 4, .tmp 5]) tab_ok [] Try.func25 rfl (by kernel_rfl) Try.ntmps25 rfl (by simp only [List.length_cons, List.length_nil]; decide) (by simp only [lowL, AV.low, snL]; rfl) ?_; conv => whnf
  skip
  refine Walk.scope tab_ok [] ?_
  conv => whnf
  repeat' first | ((with_reducible apply XBr.tt); conv => whnf) | (with_reducible apply XBr.not) | ((with_reducible apply XBr.bne) <;> (intro h; first | (exfalso; omega) | (conv => whnf))) | ((first | (refine XCall.ret ho ?_) | (refine XCall.ret hst ?_) | (refine XCall.ret hw ?_)); conv => whnf) | fail
  refine Walk.label ?_
  conv => whnf
  repeat' first | ((with_reducible refine XInt.i64 (by omega) (by omega) ?_); conv => whnf) | fail
  refine Walk.loopK tab_ok [] [(1, _), (2, _), (4, _), (5, _), (8, _), (29, _)] ⟨rfl, rfl, rfl, rfl, rfl, rfl, trivial⟩ (fun k : Nat => k ≤ L0 + 1 ∧ ∀ j, j < k → turnB s l j = false) (fun k => [(9, .int .i64 (-1)), (30, natA k)]) (fun _ => []) (fun k => L0 + 1 - k) 0 ⟨Nat.zero_le _, fun j hj => by omega⟩ rfl ⟨rfl, rfl, trivial⟩ ?_
  rintro k ⟨hk, hs⟩
  conv => whnf
  by_cases hlt : k < L0 + 1
  · have hof := wof_c s ok ⟨s.bed.toNat, s.last.toNat - k, l⟩ ⟨by show ((s.bed.toNat : Nat) : Int) < s.places; omega, by show ((s.last.toNat - k : Nat) : Int) ≤ s.last; omega, h2⟩
    have hst2 : staA ⟨s.bed.toNat, s.last.toNat - k, l⟩ = .agg [.int .i64 s.bed, .int .i64 (s.last - k), natA l] := by
      unfold staA natA; dsimp only; rw [show ((s.last.toNat - k : Nat) : Int) = s.last - k by omega, Int.toNat_of_nonneg b1.1]
    rw [hst2] at hof
    have htb : turnB s l k = (worthZ s ⟨s.bed.toNat, s.last.toNat - k, l⟩ != -1) := rfl
    generalize worthZ s ⟨s.bed.toNat, s.last.toNat - k, l⟩ = v at hof htb
    repeat' first | ((with_reducible apply XBr.dec) <;> (intro h; first | (exfalso; omega) | ((try simp only [List.length_map] at h); first | (exfalso; omega) | (conv => whnf)))) | ((with_reducible apply XBr.beq) <;> (intro h; first | (exfalso; omega) | (conv => whnf))) | ((with_reducible apply XBr.bne) <;> (intro h; first | (exfalso; omega) | (conv => whnf))) | ((first | (with_reducible refine XInt.i64 (by omega) (by omega) ?_) | (refine XCall.ret hof ?_)); conv => whnf) | fail
    · have hf : turnN s l = s.last - k := by
        unfold turnN
        rw [find_range_some (k := k) (by omega) (by rw [htb]; simpa using (show v ≠ -1 by assumption)) hs]
      rw [hf, if_neg (by omega), if_neg (by omega)]
      exact ⟨.low rfl⟩
    · refine XAgain.go (k + 1) ⟨by omega, fun j hj => ?_⟩ (by omega) rfl ⟨rfl, rfl, rfl, rfl, rfl, rfl, rfl, rfl, trivial⟩
      by_cases e : j = k
      · subst e; rw [htb]; simpa using (show v = -1 by assumption)
      · exact hs j (by omega)
  obtain rfl : k = L0 + 1 := by omega
  have hf : turnN s l = -1 := by
    unfold turnN
    rw [find_range_none (fun j hj => hs j (by omega))]
  rw [hf, if_pos rfl, if_pos rfl]
  clear hs
  repeat' first | ((with_reducible apply XBr.dec) <;> (intro h; first | (exfalso; omega) | ((try simp only [List.length_map] at h); first | (exfalso; omega) | (conv => whnf)))) | ((with_reducible apply XBr.beq) <;> (intro h; first | (exfalso; omega) | (conv => whnf))) | fail
  exact ⟨.low rfl⟩
theorem index_sg (nl : Bool) (xs : List (Int × Int)) (t : Int × Int) (hx : xs.length ≤ 100000) : Comp Try.prog 144 [.sl nl (xs.map sgA), sgA t] (.int .i64 (idxR (fun y => t == y) xs)) := by
  have e1 : ((xs.map sgA).length : Int) = xs.length := by rw [List.length_map]
  refine Comp.body (T := tab) (res := [.tmp 4]) tab_ok [] Try.func144 rfl (by kernel_rfl) Try.ntmps144 rfl (by simp only [List.length_cons, List.length_nil]; decide) (by simp only [lowL, AV.low, lowSg, sgL]; rfl) ?_; conv => whnf
  skip
  refine Walk.loopK tab_ok [] [(0, _), (3, _), (7, _)] ⟨rfl, rfl, rfl, trivial⟩ (fun i : Nat => i ≤ xs.length ∧ ∀ j, j < i → (t == xs.getD j default) = false) (fun i => [(8, natA i)]) (fun _ => []) (fun i => xs.length - i) 0 ⟨Nat.zero_le _, fun j hj => by omega⟩ rfl ⟨rfl, trivial⟩ ?_
  rintro i ⟨hi, hs⟩
  conv => whnf
  by_cases hlt : i < xs.length
  · have hbe : ((t.1 == (xs.getD i default).1) && (t.2 == (xs.getD i default).2)) = (t == xs.getD i default) := rfl
    have hbe2 : (([t.1, t.2] : List Int) == [(xs.getD i default).1, (xs.getD i default).2]) = (t == xs.getD i default) := by rw [← hbe]; show (_ && (_ && true)) = _; rw [Bool.and_true]
    cases hb : t == xs.getD i default with
    | true =>
      rw [hb] at hbe2
      repeat' first | ((with_reducible apply XBr.tt); conv => whnf) | ((with_reducible apply XBr.dec) <;> (intro h; first | (exfalso; omega) | ((try simp only [List.length_map] at h); first | (exfalso; omega) | (conv => whnf)))) | (((with_reducible refine XIx.nat ?_ ?_ ?_); omega; (intro _; rfl)); conv => whnf) | (with_reducible apply XAnd.mk) | ((first | (with_reducible apply Chk.go) | (with_reducible apply ChkA.go) | (with_reducible apply ChkF.go) | (with_reducible apply ChkB.go)); conv => whnf) | (exact XSame.mk rfl rfl) | (with_reducible exact trivial) | (apply Walk.drawN (id := 4) tab_ok mixed_ok [] [] (hsU _) [_, _, _, _, _, _] (by kernel_rfl) rfl) | ((with_reducible apply XNext.mk); conv => whnf) | ((refine XEqA.mk ⟨[_, _], [_, _], rfl, rfl, rfl, rfl, ?_⟩); exact XSame.mk (congrArg AV.bool hbe2) rfl) | fail
      refine XOut.int ?_
      simp only [idxR, find_some (d := default) (i := i) hlt hb hs]
    | false =>
      rw [hb] at hbe2
      repeat' first | ((with_reducible apply XBr.ff); conv => whnf) | ((with_reducible apply XBr.dec) <;> (intro h; first | (exfalso; omega) | ((try simp only [List.length_map] at h); first | (exfalso; omega) | (conv => whnf)))) | ((first | (with_reducible refine XInt.i64 (by omega) (by omega) ?_) | ((with_reducible refine XIx.nat ?_ ?_ ?_); omega; (intro _; rfl))); conv => whnf) | (with_reducible apply XAnd.mk) | ((first | (with_reducible apply Chk.go) | (with_reducible apply ChkA.go) | (with_reducible apply ChkF.go) | (with_reducible apply ChkB.go)); conv => whnf) | (exact XSame.mk rfl rfl) | (with_reducible exact trivial) | (apply Walk.drawN (id := 4) tab_ok mixed_ok [] [] (hsU _) [_, _, _, _, _, _] (by kernel_rfl) rfl) | ((with_reducible apply XNext.mk); conv => whnf) | ((refine XEqA.mk ⟨[_, _], [_, _], rfl, rfl, rfl, rfl, ?_⟩); exact XSame.mk (congrArg AV.bool hbe2) rfl) | fail
      refine XAgain.go (i + 1) ⟨by omega, fun j hj => ?_⟩ (by omega) rfl ⟨rfl, rfl, rfl, rfl, trivial⟩
      by_cases e : j = i
      · subst e; exact hb
      · exact hs j (by omega)
  obtain rfl : i = xs.length := by omega
  have hf := find_none (d := default) hs
  clear hs
  repeat' first | ((with_reducible apply XBr.dec) <;> (intro h; first | (exfalso; omega) | ((try simp only [List.length_map] at h); first | (exfalso; omega) | (conv => whnf)))) | fail
  refine XOut.int ?_
  simp only [idxR, hf]
theorem contains_sg (nl : Bool) (xs : List (Int × Int)) (t : Int × Int) (hx : xs.length ≤ 100000) : Comp Try.prog 72 [.sl nl (xs.map sgA), sgA t] (.bool (xs.contains t)) := by
  have hi := index_sg nl xs t hx
  have hc : decide (0 ≤ idxR (fun y => t == y) xs) = xs.contains t := by
    rw [Bool.eq_iff_iff, decide_eq_true_eq, idxR_pos, List.any_eq_true, List.contains_iff_mem]
    constructor
    · rintro ⟨y, hy, e⟩; rw [beq_iff_eq] at e; subst e; exact hy
    · intro h; exact ⟨t, h, by simp⟩
  generalize idxR (fun y => t == y) xs = v at hi hc
  refine Comp.body (T := tab) (res := [.tmp 4]) tab_ok [] Try.func72 rfl (by kernel_rfl) Try.ntmps72 rfl (by simp only [List.length_cons, List.length_nil]; decide) (by simp only [lowL, AV.low, lowSg, sgL]; rfl) ?_; conv => whnf
  repeat' first | ((refine XCall.ret hi ?_); conv => whnf) | fail
  exact XOut.bool hc
def fixS (s : Sn) : Nat → Nat → Nat → Nat → List (Int × Int) → Option (Nat × Nat × Nat × Nat)
  | p, m, a, w, [] => some (p, m, a, w)
  | p, m, a, w, t :: l => if (waysL s p).contains t = true ∧ (m : Int) + t.2 ≤ s.last then
      fixS s t.1.toNat ((m : Int) + t.2).toNat (a &&& drN s t.1.toNat ((m : Int) + t.2).toNat) (if (p : Int) = s.bed ∧ t.1 = p then w + 1 else w) l else none
def fixR (s : Sn) (m : Int) (l : List (Int × Int)) : Nat × Nat :=
  match fixS s s.home.toNat m.toNat (drN s s.home.toNat m.toNat) 0 l with
  | some (p, _, a, w) => (if (p : Int) = s.home then a else 0, w)
  | none => (0, 0)
theorem fFixed_ok (s : Sn) (hb : SnB s) (ok : SnOk s) (m0 : Nat) (hm0 : (m0 : Int) ≤ s.last) (nl : Bool) (l : List (Int × Int)) (hl : l.length ≤ 100000) : Comp Try.prog 20 [snA s, natA m0, .sl nl (l.map sgA)] (.tup [natA (fixR s m0 l).1, natA (fixR s m0 l).2, .int .i64 (if fixS s s.home.toNat m0 (drN s s.home.toNat m0) 0 l = none then 8 else 0)]) := by
  have p1 := ok.p1; have p2 := ok.p2; have l1 := ok.l1; have l2 := ok.l2; have w1 := ok.w1; have h1 := ok.h1
  have ho := fdOpened_c s hb ok
  have hmn := fminute_c s m0
  rw [inZ_iff.2 ⟨by omega, hm0⟩] at hmn
  have e1 : ((l.map sgA).length : Int) = l.length := by rw [List.length_map]
  obtain ⟨h0, hh0⟩ : ∃ h0 : Nat, s.home = h0 := ⟨s.home.toNat, by omega⟩
  have hfr : fixR s m0 l = match fixS s h0 m0 (drN s h0 m0) 0 l with | some (p, _, a, w) => (if (p : Int) = s.home then a else 0, w) | none => (0, 0) := by unfold fixR; rw [hh0, Int.toNat_natCast, Int.toNat_natCast]
  rw [show s.home.toNat = h0 by omega]
  refine Comp.body (T := tab) (res := [.tmp 6, .tmp 7, .tmp 8]) tab_ok [] Try.func20 rfl (by kernel_rfl) Try.ntmps20 rfl (by simp only [List.length_cons, List.length_nil]; decide) (by simp only [lowL, AV.low, snL, lowSg]; rfl) ?_; conv => whnf
  repeat' first | ((with_reducible apply XBr.tt); conv => whnf) | (with_reducible apply XBr.not) | ((with_reducible apply XBr.bne) <;> (intro h; first | (exfalso; omega) | (conv => whnf))) | ((first | (refine XCall.ret ho ?_) | (refine XCall.ret hmn ?_) | (refine XArr.dryP h0 hh0 (by omega) ?_) | (refine XArr.dryM m0 rfl (by omega) (by omega) ?_)); conv => whnf) | fail
  refine Walk.loopGK tab_ok [] [(3, _), (9, _), (37, _), (38, _)] ⟨rfl, rfl, rfl, rfl, trivial⟩ (fun g : Nat × Nat × Nat × Nat × Nat => g.1 ≤ l.length ∧ (g.2.1 : Int) < s.places ∧ (g.2.2.1 : Int) ≤ s.last ∧ g.2.2.2.1 < 16 ∧ g.2.2.2.2 ≤ g.1 ∧ fixS s h0 m0 (drN s h0 m0) 0 l = fixS s g.2.1 g.2.2.1 g.2.2.2.1 g.2.2.2.2 (l.drop g.1)) (fun g => [(1, natA g.2.2.1), (6, natA g.2.2.2.1), (7, natA g.2.2.2.2), (8, .int .i64 0), (10, natA g.2.1), (39, natA g.1)]) (fun _ => []) (fun g => l.length - g.1) (0, h0, m0, drN s h0 m0, 0) ⟨Nat.zero_le _, by dsimp only; omega, hm0, drN_lt ok _ _, Nat.le_refl _, rfl⟩ rfl ⟨rfl, rfl, rfl, rfl, congrArg (fun z => some (AV.int .i64 z)) hh0, rfl, trivial⟩ ?_ (fun _ _ => Nat.le_refl _) ?_
  · intro g _
    refine ⟨by simp, fun z hz => ?_⟩
    simp only [List.cons_append, List.nil_append, List.mem_cons, List.not_mem_nil, or_false] at hz
    rcases hz with rfl | rfl | rfl | rfl | rfl | rfl | rfl | rfl | rfl | rfl <;> first | rfl | exact snCL s | exact dskFL s | exact lowSg _
  rintro ⟨k, p, m, a, w⟩ ⟨hk, hp, hm, ha, hw, hs⟩
  dsimp only at hk hp hm ha hw hs ⊢
  conv => whnf
  by_cases hlt : k < l.length
  · rw [drop_next hlt, fixS] at hs
    have hct := contains_sg false (waysL s p) (l.getD k default) (by
      have h := waysK_len s p s.places.toNat
      have h2 : s.places.toNat * (1 + s.ways.length) ≤ 5 * 11 := Nat.mul_le_mul (by omega) (by omega)
      show (waysK s p s.places.toNat).length ≤ 100000
      omega)
    have hmg : mget (p : Int) ((keyF s).zip ((esF s s.places.toNat).map (·.2))) = some (.sl false ((waysL s p).map sgA)) := by
      unfold keyF; rw [zip_fs]; exact esF_get s _ _ (by omega)
    cases hc : (waysL s p).contains (l.getD k default) with
    | false =>
      rw [hc] at hct hs
      rw [if_neg (by simp)] at hs
      repeat' first | ((first | (with_reducible apply XBr.tt) | (with_reducible apply XBr.ff)); conv => whnf) | (with_reducible apply XBr.not) | ((with_reducible apply XBr.dec) <;> (intro h; first | (exfalso; omega) | ((try simp only [List.length_map] at h); first | (exfalso; omega) | (conv => whnf)))) | (((with_reducible refine XIx.nat ?_ ?_ ?_); omega; (intro _; rfl)); conv => whnf) | (with_reducible apply XAnd.mk) | ((first | (with_reducible apply Chk.go) | (with_reducible apply ChkA.go) | (with_reducible apply ChkF.go) | (with_reducible apply ChkB.go)); conv => whnf) | (exact XSame.mk rfl rfl) | (with_reducible exact trivial) | (apply Walk.drawN (id := 11) tab_ok mixed_ok [] [] (hsU _) [_, _, _, _, _, _, _, _, _, _, _, _, _, _, _, _, _, _] (by kernel_rfl) rfl) | ((first | (with_reducible apply XNext.mk) | (refine XDrop.dskF ?_) | (refine XGetM.mk' hmg ?_) | (refine XCall.ret hct ?_)); conv => whnf) | fail
      rw [hfr, hs]
      exact ⟨.low rfl⟩
    | true =>
      rw [hc] at hct hs
      have hwy := waysL_pos ok (List.contains_iff_mem.1 hc)
      by_cases hle : (m : Int) + (l.getD k default).2 ≤ s.last
      · rw [if_pos ⟨rfl, hle⟩] at hs
        obtain ⟨q, hq⟩ : ∃ q : Nat, (l.getD k default).1 = q := ⟨(l.getD k default).1.toNat, by omega⟩
        obtain ⟨m', hm'⟩ : ∃ m' : Nat, (m : Int) + (l.getD k default).2 = m' := ⟨((m : Int) + (l.getD k default).2).toNat, by omega⟩
        rw [hm', Int.toNat_natCast, hq, Int.toNat_natCast] at hs
        have hand : iand .i64 (a : Int) (drN s q m' : Int) = ((a &&& drN s q m' : Nat) : Int) := iand_nat (by omega) (by have := drN_lt ok q m'; omega)
        have hal : a &&& drN s q m' ≤ a := Nat.and_le_left
        by_cases c1 : (p : Int) = s.bed
        · by_cases c2 : (l.getD k default).1 = (p : Int)
          · rw [if_pos ⟨c1, by omega⟩] at hs
            repeat' first | ((with_reducible apply XBr.tt); conv => whnf) | (with_reducible apply XBr.not) | ((with_reducible apply XBr.dec) <;> (intro h; first | (exfalso; omega) | ((try simp only [List.length_map] at h); first | (exfalso; omega) | (conv => whnf)))) | ((with_reducible apply XBr.beq) <;> (intro h; first | (exfalso; omega) | (conv => whnf))) | ((first | (with_reducible refine XInt.i64 (by omega) (by omega) ?_) | ((with_reducible refine XIx.nat ?_ ?_ ?_); omega; (intro _; rfl))); conv => whnf) | (with_reducible apply XAnd.mk) | ((first | (with_reducible apply Chk.go) | (with_reducible apply ChkA.go) | (with_reducible apply ChkF.go) | (with_reducible apply ChkB.go)); conv => whnf) | (exact XSame.mk rfl rfl) | (with_reducible exact trivial) | (apply Walk.drawN (id := 11) tab_ok mixed_ok [] [] (hsU _) [_, _, _, _, _, _, _, _, _, _, _, _, _, _, _, _, _, _] (by kernel_rfl) rfl) | (apply Walk.drawN (id := 15) tab_ok mixed_ok [] [] (hsU _) [_, _, _, _, _, _, _, _] (by kernel_rfl) rfl) | ((first | (with_reducible apply XNext.mk) | (refine XDrop.dskF ?_) | (refine XGetM.mk' hmg ?_) | (refine XCall.ret hct ?_) | (refine XArr.dryP q hq (by omega) ?_) | (refine XArr.dryM m' hm' (by omega) (by omega) ?_)); conv => whnf) | fail
            exact XAgainG.go (k + 1, q, m', a &&& drN s q m', w + 1) [.cells (sgA (l.getD k default)).cells] ⟨by dsimp only; omega, by dsimp only; omega, by dsimp only; omega, by dsimp only; omega, by dsimp only; omega, hs⟩ (by dsimp only; omega) rfl ⟨rfl, rfl, rfl, rfl, congrArg (fun z => some (AV.int .i64 z)) hm', congrArg (fun z => some (AV.int .i64 z)) hand, rfl, rfl, congrArg (fun z => some (AV.int .i64 z)) hq, rfl, trivial⟩
          · rw [if_neg (fun h => c2 (by omega))] at hs
            repeat' first | ((with_reducible apply XBr.tt); conv => whnf) | (with_reducible apply XBr.not) | ((with_reducible apply XBr.dec) <;> (intro h; first | (exfalso; omega) | ((try simp only [List.length_map] at h); first | (exfalso; omega) | (conv => whnf)))) | ((with_reducible apply XBr.beq) <;> (intro h; first | (exfalso; omega) | (conv => whnf))) | ((first | (with_reducible refine XInt.i64 (by omega) (by omega) ?_) | ((with_reducible refine XIx.nat ?_ ?_ ?_); omega; (intro _; rfl))); conv => whnf) | (with_reducible apply XAnd.mk) | ((first | (with_reducible apply Chk.go) | (with_reducible apply ChkA.go) | (with_reducible apply ChkF.go) | (with_reducible apply ChkB.go)); conv => whnf) | (exact XSame.mk rfl rfl) | (with_reducible exact trivial) | (apply Walk.drawN (id := 11) tab_ok mixed_ok [] [] (hsU _) [_, _, _, _, _, _, _, _, _, _, _, _, _, _, _, _, _, _] (by kernel_rfl) rfl) | (apply Walk.drawN (id := 15) tab_ok mixed_ok [] [] (hsU _) [_, _, _, _, _, _, _, _] (by kernel_rfl) rfl) | ((first | (with_reducible apply XNext.mk) | (refine XDrop.dskF ?_) | (refine XGetM.mk' hmg ?_) | (refine XCall.ret hct ?_) | (refine XArr.dryP q hq (by omega) ?_) | (refine XArr.dryM m' hm' (by omega) (by omega) ?_)); conv => whnf) | fail
            exact XAgainG.go (k + 1, q, m', a &&& drN s q m', w) [.cells (sgA (l.getD k default)).cells] ⟨by dsimp only; omega, by dsimp only; omega, by dsimp only; omega, by dsimp only; omega, by dsimp only; omega, hs⟩ (by dsimp only; omega) rfl ⟨rfl, rfl, rfl, rfl, congrArg (fun z => some (AV.int .i64 z)) hm', congrArg (fun z => some (AV.int .i64 z)) hand, rfl, rfl, congrArg (fun z => some (AV.int .i64 z)) hq, rfl, trivial⟩
        · rw [if_neg (fun h => c1 h.1)] at hs
          repeat' first | ((first | (with_reducible apply XBr.tt) | (with_reducible apply XBr.ff)); conv => whnf) | (with_reducible apply XBr.not) | ((with_reducible apply XBr.dec) <;> (intro h; first | (exfalso; omega) | ((try simp only [List.length_map] at h); first | (exfalso; omega) | (conv => whnf)))) | ((with_reducible apply XBr.beq) <;> (intro h; first | (exfalso; omega) | (conv => whnf))) | ((first | (with_reducible refine XInt.i64 (by omega) (by omega) ?_) | ((with_reducible refine XIx.nat ?_ ?_ ?_); omega; (intro _; rfl))); conv => whnf) | (with_reducible apply XAnd.mk) | ((first | (with_reducible apply Chk.go) | (with_reducible apply ChkA.go) | (with_reducible apply ChkF.go) | (with_reducible apply ChkB.go)); conv => whnf) | (exact XSame.mk rfl rfl) | (with_reducible exact trivial) | (apply Walk.drawN (id := 11) tab_ok mixed_ok [] [] (hsU _) [_, _, _, _, _, _, _, _, _, _, _, _, _, _, _, _, _, _] (by kernel_rfl) rfl) | (apply Walk.drawN (id := 15) tab_ok mixed_ok [] [] (hsU _) [_, _, _, _, _, _, _, _] (by kernel_rfl) rfl) | ((first | (with_reducible apply XNext.mk) | (refine XDrop.dskF ?_) | (refine XGetM.mk' hmg ?_) | (refine XCall.ret hct ?_) | (refine XArr.dryP q hq (by omega) ?_) | (refine XArr.dryM m' hm' (by omega) (by omega) ?_)); conv => whnf) | fail
          exact XAgainG.go (k + 1, q, m', a &&& drN s q m', w) [.cells (sgA (l.getD k default)).cells] ⟨by dsimp only; omega, by dsimp only; omega, by dsimp only; omega, by dsimp only; omega, by dsimp only; omega, hs⟩ (by dsimp only; omega) rfl ⟨rfl, rfl, rfl, rfl, congrArg (fun z => some (AV.int .i64 z)) hm', congrArg (fun z => some (AV.int .i64 z)) hand, rfl, rfl, congrArg (fun z => some (AV.int .i64 z)) hq, rfl, trivial⟩
      · rw [if_neg (fun h => hle h.2)] at hs
        repeat' first | ((with_reducible apply XBr.tt); conv => whnf) | (with_reducible apply XBr.not) | ((with_reducible apply XBr.dec) <;> (intro h; first | (exfalso; omega) | ((try simp only [List.length_map] at h); first | (exfalso; omega) | (conv => whnf)))) | ((first | (with_reducible refine XInt.i64 (by omega) (by omega) ?_) | ((with_reducible refine XIx.nat ?_ ?_ ?_); omega; (intro _; rfl))); conv => whnf) | (with_reducible apply XAnd.mk) | ((first | (with_reducible apply Chk.go) | (with_reducible apply ChkA.go) | (with_reducible apply ChkF.go) | (with_reducible apply ChkB.go)); conv => whnf) | (exact XSame.mk rfl rfl) | (with_reducible exact trivial) | (apply Walk.drawN (id := 11) tab_ok mixed_ok [] [] (hsU _) [_, _, _, _, _, _, _, _, _, _, _, _, _, _, _, _, _, _] (by kernel_rfl) rfl) | ((first | (with_reducible apply XNext.mk) | (refine XDrop.dskF ?_) | (refine XGetM.mk' hmg ?_) | (refine XCall.ret hct ?_)); conv => whnf) | fail
        rw [hfr, hs]
        exact ⟨.low rfl⟩
  obtain rfl : k = l.length := by omega
  rw [List.drop_length, fixS] at hs
  have hfr2 : fixR s m0 l = (if (p : Int) = s.home then a else 0, w) := by rw [hfr, hs]
  by_cases hph : (p : Int) = s.home
  · rw [if_pos hph] at hfr2
    repeat' first | ((with_reducible apply XBr.dec) <;> (intro h; first | (exfalso; omega) | ((try simp only [List.length_map] at h); first | (exfalso; omega) | (conv => whnf)))) | ((with_reducible apply XBr.bne) <;> (intro h; first | (exfalso; omega) | (conv => whnf))) | fail
    rw [hfr2, hs]
    exact ⟨.low rfl⟩
  · rw [if_neg hph] at hfr2
    repeat' first | ((with_reducible apply XBr.dec) <;> (intro h; first | (exfalso; omega) | ((try simp only [List.length_map] at h); first | (exfalso; omega) | (conv => whnf)))) | ((with_reducible apply XBr.bne) <;> (intro h; first | (exfalso; omega) | (conv => whnf))) | fail
    rw [hfr2, hs]
    exact ⟨.low rfl⟩
end GA
end

section
namespace GA
open Go Go.RowKit Go.Proofs
set_option maxRecDepth 8000
set_option linter.unusedVariables false
set_option linter.unusedSimpArgs false

theorem fixS_w {s : Sn} : ∀ {l : List (Int × Int)} {p m a w p' m' a' w' : Nat}, fixS s p m a w l = some (p', m', a', w') → w ≤ w' ∧ a' &&& a = a'
  | [], p, m, a, w, p', m', a', w', h => by
    cases h
    exact ⟨Nat.le_refl _, Nat.and_self _⟩
  | t :: l, p, m, a, w, p', m', a', w', h => by
    rw [fixS] at h
    split at h
    · obtain ⟨h1, h2⟩ := fixS_w h
      refine ⟨?_, ?_⟩
      · split at h1 <;> omega
      · rw [← h2]
        refine bit_ext fun i => ?_
        simp only [Nat.testBit_and]
        cases a'.testBit i <;> cases a.testBit i <;> simp
    · cases h
def subN (L a : Nat) : Prop := ∀ i, L.testBit i = true → a.testBit i = true
theorem parts_ne {s : Sn} (ok : SnOk s) {p L : Nat} (hp : (p : Int) < s.places) (hL : L ≠ 0) (hLt : ∀ i, L.testBit i = true → i < s.truths.length) : partsL s p L ≠ [] := by
  obtain ⟨j, hj⟩ : ∃ j, L.testBit j = true := by
    refine Classical.byContradiction fun h => hL (bit_ext fun j => ?_)
    rw [Nat.zero_testBit]
    cases hb : L.testBit j with
    | false => rfl
    | true => exact absurd ⟨j, hb⟩ h
  obtain ⟨n, -, -, h, -⟩ := parts_has ok hp (by rw [ok.k1]; exact hLt j hj) hj
  exact List.ne_nil_of_mem h
theorem fix_le {s : Sn} (ok : SnOk s) : ∀ {l : List (Int × Int)} {p m a w p' m' a' w' : Nat} (L : Nat), fixS s p m a w l = some (p', m', a', w') → (p' : Int) = s.home → (m : Int) ≤ s.last → L ≠ 0 → subN L a' → subN a (drN s p m) → (w' : Int) - w ≤ worthZ s ⟨p, m, L⟩ ∧ safeB s ⟨p, m, L⟩ = true
  | [], p, m, a, w, p', m', a', w', L, h, hh, hm, hL, hs, hd => by
    cases h
    have hsf : safeB s ⟨p, m, L⟩ = true := safeB_iff.2 ⟨hL, fun i hi => by
      have := hd i (hs i hi)
      rw [drN_bit, Bool.and_eq_true, decide_eq_true_eq] at this
      exact this⟩
    refine ⟨?_, hsf⟩
    rw [worthZ_eq ok hm]
    have := (bestZ_step (f := worthZ s) hsf).1
    have e : homeZ s ⟨p, m, L⟩ = 0 := if_pos hh
    omega
  | t :: l, p, m, a, w, p', m', a', w', L, h, hh, hm, hL, hs, hd => by
    have hsub := (fixS_w h).2
    have hsa : subN L a := fun i hi => by
      have h1 := hs i hi
      rw [← hsub, Nat.testBit_and, Bool.and_eq_true] at h1
      exact h1.2
    have hsf : safeB s ⟨p, m, L⟩ = true := safeB_iff.2 ⟨hL, fun i hi => by
      have := hd i (hsa i hi)
      rw [drN_bit, Bool.and_eq_true, decide_eq_true_eq] at this
      exact this⟩
    refine ⟨?_, hsf⟩
    rw [fixS] at h
    split at h
    · rename_i hc
      obtain ⟨hc1, hc2⟩ := hc
      have hw := waysL_pos ok (List.contains_iff_mem.1 hc1)
      have hmm : (((m : Int) + t.2).toNat : Int) = m + t.2 := by omega
      have hwm := fixS_w h
      have ih := fun L' hL' (hs' : subN L' a') => fix_le ok (l := l) L' h hh (by omega) hL' hs' (fun i hi => by
        rw [Nat.testBit_and, Bool.and_eq_true] at hi; exact hi.2)
      have hpt : ((t.1.toNat : Nat) : Int) < s.places := by omega
      have hout : ∀ y ∈ outS s ⟨p, m, L⟩ t, safeB s y = true ∧ (w' : Int) - (if (p : Int) = s.bed ∧ t.1 = p then w + 1 else w : Nat) ≤ worthZ s y := fun y hy => by
        obtain ⟨q1, q2, q3⟩ := outS_mem.1 hy
        dsimp only at q2 q3
        obtain ⟨n, hn, hl', hne⟩ := partsL_mem.1 q3
        have := ih y.l hne (fun i hi => by
          rw [hl', partN_bit] at hi
          simp only [Bool.and_eq_true] at hi
          exact hs i hi.2.2)
        have e : y = ⟨t.1.toNat, ((m : Int) + t.2).toNat, y.l⟩ := by cases y; dsimp only at q1 q2 ⊢; rw [q1, q2]
        rw [e]; exact ⟨this.2, this.1⟩
      have hne : outS s ⟨p, m, L⟩ t ≠ [] := by
        have hp := parts_ne ok (p := t.1.toNat) hpt hL fun i hi => ((safeB_iff.1 hsf).2 i hi).1
        unfold outS
        exact fun e => hp (List.map_eq_nil_iff.1 e)
      have hin : inZ ((m : Int) + t.2) 0 s.last = true := inZ_iff.2 ⟨by omega, hc2⟩
      have haf : afterS s ⟨p, m, L⟩ t = outS s ⟨p, m, L⟩ t := by
        unfold afterS
        rw [if_pos ⟨hsf, hin, hc1, List.all_eq_true.2 fun y hy => (hout y hy).1⟩]
      have hmin := minL_ge (f := worthZ s) (l := outS s ⟨p, m, L⟩ t) hne fun y hy => (hout y hy).2
      have hg := (bestZ_step (f := worthZ s) hsf).2.1 t (by rw [haf]; exact hne)
      rw [worthZ_eq ok hm]
      refine Int.le_trans ?_ hg
      unfold gainZ
      rw [haf]
      dsimp only
      have hw1 := hwm.1
      split at hw1 <;> rename_i hb
      · rw [if_pos hb] at hmin
        rw [if_pos ⟨by omega, hb.1, by rw [hb.2]; exact hb.1⟩]; omega
      · rw [if_neg hb] at hmin
        split <;> omega
    · cases h
theorem fixS_app {s : Sn} {l2 : List (Int × Int)} : ∀ {l : List (Int × Int)} {p m a w p' m' a' w' : Nat}, fixS s p m a w l = some (p', m', a', w') → fixS s p m a w (l ++ l2) = fixS s p' m' a' w' l2
  | [], p, m, a, w, p', m', a', w', h => by cases h; rfl
  | t :: l, p, m, a, w, p', m', a', w', h => by
    rw [fixS] at h
    split at h
    · rename_i hc
      rw [List.cons_append, fixS, if_pos hc]; exact fixS_app h
    · cases h
end GA
end

section
namespace GA
open Go Go.RowKit Go.Proofs
set_option maxRecDepth 8000
set_option linter.unusedVariables false
set_option linter.unusedSimpArgs false

def startZ (s : Sn) (m : Nat) : Int := (partsL s s.home.toNat (allN s)).foldl (fun n l => min n (worthZ s ⟨s.home.toNat, m, l⟩)) 60
theorem startZ_le (s : Sn) (m : Nat) : startZ s m ≤ 60 ∧ ∀ l ∈ partsL s s.home.toNat (allN s), startZ s m ≤ worthZ s ⟨s.home.toNat, m, l⟩ := (foldl_min_prop (f := fun l => worthZ s ⟨s.home.toNat, m, l⟩)).2
theorem startZ_ge {s : Sn} {m : Nat} {c : Int} (h0 : c ≤ 60) (h : ∀ l ∈ partsL s s.home.toNat (allN s), c ≤ worthZ s ⟨s.home.toNat, m, l⟩) : c ≤ startZ s m := by
  rcases (foldl_min_prop (f := fun l => worthZ s ⟨s.home.toNat, m, l⟩) (l := partsL s s.home.toNat (allN s)) (b := 60)).1 with e | ⟨l, hl, e⟩
  · unfold startZ; rw [e]; exact h0
  · unfold startZ; rw [e]; exact h l hl
theorem allN_bit (s : Sn) (i : Nat) : (allN s).testBit i = decide (i < s.truths.length) := by unfold allN; exact Nat.testBit_two_pow_sub_one _ _
structure Wider (s u : Sn) : Prop where
  places : s.places = u.places
  home : s.home = u.home
  bed : s.bed = u.bed
  last : s.last = u.last
  ways : s.ways = u.ways
  tr : s.truths.length = u.truths.length
  dry : ∀ i p m, dryT s i p m = true → dryT u i p m = true
  look : ∀ i j p, i < s.truths.length → j < s.truths.length → lookZ u i p = lookZ u j p → lookZ s i p = lookZ s j p
theorem Wider.waysL {s u : Sn} (e : Wider s u) (p : Nat) : waysL s p = waysL u p := by
  unfold GA.waysL
  rw [e.places]
  have : ∀ k, waysK s p k = waysK u p k := fun k => by
    induction k with
    | zero => rfl
    | succ k ih => rw [waysK, waysK, ih]; unfold waysQ; rw [e.ways]
  exact this _
theorem Wider.emb {s u : Sn} (ok : SnOk s) (e : Wider s u) : Emb s u id id fun i => i < s.truths.length := by
  refine ⟨e.last, fun p h => by show (p : Int) < u.places; rw [← e.places]; exact h, fun p h => by rw [← e.home]; exact h, fun p h => by rw [← e.bed]; exact h, fun p t hp ht => ?_, fun i hi => ⟨hi, by show i < _; rw [← e.tr]; exact hi⟩, fun i p m _ h => e.dry i p m h, fun i j p hi hj h => e.look i j p hi hj h⟩
  have hw := waysL_pos ok ht
  rw [e.waysL] at ht
  show (((t.1.toNat : Nat) : Int), t.2) ∈ GA.waysL u p
  rw [Int.toNat_of_nonneg hw.2.2.1]; exact ht
theorem Wider.worth {s u : Sn} (oks : SnOk s) (oku : SnOk u) (e : Wider s u) {p m B A : Nat} (hm : (m : Int) ≤ s.last) (hp : (p : Int) < s.places) (hA : A ≠ 0) (hB : ∀ i, B.testBit i = true → i < s.truths.length) (hAB : ∀ i, A.testBit i = true → B.testBit i = true) : worthZ s ⟨p, m, B⟩ ≤ worthZ u ⟨p, m, A⟩ :=
  worth_mono oks oku (e.emb oks) _ p m B A (Nat.le_refl _) hm hp hA hB fun j hj => ⟨j, hAB j hj, rfl⟩
theorem part_B {s : Sn} (ok : SnOk s) {p left l : Nat} (h : l ∈ partsL s p left) : l ≠ 0 ∧ ∀ i, l.testBit i = true → i < s.truths.length ∧ left.testBit i = true := by
  obtain ⟨n, -, e, hne⟩ := partsL_mem.1 h
  refine ⟨hne, fun i hi => ?_⟩
  rw [e, partN_bit] at hi
  simp only [Bool.and_eq_true, decide_eq_true_eq] at hi
  rw [ok.k1] at hi
  exact ⟨hi.1, hi.2.2⟩
theorem Wider.start {s u : Sn} (oks : SnOk s) (oku : SnOk u) (e : Wider s u) {m : Nat} (hm : (m : Int) ≤ s.last) : startZ s m ≤ startZ u m := by
  refine startZ_ge (startZ_le s m).1 fun l hl => ?_
  obtain ⟨hne, hlB⟩ := part_B oku hl
  have h1 := oks.h1
  obtain ⟨j, hj⟩ := bit_some hne
  have hj' := hlB j hj
  have hjs : j < s.looks.length := by rw [oks.k1, e.tr]; exact hj'.1
  obtain ⟨n, hn, hlk, hpm, hb⟩ := parts_has oks (p := s.home.toNat) (left := allN s) (by omega) hjs (by rw [allN_bit]; exact decide_eq_true (by rw [← oks.k1]; exact hjs))
  refine Int.le_trans ((startZ_le s m).2 _ hpm) ?_
  rw [← e.home]
  obtain ⟨k, -, ek, -⟩ := partsL_mem.1 hl
  have hbits : ∀ i, l.testBit i = true → i < s.truths.length ∧ lookZ u i u.home.toNat = (k : Nat) := fun i hi => by
    rw [ek, partN_bit] at hi
    simp only [Bool.and_eq_true, decide_eq_true_eq, beq_iff_eq] at hi
    rw [oku.k1, ← e.tr] at hi
    exact ⟨hi.1, hi.2.1⟩
  refine e.worth oks oku hm (by omega) hne (fun i hi => ?_) fun i hi => ?_
  · rw [partN_bit, Bool.and_eq_true, decide_eq_true_eq, oks.k1] at hi
    exact hi.1
  · have hi' := hbits i hi
    have hj2 := hbits j hj
    have hll := e.look i j s.home.toNat hi'.1 hj2.1 (by rw [e.home, hi'.2, hj2.2])
    rw [partN_bit, hll, hlk, allN_bit, decide_eq_true hi'.1, decide_eq_true (by rw [oks.k1]; exact hi'.1)]
    simp
where
  bit_some {l : Nat} (h : l ≠ 0) : ∃ j, l.testBit j = true := by
    refine Classical.byContradiction fun h' => h (bit_ext fun j => ?_)
    rw [Nat.zero_testBit]
    cases hb : l.testBit j with
    | false => rfl
    | true => exact absurd ⟨j, hb⟩ h'
end GA
end

section
namespace GA
open Go Go.RowKit Go.Proofs
set_option maxRecDepth 8000
set_option linter.unusedVariables false
set_option linter.unusedSimpArgs false

theorem XGet.to {els : List AV} {n e : Nat} {k : List AV → Prop} (v : AV) (h1 : n = els.length) (h2 : e < n) (hv : els.getD e default = v) (h : k v.cells) : XGet els n e k := ⟨h1, h2, by rw [hv]; exact h⟩
theorem XPut.to {els : List AV} {n e : Nat} {v : AV} {k : List AV → Prop} (els' : List AV) (h1 : n = els.length) (h2 : e < n) (hv : els.set e v = els') (h : k els') : XPut els n e v k := ⟨h1, h2, by rw [hv]; exact h⟩
theorem XRun.heap {P : Program} {T : Tab} {N : Nat} {r : Option Nat} {own : List Nat} {c : Code} {Q : Post} {D : List Nat} {σ : St} {H : List Blk} (H' : List Blk) (h : H' = H) (x : XRun P T N r own c Q D σ H') : XRun P T N r own c Q D σ H := h ▸ x
end GA
end

section
namespace GA
open Go Go.RowKit Go.Proofs
set_option pp.deepTerms true
set_option maxRecDepth 8000
set_option linter.unusedVariables false
set_option linter.unusedSimpArgs false

structure XEndE (P : Program) (n : Nat) (H : List Blk) (r' : AV) (k : AV → List Blk → Prop) : Prop where
  o : ∃ r H1, XEnd P n H r' r H1 ∧ k r H1
theorem ACall.bodyE {P : Program} {T : Tab} {N : Nat} {H : List Blk} {f : FuncId} {fn : Func} {c : Code} {rs : List AV} {res : List ResultVar} {k : AV → List Blk → Prop} (ok : TabOk P T) (own : List Nat) (hf : P.funcs[f]? = some fn) (hb : fn.body = some c) (hn : (fn.name == "runtime.NumGoroutine") = false)
    (hN : fn.ntmps = N) (hr : fn.results = res.toArray) (hl : rs.length ≤ N)
    (x : XRun P T N none own c (XIn T res fun r' H' => XEndE P H.length H' r' k) [] (argX rs) H) : ACall P f rs H k := by
  obtain ⟨h1, h2⟩ := ACall.inl ok own hf hb hn hN hr hl x
  refine ⟨h1, fun E h β w vs s hrs => (h2 E h β w vs s hrs).mono ?_⟩
  rintro e w' ⟨r', H', h', β', v, rfl, ⟨r, H1, ⟨g1, g2, g3, g4⟩, hk⟩, X, s', hrep⟩
  have hH : H' = H1 ++ H'.drop H.length := by rw [← g1, List.take_append_drop]
  rw [hH] at s' X hrep g4
  have s2 := s'.allN (by rw [g2]; exact g3)
  have X2 : Ext h β H h' β' H1 := X.cut (by omega)
  rw [g2] at s2
  exact ⟨r, H1, _, β', v, rfl, hk, ⟨fun b o e => hallN_imm s' (X2.imm b o e), by omega, X2.to⟩, s2, g4 E h' β' w' s' v hrep H1⟩
def HpE (f : FuncId) (qs : List AV) (h : Hp) (Φ : AV → Hp → Prop) : Prop :=
  lowL 0 qs = true ∧ ACall Try.prog f (.ptr 0 0 :: qs) [hpC h] fun r' H' => ∃ r h', r.low 0 = true ∧ Φ r h' ∧ r' = r ∧ H' = [hpC h']
theorem XCall.hpE {f : FuncId} {qs : List AV} {h : Hp} {Φ : AV → Hp → Prop} (x : HpE f qs h Φ) {H : List Blk} {k : AV → List Blk → Prop} {j : Nat} (h0 : lget H j = some (hpC h))
    (hk : ∀ r h', Φ r h' → k r (H.set j (hpC h'))) : XCall Try.prog f (.ptr j 0 :: qs) H k := by
  constructor
  have e := ACall.frame (ρ := fun i => j + i) (H := H) (k := k) x.2 (fun a b _ _ h => by have : j + a = j + b := h; omega) ?_ (fun y hy => by simp at hy; subst hy; exact hpC_low h) ?_ ?_
  · have hd : renL (fun i => j + i) qs = qs := renL_low0 x.1
    rw [List.map_cons, ← renL_eq, hd] at e
    exact e
  · intro i x1 hi
    rw [lget_eq] at h0
    rcases i with _ | i
    · simp only [List.getElem?_cons_zero, Option.some.injEq] at hi; subst hi
      rw [hpC_ren]; exact h0
    · simp at hi
  · simp only [lowL, AV.low, lowL_mono (Nat.zero_le _) x.1]; rfl
  · rintro r1 H1' ⟨r, h', hr, hΦ, rfl, rfl⟩
    rw [lget_eq] at h0
    have hj := (List.getElem?_eq_some_iff.1 h0).1
    refine ⟨rfl, H.set j (hpC h'), by simp, fun i x1 hi => ?_, fun q hq => ?_, ?_⟩
    · rcases i with _ | i
      · simp only [List.getElem?_cons_zero, Option.some.injEq] at hi; subst hi
        rw [hpC_ren]; simp [hj]
      · simp at hi
    · exact List.getElem?_set_ne (by have := hq 0 (by simp); simpa using this)
    · rw [AV.ren_low (n := 0) (fun i hi => by omega) hr]; exact hk _ _ hΦ
theorem upto_e (u : Hp) (n : Int) (o : u.Ok) (h1 : -100000 ≤ n) (h2 : n ≤ 100000) : ∃ z u', (0 ≤ z ∧ z ≤ max 0 n) ∧ Hp.Ok u' ∧ HpOk 14 [.int .i64 n] u (.int .i64 z) u' :=
  ⟨_, _, modV_bound u n, hpS_ok o, upto_c u n o h1 h2⟩
theorem from_e (u : Hp) (lo hi : Int) (o : u.Ok) (h1 : -10000 ≤ lo) (h2 : lo ≤ 10000) (h3 : -10000 ≤ hi) (h4 : hi ≤ 10000) : ∃ z u', (lo ≤ z ∧ z ≤ max lo hi) ∧ Hp.Ok u' ∧ HpOk 46 [.int .i64 lo, .int .i64 hi] u (.int .i64 z) u' :=
  ⟨_, _, by have := modV_bound u (hi - lo); omega, hpS_ok o, from_c u lo hi o h1 h2 h3 h4⟩
theorem once_e (u : Hp) (n : Int) (o : u.Ok) (h1 : -10000 ≤ n) (h2 : n ≤ 10000) : ∃ b u', Hp.Ok u' ∧ HpOk 59 [.int .i64 n] u (.bool b) u' :=
  ⟨_, _, hpS_ok o, once_c u n o h1 h2⟩
structure MkOk (s : Sn) (last : Int) : Prop where
  ok : SnOk s
  b : SnB s
  p : 2 ≤ s.places
  h : s.home = 0
  l1 : 4 ≤ s.last
  l2 : s.last ≤ last
  b1 : 1 ≤ s.bed
structure WyOk (P p : Int) (W : List Wy) : Prop where
  w : ∀ w ∈ W, 1 ≤ w.2.2 ∧ w.2.2 ≤ 5 ∧ ((w.1 = w.2.1 - 1 ∧ 1 ≤ w.2.1 ∧ w.2.1 < p) ∨ (0 ≤ w.2.1 ∧ w.2.1 ≤ w.1 - 2 ∧ w.1 < p))
  n : ∀ i, i < W.length → ((W.getD i default).1 == (W.getD i default).2.1 || (W.take i).any fun x => leadB x (W.getD i default).1 (W.getD i default).2.1) = false
  l : (W.length : Int) ≤ 2 * (p - 1)
theorem WyOk.nil {P : Int} : WyOk P 1 [] := ⟨by simp, fun i hi => by simp at hi, by simp⟩
theorem rep_app {W : List Wy} {w : Wy} (h : ∀ i, i < W.length → ((W.getD i default).1 == (W.getD i default).2.1 || (W.take i).any fun x => leadB x (W.getD i default).1 (W.getD i default).2.1) = false) (h1 : w.1 ≠ w.2.1) (h2 : ∀ x ∈ W, leadB x w.1 w.2.1 = false) :
    ∀ i, i < (W ++ [w]).length → (((W ++ [w]).getD i default).1 == ((W ++ [w]).getD i default).2.1 || ((W ++ [w]).take i).any fun x => leadB x ((W ++ [w]).getD i default).1 ((W ++ [w]).getD i default).2.1) = false := by
  intro i hi
  rw [List.length_append, List.length_singleton] at hi
  by_cases e : i < W.length
  · have e1 : (W ++ [w]).getD i default = W.getD i default := by rw [List.getD_eq_getElem?_getD, List.getD_eq_getElem?_getD, List.getElem?_append_left e]
    rw [e1, List.take_append_of_le_length (by omega)]
    exact h i e
  · have e0 : i = W.length := by omega
    have e1 : (W ++ [w]).getD i default = w := by rw [List.getD_eq_getElem?_getD, e0, List.getElem?_append_right (Nat.le_refl _), Nat.sub_self]; rfl
    rw [e1, e0, List.take_append_of_le_length (Nat.le_refl _), List.take_length, Bool.or_eq_false_iff]
    refine ⟨by simpa using h1, ?_⟩
    rw [List.any_eq_false]
    intro x hx
    rw [h2 x hx]; simp
theorem WyOk.one {P p m : Int} {W : List Wy} (h : WyOk P p W) (hp : 1 ≤ p) (h1 : 1 ≤ m) (h2 : m ≤ 5) : WyOk P (p + 1) (W ++ [(p - 1, p, m)]) := by
  refine ⟨fun w hw => ?_, rep_app h.n (by dsimp only; omega) fun x hx => ?_, ?_⟩
  · rcases List.mem_append.1 hw with hw | hw
    · have := h.w w hw; omega
    · rw [List.mem_singleton] at hw; subst hw; dsimp only; omega
  · rw [← Bool.not_eq_true, leadB_iff]
    have := h.w x hx
    dsimp only; omega
  · have := h.l
    rw [List.length_append, List.length_singleton]; omega
theorem WyOk.two {P p q m m2 : Int} {W : List Wy} (h : WyOk P p W) (hp : 1 ≤ p) (h1 : 1 ≤ m) (h2 : m ≤ 5) (h3 : 1 ≤ m2) (h4 : m2 ≤ 5) (hq : 0 ≤ q) (hq2 : q ≤ p - 2) : WyOk P (p + 1) ((W ++ [(p - 1, p, m)]) ++ [(p, q, m2)]) := by
  have h' := h.one hp h1 h2
  refine ⟨fun w hw => ?_, rep_app h'.n (by dsimp only; omega) fun x hx => ?_, ?_⟩
  · rcases List.mem_append.1 hw with hw | hw
    · exact h'.w w hw
    · rw [List.mem_singleton] at hw; subst hw; dsimp only; omega
  · rw [← Bool.not_eq_true, leadB_iff]
    dsimp only
    rcases List.mem_append.1 hx with hx | hx
    · have := h.w x hx; omega
    · rw [List.mem_singleton] at hx; subst hx; dsimp only; omega
  · have := h.l
    rw [List.length_append, List.length_append, List.length_singleton, List.length_singleton]; omega
theorem mk_ok {P bed last lim : Int} {W : List Wy} {looks : List Rw} {truths : List Tru} {nw nk nt : Bool} (hP : 2 ≤ P ∧ P ≤ 5) (hb : 1 ≤ bed ∧ bed ≤ P - 1) (hl : 4 ≤ last ∧ last ≤ lim) (hlim : lim ≤ 60) (hW : WyOk P P W)
    (hk : ∀ r ∈ looks, (r.2.length : Int) = P ∧ ∀ n ∈ r.2, 0 ≤ n ∧ n ≤ 3) (ht : ∀ t ∈ truths, (t.2.length : Int) = P ∧ ∀ r ∈ t.2, spE last none r.2 = 0 ∧ r.2.length ≤ 2) (hkl : looks.length = truths.length) (ht1 : 1 ≤ truths.length) (ht2 : truths.length ≤ 4) :
    MkOk ⟨P, 0, bed, last, nw, W, nk, looks, nt, truths⟩ lim := by
  have hwl := hW.l
  refine ⟨⟨by dsimp only; omega, by dsimp only; omega, ht1, ht2, by dsimp only; omega, hkl, fun l h => (hk l h).1, fun t h => (ht t h).1, by dsimp only; omega, by dsimp only; omega, fun w hw => ?_, fun l h n hn => (hk l h).2 n hn, by dsimp only; omega, by dsimp only; omega, fun w hw => ?_, by dsimp only; omega, hW.n, fun t h r hr => ((ht t h).2 r hr).1⟩,
    ⟨by dsimp only; omega, by dsimp only; omega, by dsimp only; omega, fun r h => by have := (hk r h).1; omega, fun t h => by have := (ht t h).1; omega, fun t h r hr => by have := ((ht t h).2 r hr).2; omega⟩, hP.1, rfl, hl.1, hl.2, hb.1⟩
  · have := hW.w w hw; first | omega | (dsimp only; omega)
  · have := hW.w w hw; first | omega | (dsimp only; omega)
theorem sp_one {last lo hi : Int} (h1 : 0 ≤ lo) (h2 : lo ≤ hi) (h3 : hi ≤ last) : spE last none [(lo, hi)] = 0 := by
  rw [spE, spE]
  rw [if_neg (by rw [inZ_iff.2 ⟨h1, by first | omega | (dsimp only; omega)⟩, inZ_iff.2 ⟨h2, h3⟩]; simp), if_neg (by simp [spBad])]
theorem sp_two {last lo cut hi : Int} (h1 : 0 ≤ lo) (h2 : lo + 1 < cut) (h3 : cut < hi - 1) (h4 : hi ≤ last) : spE last none [(lo, cut - 1), (cut + 1, hi)] = 0 := by
  rw [spE, spE, spE]
  rw [if_neg (by rw [inZ_iff.2 ⟨h1, by first | omega | (dsimp only; omega)⟩, inZ_iff.2 ⟨by first | omega | (dsimp only; omega), by first | omega | (dsimp only; omega)⟩]; simp), if_neg (by simp [spBad]), if_neg (by rw [inZ_iff.2 ⟨by first | omega | (dsimp only; omega), by first | omega | (dsimp only; omega)⟩, inZ_iff.2 ⟨by first | omega | (dsimp only; omega), by first | omega | (dsimp only; omega)⟩]; simp), if_neg (by show ¬ decide (cut + 1 ≤ cut - 1 + 1) = true; simp; omega)]
end GA
end

section
namespace GA
open Go Go.RowKit Go.Proofs
set_option pp.deepTerms true
set_option maxRecDepth 8000
set_option linter.unusedVariables false
set_option linter.unusedSimpArgs false

def zSn : List AV := [.int .i64 0, .int .i64 0, .int .i64 0, .int .i64 0, .sl true [], .sl true [], .sl true []]
theorem ints_app (a b : List Int) : ints (a ++ b) = ints a ++ ints b := List.map_append
theorem hpLow {h : Hp} {x : Blk} (hx : x ∈ [hpC h]) : x.low 1 = true := by rw [List.mem_singleton] at hx; subst hx; exact hpC_low _
theorem Walk.heapE {P : Program} {N : Nat} {r : Option Nat} {c : Code} {Q : Post} {D : List Nat} {σ : St} {H : List Blk} (H' : List Blk) (h : H' = H) (x : Walk P N r c Q D σ H') : Walk P N r c Q D σ H := h ▸ x
set_option maxHeartbeats 8000000 in
theorem fordMade_c (u : Hp) (last : Int) (o : u.Ok) (hl1 : 4 ≤ last) (hl2 : last ≤ 60) : HpE 12 [.int .i64 last] u fun r u' => ∃ s, r = snA s ∧ MkOk s last ∧ u'.Ok := by
  refine ⟨rfl, ?_⟩
  obtain ⟨P, u1, hP, o1, hc1⟩ := from_e u 2 5 o (by omega) (by omega) (by omega) (by omega)
  have hmn : min 4 last = 4 := by omega
  obtain ⟨L, u2, hL, o2, hc2⟩ := from_e u1 4 last o1 (by omega) (by omega) (by omega) (by omega)
  obtain ⟨bd, u3, hbd, o3, hc3⟩ := from_e u2 1 (P - 1) o2 (by omega) (by omega) (by omega) (by omega)
  rw [← hmn] at hc2
  refine ACall.bodyE (T := tab) (res := [.cell 4 27]) tab_ok [] Try.func12 rfl (by kernel_rfl) Try.ntmps12 rfl (by simp only [List.length_cons, List.length_nil]; decide) ?_; conv => whnf
  repeat' first | ((with_reducible first | apply XBr.tt | apply XBr.ff | apply Chk.go | apply ChkA.go | apply ChkF.go | apply ChkB.go | apply XArr.pim0 | apply XArr.pim1); conv => whnf) | (with_reducible apply XBr.not) | ((with_reducible apply XBr.dec) <;> (intro h; first | (exfalso; omega) | ((try simp only [List.length_map] at h); first | (exfalso; omega) | (conv => whnf)))) | ((with_reducible first | apply XBr.beq | apply XBr.bne) <;> (intro h; first | (exfalso; omega) | (conv => whnf))) | ((with_reducible refine XInt.i64 (by omega) (by omega) ?_); conv => whnf) | ((with_reducible refine XHold.mk ?_ ?_); (first | omega | rfl | decide | exact ⟨rfl, by decide, rfl⟩ | exact wideI _ | exact widePr _ | exact wideSk _ | (unfold Room; constructor <;> ((try simp) <;> omega)) | exact ⟨rfl, by simp only [List.length_map], by unfold Room; constructor <;> ((try simp) <;> omega)⟩ | exact ⟨by omega, by omega, by unfold Room; constructor <;> ((try simp) <;> omega)⟩); conv => whnf) | ((first | ((with_reducible refine XIx.nat ?_ ?_ ?_); omega; (intro _; rfl)) | ((with_reducible refine XIx.map ?_ ?_ ?_ ?_); omega; omega; (intro _; rfl))); conv => whnf) | (with_reducible apply XAnd.mk) | (exact XSame.mk rfl rfl) | (exact XSame.mk (by first | rfl | (simp only [List.map_append, List.length_append, List.length_map]; done) | (simp only [List.map_append, List.length_append, List.length_map]; rfl)) (by first | rfl | (simp only [List.map_append]; done) | (simp only [List.map_append]; rfl))) | (with_reducible exact trivial) | ((first | (with_reducible refine xdrop_app (by rw [List.length_map]; omega) ?_) | (with_reducible refine XDrop.desk (by assumption) ?_) | (with_reducible first | refine XArr.ints (by omega) (by omega) (by omega) ?_ | refine XArr.intsA (by omega) (by omega) (by omega) ?_) | ((with_reducible first | refine XArr.nats ?_ ?_ ?_ | refine XArr.natsA ?_ ?_ ?_ | refine XArr.ptr ?_ ?_ ?_); omega; omega)); conv => whnf) | (apply Walk.drawN (id := 6) tab_ok mixed_ok [] [6, 9, 11] (hsC [_, _, _, _]) [_, _, _, _, _, _, _, _, _, _, _, _] (by kernel_rfl) rfl) | (apply Walk.drawN (id := 17) tab_ok mixed_ok [] [1, 8] (hsC [_, _, _]) [_, _, _, _, _, _, _, _, _, _, _, _] (by kernel_rfl) rfl) | (apply Walk.drawN (id := 19) tab_ok mixed_ok [] [] (hsU _) [_, _, _, _] (by kernel_rfl) rfl) | ((first | (with_reducible apply XNext.mk) | (refine XCall.hp (j := 0) hc1 rfl rfl ?_) | (refine XCall.hp (j := 0) hc2 rfl rfl ?_) | (refine XCall.hp (j := 0) hc3 rfl rfl ?_)); conv => whnf) | ((with_reducible apply XBr.mk') <;> (intro h; conv => whnf))
  refine Walk.nilcell 2 4 86 rfl rfl ?_
  refine Walk.heapE [hpC u3, .cells zSn, .cells [.int .i64 P, .int .i64 0, .int .i64 bd, .int .i64 L, .gr 3 0, .sl true [], .sl true []], .grow 86 true []] rfl ?_
  clear hc1 hc2 hc3 hmn o o1 o2
  refine Walk.loopK tab_ok [] [(0, _), (4, _), (5, _)] ⟨rfl, rfl, rfl, trivial⟩ (fun g : Nat × List Wy × Hp => (1 ≤ g.1 ∧ (g.1 : Int) ≤ P) ∧ g.2.2.Ok ∧ WyOk P g.1 g.2.1) (fun g => [(6, natA g.1)]) (fun g => [hpC g.2.2, .cells zSn, .cells [.int .i64 P, .int .i64 0, .int .i64 bd, .int .i64 L, .gr 3 g.2.1.length, .sl true [], .sl true []], .grow 86 g.2.1.isEmpty (g.2.1.map wyA)]) (fun g => P.toNat - g.1) (1, [], u3) ⟨⟨Nat.le_refl _, by dsimp only; omega⟩, o3, WyOk.nil⟩ rfl ⟨rfl, trivial⟩ ?_
  clear o3
  rintro ⟨p, W, v⟩ ⟨⟨hp1, hp2⟩, ov, hW⟩
  dsimp only at hp1 hp2 ov hW ⊢
  have hWl := hW.l
  have hWm : (W.map wyA).length = W.length := List.length_map _
  conv => whnf
  by_cases hlt : (p : Int) < P
  · obtain ⟨m1, v1, hm1, ov1, hd1⟩ := from_e v 1 3 ov (by omega) (by omega) (by omega) (by omega)
    have hW1 := hW.one (m := m1) (by omega) (by omega) (by omega)
    by_cases hp : 1 < p
    · obtain ⟨b, v2, ov2, hd2⟩ := once_e v1 3 ov1 (by omega) (by omega)
      cases b with
      | false =>
        repeat' first | ((with_reducible first | apply XBr.tt | apply XBr.ff | apply Chk.go | apply ChkA.go | apply ChkF.go | apply ChkB.go | apply XArr.pim0 | apply XArr.pim1); conv => whnf) | (with_reducible apply XBr.not) | ((with_reducible apply XBr.dec) <;> (intro h; first | (exfalso; omega) | ((try simp only [List.length_map] at h); first | (exfalso; omega) | (conv => whnf)))) | ((with_reducible first | apply XBr.beq | apply XBr.bne) <;> (intro h; first | (exfalso; omega) | (conv => whnf))) | ((with_reducible refine XInt.i64 (by omega) (by omega) ?_); conv => whnf) | ((with_reducible refine XHold.mk ?_ ?_); (first | omega | rfl | decide | exact ⟨rfl, by decide, rfl⟩ | exact wideI _ | exact widePr _ | exact wideSk _ | (unfold Room; constructor <;> ((try simp) <;> omega)) | exact ⟨rfl, by simp only [List.length_map], by unfold Room; constructor <;> ((try simp) <;> omega)⟩ | exact ⟨by omega, by omega, by unfold Room; constructor <;> ((try simp) <;> omega)⟩); conv => whnf) | ((first | ((with_reducible refine XIx.nat ?_ ?_ ?_); omega; (intro _; rfl)) | ((with_reducible refine XIx.map ?_ ?_ ?_ ?_); omega; omega; (intro _; rfl))); conv => whnf) | (with_reducible apply XAnd.mk) | (exact XSame.mk rfl rfl) | (exact XSame.mk (by first | rfl | (simp only [List.map_append, List.length_append, List.length_map]; done) | (simp only [List.map_append, List.length_append, List.length_map]; rfl)) (by first | rfl | (simp only [List.map_append]; done) | (simp only [List.map_append]; rfl))) | (with_reducible exact trivial) | ((first | (with_reducible refine xdrop_app (by rw [List.length_map]; omega) ?_) | (with_reducible refine XDrop.desk (by assumption) ?_) | (with_reducible first | refine XArr.ints (by omega) (by omega) (by omega) ?_ | refine XArr.intsA (by omega) (by omega) (by omega) ?_) | ((with_reducible first | refine XArr.nats ?_ ?_ ?_ | refine XArr.natsA ?_ ?_ ?_ | refine XArr.ptr ?_ ?_ ?_); omega; omega)); conv => whnf) | (apply Walk.drawN (id := 6) tab_ok mixed_ok [] [6, 9, 11] (hsC [_, _, _, _]) [_, _, _, _, _, _, _, _, _, _, _, _] (by kernel_rfl) rfl) | (apply Walk.drawN (id := 17) tab_ok mixed_ok [] [1, 8] (hsC [_, _, _]) [_, _, _, _, _, _, _, _, _, _, _, _] (by kernel_rfl) rfl) | (apply Walk.drawN (id := 19) tab_ok mixed_ok [] [] (hsU _) [_, _, _, _] (by kernel_rfl) rfl) | ((first | (with_reducible apply XNext.mk) | (refine XCall.hp (j := 0) hd1 rfl rfl ?_) | (refine XCall.hp (j := 0) hd2 rfl rfl ?_)); conv => whnf) | ((refine XHold.mk ⟨rfl, hWm, by unfold Room; constructor <;> ((try simp) <;> omega)⟩ ?_); conv => whnf) | ((with_reducible apply XBr.mk') <;> (intro h; conv => whnf))
        refine XAgain.go (p + 1, W ++ [((p : Int) - 1, (p : Int), m1)], v2) ⟨⟨by dsimp only; omega, by dsimp only; omega⟩, ov2, hW1⟩ (by dsimp only; omega) ?_ ⟨rfl, rfl, rfl, rfl, trivial⟩
        dsimp only
        rw [List.length_append, isEmpty_app, List.map_append]; rfl
      | true =>
        obtain ⟨q, v3, hq, ov3, hd3⟩ := upto_e v2 ((p : Int) - 2) ov2 (by omega) (by omega)
        obtain ⟨m2, v4, hm2, ov4, hd4⟩ := from_e v3 1 5 ov3 (by omega) (by omega) (by omega) (by omega)
        have hW2 := hW.two (m := m1) (q := q) (m2 := m2) (by omega) (by omega) (by omega) (by omega) (by omega) (by omega) (by omega)
        repeat' first | ((with_reducible first | apply XBr.tt | apply XBr.ff | apply Chk.go | apply ChkA.go | apply ChkF.go | apply ChkB.go | apply XArr.pim0 | apply XArr.pim1); conv => whnf) | (with_reducible apply XBr.not) | ((with_reducible apply XBr.dec) <;> (intro h; first | (exfalso; omega) | ((try simp only [List.length_map] at h); first | (exfalso; omega) | (conv => whnf)))) | ((with_reducible first | apply XBr.beq | apply XBr.bne) <;> (intro h; first | (exfalso; omega) | (conv => whnf))) | ((with_reducible refine XInt.i64 (by omega) (by omega) ?_); conv => whnf) | ((with_reducible refine XHold.mk ?_ ?_); (first | omega | rfl | decide | exact ⟨rfl, by decide, rfl⟩ | exact wideI _ | exact widePr _ | exact wideSk _ | (unfold Room; constructor <;> ((try simp) <;> omega)) | exact ⟨rfl, by simp only [List.length_map], by unfold Room; constructor <;> ((try simp) <;> omega)⟩ | exact ⟨by omega, by omega, by unfold Room; constructor <;> ((try simp) <;> omega)⟩); conv => whnf) | ((first | ((with_reducible refine XIx.nat ?_ ?_ ?_); omega; (intro _; rfl)) | ((with_reducible refine XIx.map ?_ ?_ ?_ ?_); omega; omega; (intro _; rfl))); conv => whnf) | (with_reducible apply XAnd.mk) | (exact XSame.mk rfl rfl) | (exact XSame.mk (by first | rfl | (simp only [List.map_append, List.length_append, List.length_map]; done) | (simp only [List.map_append, List.length_append, List.length_map]; rfl)) (by first | rfl | (simp only [List.map_append]; done) | (simp only [List.map_append]; rfl))) | (with_reducible exact trivial) | ((first | (with_reducible refine xdrop_app (by rw [List.length_map]; omega) ?_) | (with_reducible refine XDrop.desk (by assumption) ?_) | (with_reducible first | refine XArr.ints (by omega) (by omega) (by omega) ?_ | refine XArr.intsA (by omega) (by omega) (by omega) ?_) | ((with_reducible first | refine XArr.nats ?_ ?_ ?_ | refine XArr.natsA ?_ ?_ ?_ | refine XArr.ptr ?_ ?_ ?_); omega; omega)); conv => whnf) | (apply Walk.drawN (id := 6) tab_ok mixed_ok [] [6, 9, 11] (hsC [_, _, _, _]) [_, _, _, _, _, _, _, _, _, _, _, _] (by kernel_rfl) rfl) | (apply Walk.drawN (id := 17) tab_ok mixed_ok [] [1, 8] (hsC [_, _, _]) [_, _, _, _, _, _, _, _, _, _, _, _] (by kernel_rfl) rfl) | (apply Walk.drawN (id := 19) tab_ok mixed_ok [] [] (hsU _) [_, _, _, _] (by kernel_rfl) rfl) | ((first | (with_reducible apply XNext.mk) | (refine XCall.hp (j := 0) hd1 rfl rfl ?_) | (refine XCall.hp (j := 0) hd2 rfl rfl ?_)); conv => whnf) | ((refine XHold.mk ⟨rfl, hWm, by unfold Room; constructor <;> ((try simp) <;> omega)⟩ ?_); conv => whnf) | ((with_reducible apply XBr.mk') <;> (intro h; conv => whnf))
        apply Walk.drawX tab_ok mixed_ok [] [6, 8, 11, 13] (hsC [_, _, _, _, _]) [_, _, _, _, _, _, _, _, _, _, _, _, _, _] (by kernel_rfl) rfl
        · skip
          repeat' first | ((with_reducible first | apply XBr.tt | apply XBr.ff | apply Chk.go | apply ChkA.go | apply ChkF.go | apply ChkB.go | apply XArr.pim0 | apply XArr.pim1); conv => whnf) | (with_reducible apply XBr.not) | ((with_reducible apply XBr.dec) <;> (intro h; first | (exfalso; omega) | ((try simp only [List.length_map] at h); first | (exfalso; omega) | (conv => whnf)))) | ((with_reducible first | apply XBr.beq | apply XBr.bne) <;> (intro h; first | (exfalso; omega) | (conv => whnf))) | ((with_reducible refine XInt.i64 (by omega) (by omega) ?_); conv => whnf) | ((with_reducible refine XHold.mk ?_ ?_); (first | omega | rfl | decide | exact ⟨rfl, by decide, rfl⟩ | exact wideI _ | exact widePr _ | exact wideSk _ | (unfold Room; constructor <;> ((try simp) <;> omega)) | exact ⟨rfl, by simp only [List.length_map], by unfold Room; constructor <;> ((try simp) <;> omega)⟩ | exact ⟨by omega, by omega, by unfold Room; constructor <;> ((try simp) <;> omega)⟩); conv => whnf) | ((first | ((with_reducible refine XIx.nat ?_ ?_ ?_); omega; (intro _; rfl)) | ((with_reducible refine XIx.map ?_ ?_ ?_ ?_); omega; omega; (intro _; rfl))); conv => whnf) | (with_reducible apply XAnd.mk) | (exact XSame.mk rfl rfl) | (exact XSame.mk (by first | rfl | (simp only [List.map_append, List.length_append, List.length_map]; done) | (simp only [List.map_append, List.length_append, List.length_map]; rfl)) (by first | rfl | (simp only [List.map_append]; done) | (simp only [List.map_append]; rfl))) | (with_reducible exact trivial) | ((first | (with_reducible refine xdrop_app (by rw [List.length_map]; omega) ?_) | (with_reducible refine XDrop.desk (by assumption) ?_) | (with_reducible first | refine XArr.ints (by omega) (by omega) (by omega) ?_ | refine XArr.intsA (by omega) (by omega) (by omega) ?_) | ((with_reducible first | refine XArr.nats ?_ ?_ ?_ | refine XArr.natsA ?_ ?_ ?_ | refine XArr.ptr ?_ ?_ ?_); omega; omega)); conv => whnf) | (apply Walk.drawN (id := 6) tab_ok mixed_ok [] [6, 9, 11] (hsC [_, _, _, _]) [_, _, _, _, _, _, _, _, _, _, _, _] (by kernel_rfl) rfl) | (apply Walk.drawN (id := 17) tab_ok mixed_ok [] [1, 8] (hsC [_, _, _]) [_, _, _, _, _, _, _, _, _, _, _, _] (by kernel_rfl) rfl) | (apply Walk.drawN (id := 19) tab_ok mixed_ok [] [] (hsU _) [_, _, _, _] (by kernel_rfl) rfl) | ((first | (with_reducible apply XNext.mk) | (refine XCall.hp (j := 0) hd3 rfl rfl ?_) | (refine XCall.hp (j := 0) hd4 rfl rfl ?_)); conv => whnf) | ((refine XHold.mk ⟨rfl, by rw [List.length_append, hWm]; rfl, by unfold Room; constructor <;> ((try simp) <;> omega)⟩ ?_); conv => whnf) | ((with_reducible apply XBr.mk') <;> (intro h; conv => whnf))
        · skip
          repeat' first | ((with_reducible first | apply XBr.tt | apply XBr.ff | apply Chk.go | apply ChkA.go | apply ChkF.go | apply ChkB.go | apply XArr.pim0 | apply XArr.pim1); conv => whnf) | (with_reducible apply XBr.not) | ((with_reducible apply XBr.dec) <;> (intro h; first | (exfalso; omega) | ((try simp only [List.length_map] at h); first | (exfalso; omega) | (conv => whnf)))) | ((with_reducible first | apply XBr.beq | apply XBr.bne) <;> (intro h; first | (exfalso; omega) | (conv => whnf))) | ((with_reducible refine XInt.i64 (by omega) (by omega) ?_); conv => whnf) | ((with_reducible refine XHold.mk ?_ ?_); (first | omega | rfl | decide | exact ⟨rfl, by decide, rfl⟩ | exact wideI _ | exact widePr _ | exact wideSk _ | (unfold Room; constructor <;> ((try simp) <;> omega)) | exact ⟨rfl, by simp only [List.length_map], by unfold Room; constructor <;> ((try simp) <;> omega)⟩ | exact ⟨by omega, by omega, by unfold Room; constructor <;> ((try simp) <;> omega)⟩); conv => whnf) | ((first | ((with_reducible refine XIx.nat ?_ ?_ ?_); omega; (intro _; rfl)) | ((with_reducible refine XIx.map ?_ ?_ ?_ ?_); omega; omega; (intro _; rfl))); conv => whnf) | (with_reducible apply XAnd.mk) | (exact XSame.mk rfl rfl) | (exact XSame.mk (by first | rfl | (simp only [List.map_append, List.length_append, List.length_map]; done) | (simp only [List.map_append, List.length_append, List.length_map]; rfl)) (by first | rfl | (simp only [List.map_append]; done) | (simp only [List.map_append]; rfl))) | (with_reducible exact trivial) | ((first | (with_reducible refine xdrop_app (by rw [List.length_map]; omega) ?_) | (with_reducible refine XDrop.desk (by assumption) ?_) | (with_reducible first | refine XArr.ints (by omega) (by omega) (by omega) ?_ | refine XArr.intsA (by omega) (by omega) (by omega) ?_) | ((with_reducible first | refine XArr.nats ?_ ?_ ?_ | refine XArr.natsA ?_ ?_ ?_ | refine XArr.ptr ?_ ?_ ?_); omega; omega)); conv => whnf) | (apply Walk.drawN (id := 6) tab_ok mixed_ok [] [6, 9, 11] (hsC [_, _, _, _]) [_, _, _, _, _, _, _, _, _, _, _, _] (by kernel_rfl) rfl) | (apply Walk.drawN (id := 17) tab_ok mixed_ok [] [1, 8] (hsC [_, _, _]) [_, _, _, _, _, _, _, _, _, _, _, _] (by kernel_rfl) rfl) | (apply Walk.drawN (id := 19) tab_ok mixed_ok [] [] (hsU _) [_, _, _, _] (by kernel_rfl) rfl) | ((first | (with_reducible apply XNext.mk) | (refine XCall.hp (j := 0) hd3 rfl rfl ?_) | (refine XCall.hp (j := 0) hd4 rfl rfl ?_)); conv => whnf) | ((refine XHold.mk ⟨rfl, by rw [List.length_append, hWm]; rfl, by unfold Room; constructor <;> ((try simp) <;> omega)⟩ ?_); conv => whnf) | ((with_reducible apply XBr.mk') <;> (intro h; conv => whnf))
        conv => whnf
        repeat' first | ((with_reducible first | apply XBr.tt | apply XBr.ff | apply Chk.go | apply ChkA.go | apply ChkF.go | apply ChkB.go | apply XArr.pim0 | apply XArr.pim1); conv => whnf) | (with_reducible apply XBr.not) | ((with_reducible apply XBr.dec) <;> (intro h; first | (exfalso; omega) | ((try simp only [List.length_map] at h); first | (exfalso; omega) | (conv => whnf)))) | ((with_reducible first | apply XBr.beq | apply XBr.bne) <;> (intro h; first | (exfalso; omega) | (conv => whnf))) | ((with_reducible refine XInt.i64 (by omega) (by omega) ?_); conv => whnf) | ((with_reducible refine XHold.mk ?_ ?_); (first | omega | rfl | decide | exact ⟨rfl, by decide, rfl⟩ | exact wideI _ | exact widePr _ | exact wideSk _ | (unfold Room; constructor <;> ((try simp) <;> omega)) | exact ⟨rfl, by simp only [List.length_map], by unfold Room; constructor <;> ((try simp) <;> omega)⟩ | exact ⟨by omega, by omega, by unfold Room; constructor <;> ((try simp) <;> omega)⟩); conv => whnf) | ((first | ((with_reducible refine XIx.nat ?_ ?_ ?_); omega; (intro _; rfl)) | ((with_reducible refine XIx.map ?_ ?_ ?_ ?_); omega; omega; (intro _; rfl))); conv => whnf) | (with_reducible apply XAnd.mk) | (exact XSame.mk rfl rfl) | (exact XSame.mk (by first | rfl | (simp only [List.map_append, List.length_append, List.length_map]; done) | (simp only [List.map_append, List.length_append, List.length_map]; rfl)) (by first | rfl | (simp only [List.map_append]; done) | (simp only [List.map_append]; rfl))) | (with_reducible exact trivial) | ((first | (with_reducible refine xdrop_app (by rw [List.length_map]; omega) ?_) | (with_reducible refine XDrop.desk (by assumption) ?_) | (with_reducible first | refine XArr.ints (by omega) (by omega) (by omega) ?_ | refine XArr.intsA (by omega) (by omega) (by omega) ?_) | ((with_reducible first | refine XArr.nats ?_ ?_ ?_ | refine XArr.natsA ?_ ?_ ?_ | refine XArr.ptr ?_ ?_ ?_); omega; omega)); conv => whnf) | (apply Walk.drawN (id := 6) tab_ok mixed_ok [] [6, 9, 11] (hsC [_, _, _, _]) [_, _, _, _, _, _, _, _, _, _, _, _] (by kernel_rfl) rfl) | (apply Walk.drawN (id := 17) tab_ok mixed_ok [] [1, 8] (hsC [_, _, _]) [_, _, _, _, _, _, _, _, _, _, _, _] (by kernel_rfl) rfl) | (apply Walk.drawN (id := 19) tab_ok mixed_ok [] [] (hsU _) [_, _, _, _] (by kernel_rfl) rfl) | ((with_reducible apply XNext.mk); conv => whnf) | ((with_reducible apply XBr.mk') <;> (intro h; conv => whnf))
        refine XAgain.go (p + 1, (W ++ [((p : Int) - 1, (p : Int), m1)]) ++ [((p : Int), q, m2)], v4) ⟨⟨by dsimp only; omega, by dsimp only; omega⟩, ov4, hW2⟩ (by dsimp only; omega) ?_ ⟨rfl, rfl, rfl, rfl, trivial⟩
        dsimp only
        rw [List.length_append, isEmpty_app, List.map_append, List.length_append, isEmpty_app, List.map_append]; rfl
    · skip
      repeat' first | ((with_reducible first | apply XBr.tt | apply XBr.ff | apply Chk.go | apply ChkA.go | apply ChkF.go | apply ChkB.go | apply XArr.pim0 | apply XArr.pim1); conv => whnf) | (with_reducible apply XBr.not) | ((with_reducible apply XBr.dec) <;> (intro h; first | (exfalso; omega) | ((try simp only [List.length_map] at h); first | (exfalso; omega) | (conv => whnf)))) | ((with_reducible first | apply XBr.beq | apply XBr.bne) <;> (intro h; first | (exfalso; omega) | (conv => whnf))) | ((with_reducible refine XInt.i64 (by omega) (by omega) ?_); conv => whnf) | ((with_reducible refine XHold.mk ?_ ?_); (first | omega | rfl | decide | exact ⟨rfl, by decide, rfl⟩ | exact wideI _ | exact widePr _ | exact wideSk _ | (unfold Room; constructor <;> ((try simp) <;> omega)) | exact ⟨rfl, by simp only [List.length_map], by unfold Room; constructor <;> ((try simp) <;> omega)⟩ | exact ⟨by omega, by omega, by unfold Room; constructor <;> ((try simp) <;> omega)⟩); conv => whnf) | ((first | ((with_reducible refine XIx.nat ?_ ?_ ?_); omega; (intro _; rfl)) | ((with_reducible refine XIx.map ?_ ?_ ?_ ?_); omega; omega; (intro _; rfl))); conv => whnf) | (with_reducible apply XAnd.mk) | (exact XSame.mk rfl rfl) | (exact XSame.mk (by first | rfl | (simp only [List.map_append, List.length_append, List.length_map]; done) | (simp only [List.map_append, List.length_append, List.length_map]; rfl)) (by first | rfl | (simp only [List.map_append]; done) | (simp only [List.map_append]; rfl))) | (with_reducible exact trivial) | ((first | (with_reducible refine xdrop_app (by rw [List.length_map]; omega) ?_) | (with_reducible refine XDrop.desk (by assumption) ?_) | (with_reducible first | refine XArr.ints (by omega) (by omega) (by omega) ?_ | refine XArr.intsA (by omega) (by omega) (by omega) ?_) | ((with_reducible first | refine XArr.nats ?_ ?_ ?_ | refine XArr.natsA ?_ ?_ ?_ | refine XArr.ptr ?_ ?_ ?_); omega; omega)); conv => whnf) | (apply Walk.drawN (id := 6) tab_ok mixed_ok [] [6, 9, 11] (hsC [_, _, _, _]) [_, _, _, _, _, _, _, _, _, _, _, _] (by kernel_rfl) rfl) | (apply Walk.drawN (id := 17) tab_ok mixed_ok [] [1, 8] (hsC [_, _, _]) [_, _, _, _, _, _, _, _, _, _, _, _] (by kernel_rfl) rfl) | (apply Walk.drawN (id := 19) tab_ok mixed_ok [] [] (hsU _) [_, _, _, _] (by kernel_rfl) rfl) | ((first | (with_reducible apply XNext.mk) | (refine XCall.hp (j := 0) hd1 rfl rfl ?_)); conv => whnf) | ((refine XHold.mk ⟨rfl, hWm, by unfold Room; constructor <;> ((try simp) <;> omega)⟩ ?_); conv => whnf) | ((with_reducible apply XBr.mk') <;> (intro h; conv => whnf))
      refine XAgain.go (p + 1, W ++ [((p : Int) - 1, (p : Int), m1)], v1) ⟨⟨by dsimp only; omega, by dsimp only; omega⟩, ov1, hW1⟩ (by dsimp only; omega) ?_ ⟨rfl, rfl, rfl, rfl, trivial⟩
      dsimp only
      rw [List.length_append, isEmpty_app, List.map_append]; rfl
  have hpP : (p : Int) = P := by omega
  rw [hpP] at hW
  obtain ⟨N, v1, hN, ov1, hd1⟩ := from_e v 1 4 ov (by omega) (by omega) (by omega) (by omega)
  repeat' first | ((with_reducible first | apply XBr.tt | apply XBr.ff | apply Chk.go | apply ChkA.go | apply ChkF.go | apply ChkB.go | apply XArr.pim0 | apply XArr.pim1); conv => whnf) | (with_reducible apply XBr.not) | ((with_reducible apply XBr.dec) <;> (intro h; first | (exfalso; omega) | ((try simp only [List.length_map] at h); first | (exfalso; omega) | (conv => whnf)))) | ((with_reducible first | apply XBr.beq | apply XBr.bne) <;> (intro h; first | (exfalso; omega) | (conv => whnf))) | ((with_reducible refine XInt.i64 (by omega) (by omega) ?_); conv => whnf) | ((with_reducible refine XHold.mk ?_ ?_); (first | omega | rfl | decide | exact ⟨rfl, by decide, rfl⟩ | exact wideI _ | exact widePr _ | exact wideSk _ | (unfold Room; constructor <;> ((try simp) <;> omega)) | exact ⟨rfl, by simp only [List.length_map], by unfold Room; constructor <;> ((try simp) <;> omega)⟩ | exact ⟨by omega, by omega, by unfold Room; constructor <;> ((try simp) <;> omega)⟩); conv => whnf) | ((first | ((with_reducible refine XIx.nat ?_ ?_ ?_); omega; (intro _; rfl)) | ((with_reducible refine XIx.map ?_ ?_ ?_ ?_); omega; omega; (intro _; rfl))); conv => whnf) | (with_reducible apply XAnd.mk) | (exact XSame.mk rfl rfl) | (exact XSame.mk (by first | rfl | (simp only [List.map_append, List.length_append, List.length_map]; done) | (simp only [List.map_append, List.length_append, List.length_map]; rfl)) (by first | rfl | (simp only [List.map_append]; done) | (simp only [List.map_append]; rfl))) | (with_reducible exact trivial) | ((first | (with_reducible refine xdrop_app (by rw [List.length_map]; omega) ?_) | (with_reducible refine XDrop.desk (by assumption) ?_) | (with_reducible first | refine XArr.ints (by omega) (by omega) (by omega) ?_ | refine XArr.intsA (by omega) (by omega) (by omega) ?_) | ((with_reducible first | refine XArr.nats ?_ ?_ ?_ | refine XArr.natsA ?_ ?_ ?_ | refine XArr.ptr ?_ ?_ ?_); omega; omega)); conv => whnf) | (apply Walk.drawN (id := 6) tab_ok mixed_ok [] [6, 9, 11] (hsC [_, _, _, _]) [_, _, _, _, _, _, _, _, _, _, _, _] (by kernel_rfl) rfl) | (apply Walk.drawN (id := 17) tab_ok mixed_ok [] [1, 8] (hsC [_, _, _]) [_, _, _, _, _, _, _, _, _, _, _, _] (by kernel_rfl) rfl) | (apply Walk.drawN (id := 19) tab_ok mixed_ok [] [] (hsU _) [_, _, _, _] (by kernel_rfl) rfl) | ((first | (with_reducible apply XNext.mk) | (refine XCall.hp (j := 0) hd1 rfl rfl ?_)); conv => whnf) | ((with_reducible apply XBr.mk') <;> (intro h; conv => whnf))
  refine Walk.freezeCell 2 4 3 W.length rfl rfl rfl hWm ?_
  refine Walk.nilcell 2 5 32 rfl rfl ?_
  refine Walk.nilcell 2 6 58 rfl rfl ?_
  refine Walk.heapE [hpC v1, .cells zSn, .cells [.int .i64 P, .int .i64 0, .int .i64 bd, .int .i64 L, .sl W.isEmpty (W.map wyA), .gr 4 0, .gr 5 0], .dead, .grow 32 true [], .grow 58 true []] rfl ?_
  clear hd1 ov
  refine Walk.loopGK tab_ok [] [(0, _), (4, _), (5, _), (66, _)] ⟨rfl, rfl, rfl, rfl, trivial⟩ (fun g : Nat × List Rw × List Tru × Hp => (g.1 : Int) ≤ N ∧ g.2.2.2.Ok ∧ (g.2.1.length = g.1 ∧ g.2.2.1.length = g.1) ∧ (∀ r ∈ g.2.1, (r.2.length : Int) = P ∧ ∀ n ∈ r.2, 0 ≤ n ∧ n ≤ 3) ∧ ∀ t ∈ g.2.2.1, (t.2.length : Int) = P ∧ ∀ r ∈ t.2, spE L none r.2 = 0 ∧ r.2.length ≤ 2) (fun g => [(67, natA g.1)]) (fun g => [hpC g.2.2.2, .cells zSn, .cells [.int .i64 P, .int .i64 0, .int .i64 bd, .int .i64 L, .sl W.isEmpty (W.map wyA), .gr 4 g.2.1.length, .gr 5 g.2.2.1.length], .dead, .grow 32 g.2.1.isEmpty (g.2.1.map rwA), .grow 58 g.2.2.1.isEmpty (g.2.2.1.map trA)]) (fun g => N.toNat - g.1) (0, [], [], v1) ⟨by dsimp only; omega, ov1, ⟨rfl, rfl⟩, by simp, by simp⟩ rfl ⟨rfl, trivial⟩ ?_ (fun _ _ => (show (6 : Nat) ≤ 6 from Nat.le_refl 6)) ?_
  · intro g _
    refine ⟨fun z hz => ?_, fun z hz => ?_⟩
    · simp only [List.mem_cons, List.not_mem_nil, or_false] at hz
      rcases hz with rfl | rfl | rfl | rfl | rfl | rfl
      · exact hpC_low _
      · rfl
      · simp only [Blk.low, lowL, AV.low, lowWy]; rfl
      · rfl
      · exact lowRk _
      · exact lowTr _
    · simp only [List.cons_append, List.nil_append, List.mem_cons, List.not_mem_nil, or_false] at hz
      rcases hz with rfl | rfl | rfl | rfl | rfl <;> rfl
  clear ov1
  rintro ⟨k, looks, truths, v⟩ ⟨hk, ov, ⟨hll, htl⟩, hlk, htr⟩
  dsimp only at hk ov hll htl hlk htr ⊢
  have hlm : (looks.map rwA).length = looks.length := List.length_map _
  have htm : (truths.map trA).length = truths.length := List.length_map _
  conv => whnf
  by_cases hlt : (k : Int) < N
  · skip
    repeat' first | ((with_reducible first | apply XBr.tt | apply XBr.ff | apply Chk.go | apply ChkA.go | apply ChkF.go | apply ChkB.go | apply XArr.pim0 | apply XArr.pim1); conv => whnf) | (with_reducible apply XBr.not) | ((with_reducible apply XBr.dec) <;> (intro h; first | (exfalso; omega) | ((try simp only [List.length_map] at h); first | (exfalso; omega) | (conv => whnf)))) | ((with_reducible first | apply XBr.beq | apply XBr.bne) <;> (intro h; first | (exfalso; omega) | (conv => whnf))) | ((with_reducible refine XInt.i64 (by omega) (by omega) ?_); conv => whnf) | ((with_reducible refine XHold.mk ?_ ?_); (first | omega | rfl | decide | exact ⟨rfl, by decide, rfl⟩ | exact wideI _ | exact widePr _ | exact wideSk _ | (unfold Room; constructor <;> ((try simp) <;> omega)) | exact ⟨rfl, by simp only [List.length_map], by unfold Room; constructor <;> ((try simp) <;> omega)⟩ | exact ⟨by omega, by omega, by unfold Room; constructor <;> ((try simp) <;> omega)⟩); conv => whnf) | ((first | ((with_reducible refine XIx.nat ?_ ?_ ?_); omega; (intro _; rfl)) | ((with_reducible refine XIx.map ?_ ?_ ?_ ?_); omega; omega; (intro _; rfl))); conv => whnf) | (with_reducible apply XAnd.mk) | (exact XSame.mk rfl rfl) | (exact XSame.mk (by first | rfl | (simp only [List.map_append, List.length_append, List.length_map]; done) | (simp only [List.map_append, List.length_append, List.length_map]; rfl)) (by first | rfl | (simp only [List.map_append]; done) | (simp only [List.map_append]; rfl))) | (with_reducible exact trivial) | ((first | (with_reducible refine xdrop_app (by rw [List.length_map]; omega) ?_) | (with_reducible refine XDrop.desk (by assumption) ?_) | (with_reducible first | refine XArr.ints (by omega) (by omega) (by omega) ?_ | refine XArr.intsA (by omega) (by omega) (by omega) ?_) | ((with_reducible first | refine XArr.nats ?_ ?_ ?_ | refine XArr.natsA ?_ ?_ ?_ | refine XArr.ptr ?_ ?_ ?_); omega; omega)); conv => whnf) | (apply Walk.drawN (id := 6) tab_ok mixed_ok [] [6, 9, 11] (hsC [_, _, _, _]) [_, _, _, _, _, _, _, _, _, _, _, _] (by kernel_rfl) rfl) | (apply Walk.drawN (id := 17) tab_ok mixed_ok [] [1, 8] (hsC [_, _, _]) [_, _, _, _, _, _, _, _, _, _, _, _] (by kernel_rfl) rfl) | (apply Walk.drawN (id := 19) tab_ok mixed_ok [] [] (hsU _) [_, _, _, _] (by kernel_rfl) rfl) | ((with_reducible apply XNext.mk); conv => whnf) | ((with_reducible apply XBr.mk') <;> (intro h; conv => whnf))
    refine Walk.nilgr 7 3 rfl ?_
    refine Walk.nilcell 6 0 55 rfl rfl ?_
    refine Walk.heapE [hpC v, .cells zSn, .cells [.int .i64 P, .int .i64 0, .int .i64 bd, .int .i64 L, .sl W.isEmpty (W.map wyA), .gr 4 looks.length, .gr 5 truths.length], .dead, .grow 32 looks.isEmpty (looks.map rwA), .grow 58 truths.isEmpty (truths.map trA), .cells [.gr 8 0], .grow 3 true [], .grow 55 true []] rfl ?_
    refine Walk.loopK tab_ok [] [(0, _), (4, _), (5, _), (8, _), (66, _), (67, _), (70, _)] ⟨rfl, rfl, rfl, rfl, rfl, rfl, rfl, trivial⟩ (fun g : Nat × List Int × List Sps × Hp => (g.1 : Int) ≤ P ∧ g.2.2.2.Ok ∧ (g.2.1.length = g.1 ∧ g.2.2.1.length = g.1) ∧ (∀ n ∈ g.2.1, 0 ≤ n ∧ n ≤ 3) ∧ ∀ r ∈ g.2.2.1, spE L none r.2 = 0 ∧ r.2.length ≤ 2) (fun g => [(7, .gr 7 g.2.1.length), (71, natA g.1)]) (fun g => [hpC g.2.2.2, .cells zSn, .cells [.int .i64 P, .int .i64 0, .int .i64 bd, .int .i64 L, .sl W.isEmpty (W.map wyA), .gr 4 looks.length, .gr 5 truths.length], .dead, .grow 32 looks.isEmpty (looks.map rwA), .grow 58 truths.isEmpty (truths.map trA), .cells [.gr 8 g.2.2.1.length], .grow 3 g.2.1.isEmpty (ints g.2.1), .grow 55 g.2.2.1.isEmpty (g.2.2.1.map spsA)]) (fun g => P.toNat - g.1) (0, [], [], v) ⟨by dsimp only; omega, ov, ⟨rfl, rfl⟩, by simp, by simp⟩ rfl ⟨rfl, rfl, trivial⟩ ?_
    clear ov
    rintro ⟨q, row, dry, v⟩ ⟨hq, ov, ⟨hrl, hdl⟩, hrow, hdry⟩
    dsimp only at hq ov hrl hdl hrow hdry ⊢
    have hrm : (ints row).length = row.length := ints_len _
    have hdm : (dry.map spsA).length = dry.length := List.length_map _
    conv => whnf
    by_cases hlt2 : (q : Int) < P
    · have htd : L.tdiv 2 = L / 2 := Int.tdiv_eq_ediv_of_nonneg (by omega)
      have htd1 : 0 ≤ L.tdiv 2 ∧ L.tdiv 2 ≤ L - 2 := by rw [htd]; omega
      obtain ⟨z1, v1, hz1, ov1, hd1⟩ := upto_e v 3 ov (by omega) (by omega)
      obtain ⟨z2, v2, hz2, ov2, hd2⟩ := upto_e v1 1 ov1 (by omega) (by omega)
      obtain ⟨z3, v3, hz3, ov3, hd3⟩ := upto_e v2 2 ov2 (by omega) (by omega)
      obtain ⟨z4, v4, hz4, ov4, hd4⟩ := upto_e v3 (L.tdiv 2) ov3 (by omega) (by omega)
      obtain ⟨z5, v5, hz5, ov5, hd5⟩ := upto_e v4 L ov4 (by omega) (by omega)
      obtain ⟨b, v6, ov6, hd6⟩ := once_e v5 4 ov5 (by omega) (by omega)
      have hzz : 0 ≤ z1 * z2 ∧ z1 * z2 ≤ 3 := by
        have : z2 = 0 ∨ z2 = 1 := by omega
        rcases this with h | h <;> rw [h] <;> omega
      have hrow' : ∀ n ∈ row ++ [z1 * z2], 0 ≤ n ∧ n ≤ 3 := fun n hn => by
        rcases List.mem_append.1 hn with hn | hn
        · exact hrow n hn
        · rw [List.mem_singleton] at hn; rw [hn]; exact hzz
      have hstep : ∀ r : Sps, spE L none r.2 = 0 → r.2.length ≤ 2 → ((q + 1 : Nat) : Int) ≤ P ∧ v6.Ok ∧ ((row ++ [z1 * z2]).length = q + 1 ∧ (dry ++ [r]).length = q + 1) ∧ (∀ n ∈ row ++ [z1 * z2], 0 ≤ n ∧ n ≤ 3) ∧ ∀ r' ∈ dry ++ [r], spE L none r'.2 = 0 ∧ r'.2.length ≤ 2 := fun r h1 h2 => ⟨by omega, ov6, ⟨by rw [List.length_append, hrl]; rfl, by rw [List.length_append, hdl]; rfl⟩, hrow', fun r' hr' => by
        rcases List.mem_append.1 hr' with hr' | hr'
        · exact hdry r' hr'
        · rw [List.mem_singleton] at hr'; rw [hr']; exact ⟨h1, h2⟩⟩
      by_cases hq0 : (q : Int) = 0
      · skip
        by_cases hc : b = true ∧ 0 + 1 < z5 ∧ z5 < L - 1
        · obtain ⟨hcb, hc1, hc2⟩ := hc
          subst hcb
          repeat' first | ((with_reducible first | apply XBr.tt | apply XBr.ff | apply Chk.go | apply ChkA.go | apply ChkF.go | apply ChkB.go | apply XArr.pim0 | apply XArr.pim1); conv => whnf) | (with_reducible apply XBr.not) | ((with_reducible apply XBr.dec) <;> (intro h; first | (exfalso; omega) | ((try simp only [List.length_map] at h); first | (exfalso; omega) | (conv => whnf)))) | ((with_reducible first | apply XBr.beq | apply XBr.bne) <;> (intro h; first | (exfalso; omega) | (conv => whnf))) | ((with_reducible refine XInt.i64 (by omega) (by omega) ?_); conv => whnf) | ((with_reducible refine XHold.mk ?_ ?_); (first | omega | rfl | decide | exact ⟨rfl, by decide, rfl⟩ | exact wideI _ | exact widePr _ | exact wideSk _ | (unfold Room; constructor <;> ((try simp) <;> omega)) | exact ⟨rfl, by simp only [List.length_map], by unfold Room; constructor <;> ((try simp) <;> omega)⟩ | exact ⟨by omega, by omega, by unfold Room; constructor <;> ((try simp) <;> omega)⟩); conv => whnf) | ((first | ((with_reducible refine XIx.nat ?_ ?_ ?_); omega; (intro _; rfl)) | ((with_reducible refine XIx.map ?_ ?_ ?_ ?_); omega; omega; (intro _; rfl))); conv => whnf) | (with_reducible apply XAnd.mk) | (exact XSame.mk rfl rfl) | (exact XSame.mk (by first | rfl | (simp only [List.map_append, List.length_append, List.length_map]; done) | (simp only [List.map_append, List.length_append, List.length_map]; rfl)) (by first | rfl | (simp only [List.map_append]; done) | (simp only [List.map_append]; rfl))) | (with_reducible exact trivial) | ((first | (with_reducible refine xdrop_app (by rw [List.length_map]; omega) ?_) | (with_reducible refine XDrop.desk (by assumption) ?_) | (with_reducible first | refine XArr.ints (by omega) (by omega) (by omega) ?_ | refine XArr.intsA (by omega) (by omega) (by omega) ?_) | ((with_reducible first | refine XArr.nats ?_ ?_ ?_ | refine XArr.natsA ?_ ?_ ?_ | refine XArr.ptr ?_ ?_ ?_); omega; omega)); conv => whnf) | (apply Walk.drawN (id := 6) tab_ok mixed_ok [] [6, 9, 11] (hsC [_, _, _, _]) [_, _, _, _, _, _, _, _, _, _, _, _] (by kernel_rfl) rfl) | (apply Walk.drawN (id := 17) tab_ok mixed_ok [] [1, 8] (hsC [_, _, _]) [_, _, _, _, _, _, _, _, _, _, _, _] (by kernel_rfl) rfl) | (apply Walk.drawN (id := 19) tab_ok mixed_ok [] [] (hsU _) [_, _, _, _] (by kernel_rfl) rfl) | ((first | (with_reducible apply XNext.mk) | (refine XCall.hp (j := 0) hd1 rfl rfl ?_) | (refine XCall.hp (j := 0) hd2 rfl rfl ?_) | (refine XCall.hp (j := 0) hd3 rfl rfl ?_) | (refine XCall.hp (j := 0) hd4 rfl rfl ?_) | (refine XCall.hp (j := 0) hd5 rfl rfl ?_) | (refine XCall.hp (j := 0) hd6 rfl rfl ?_)); conv => whnf) | ((refine XHold.mk ⟨rfl, hrm, by unfold Room; constructor <;> ((try simp) <;> omega)⟩ ?_); conv => whnf) | ((refine XHold.mk ⟨rfl, hdm, by unfold Room; constructor <;> ((try simp) <;> omega)⟩ ?_); conv => whnf) | ((with_reducible apply XBr.mk') <;> (intro h; conv => whnf))
          all_goals
            refine XAgain.go (q + 1, row ++ [z1 * z2], dry ++ [((false, [(0, z5 - 1), (z5 + 1, L)]) : Sps)], v6) (hstep _ (by exact sp_two (by omega) (by omega) (by omega) (by omega)) (by simp)) (by dsimp only; omega) ?_ ⟨rfl, rfl, rfl, rfl, rfl, rfl, rfl, (by rw [List.length_append]; rfl), rfl, trivial⟩
            dsimp only
            rw [List.length_append, isEmpty_app, isEmpty_app, List.map_append, ints_app]; rfl
        cases b with
        | false =>
          repeat' first | ((with_reducible first | apply XBr.tt | apply XBr.ff | apply Chk.go | apply ChkA.go | apply ChkF.go | apply ChkB.go | apply XArr.pim0 | apply XArr.pim1); conv => whnf) | (with_reducible apply XBr.not) | ((with_reducible apply XBr.dec) <;> (intro h; first | (exfalso; omega) | ((try simp only [List.length_map] at h); first | (exfalso; omega) | (conv => whnf)))) | ((with_reducible first | apply XBr.beq | apply XBr.bne) <;> (intro h; first | (exfalso; omega) | (conv => whnf))) | ((with_reducible refine XInt.i64 (by omega) (by omega) ?_); conv => whnf) | ((with_reducible refine XHold.mk ?_ ?_); (first | omega | rfl | decide | exact ⟨rfl, by decide, rfl⟩ | exact wideI _ | exact widePr _ | exact wideSk _ | (unfold Room; constructor <;> ((try simp) <;> omega)) | exact ⟨rfl, by simp only [List.length_map], by unfold Room; constructor <;> ((try simp) <;> omega)⟩ | exact ⟨by omega, by omega, by unfold Room; constructor <;> ((try simp) <;> omega)⟩); conv => whnf) | ((first | ((with_reducible refine XIx.nat ?_ ?_ ?_); omega; (intro _; rfl)) | ((with_reducible refine XIx.map ?_ ?_ ?_ ?_); omega; omega; (intro _; rfl))); conv => whnf) | (with_reducible apply XAnd.mk) | (exact XSame.mk rfl rfl) | (exact XSame.mk (by first | rfl | (simp only [List.map_append, List.length_append, List.length_map]; done) | (simp only [List.map_append, List.length_append, List.length_map]; rfl)) (by first | rfl | (simp only [List.map_append]; done) | (simp only [List.map_append]; rfl))) | (with_reducible exact trivial) | ((first | (with_reducible refine xdrop_app (by rw [List.length_map]; omega) ?_) | (with_reducible refine XDrop.desk (by assumption) ?_) | (with_reducible first | refine XArr.ints (by omega) (by omega) (by omega) ?_ | refine XArr.intsA (by omega) (by omega) (by omega) ?_) | ((with_reducible first | refine XArr.nats ?_ ?_ ?_ | refine XArr.natsA ?_ ?_ ?_ | refine XArr.ptr ?_ ?_ ?_); omega; omega)); conv => whnf) | (apply Walk.drawN (id := 6) tab_ok mixed_ok [] [6, 9, 11] (hsC [_, _, _, _]) [_, _, _, _, _, _, _, _, _, _, _, _] (by kernel_rfl) rfl) | (apply Walk.drawN (id := 17) tab_ok mixed_ok [] [1, 8] (hsC [_, _, _]) [_, _, _, _, _, _, _, _, _, _, _, _] (by kernel_rfl) rfl) | (apply Walk.drawN (id := 19) tab_ok mixed_ok [] [] (hsU _) [_, _, _, _] (by kernel_rfl) rfl) | ((first | (with_reducible apply XNext.mk) | (refine XCall.hp (j := 0) hd1 rfl rfl ?_) | (refine XCall.hp (j := 0) hd2 rfl rfl ?_) | (refine XCall.hp (j := 0) hd3 rfl rfl ?_) | (refine XCall.hp (j := 0) hd4 rfl rfl ?_) | (refine XCall.hp (j := 0) hd5 rfl rfl ?_) | (refine XCall.hp (j := 0) hd6 rfl rfl ?_)); conv => whnf) | ((refine XHold.mk ⟨rfl, hrm, by unfold Room; constructor <;> ((try simp) <;> omega)⟩ ?_); conv => whnf) | ((refine XHold.mk ⟨rfl, hdm, by unfold Room; constructor <;> ((try simp) <;> omega)⟩ ?_); conv => whnf) | ((with_reducible apply XBr.mk') <;> (intro h; conv => whnf))
          all_goals
            refine XAgain.go (q + 1, row ++ [z1 * z2], dry ++ [((false, [(0, max 0 (L))]) : Sps)], v6) (hstep _ (by exact sp_one (by omega) (by omega) (by omega)) (by simp)) (by dsimp only; omega) ?_ ⟨rfl, rfl, rfl, rfl, rfl, rfl, rfl, (by rw [List.length_append]; rfl), rfl, trivial⟩
            dsimp only
            rw [List.length_append, isEmpty_app, isEmpty_app, List.map_append, ints_app]; rfl
        | true =>
          have hc' : ¬ (0 + 1 < z5 ∧ z5 < L - 1) := fun h => hc ⟨rfl, h⟩
          repeat' first | ((with_reducible first | apply XBr.tt | apply XBr.ff | apply Chk.go | apply ChkA.go | apply ChkF.go | apply ChkB.go | apply XArr.pim0 | apply XArr.pim1); conv => whnf) | (with_reducible apply XBr.not) | ((with_reducible apply XBr.dec) <;> (intro h; first | (exfalso; omega) | ((try simp only [List.length_map] at h); first | (exfalso; omega) | (conv => whnf)))) | ((with_reducible first | apply XBr.beq | apply XBr.bne) <;> (intro h; first | (exfalso; omega) | (conv => whnf))) | ((with_reducible refine XInt.i64 (by omega) (by omega) ?_); conv => whnf) | ((with_reducible refine XHold.mk ?_ ?_); (first | omega | rfl | decide | exact ⟨rfl, by decide, rfl⟩ | exact wideI _ | exact widePr _ | exact wideSk _ | (unfold Room; constructor <;> ((try simp) <;> omega)) | exact ⟨rfl, by simp only [List.length_map], by unfold Room; constructor <;> ((try simp) <;> omega)⟩ | exact ⟨by omega, by omega, by unfold Room; constructor <;> ((try simp) <;> omega)⟩); conv => whnf) | ((first | ((with_reducible refine XIx.nat ?_ ?_ ?_); omega; (intro _; rfl)) | ((with_reducible refine XIx.map ?_ ?_ ?_ ?_); omega; omega; (intro _; rfl))); conv => whnf) | (with_reducible apply XAnd.mk) | (exact XSame.mk rfl rfl) | (exact XSame.mk (by first | rfl | (simp only [List.map_append, List.length_append, List.length_map]; done) | (simp only [List.map_append, List.length_append, List.length_map]; rfl)) (by first | rfl | (simp only [List.map_append]; done) | (simp only [List.map_append]; rfl))) | (with_reducible exact trivial) | ((first | (with_reducible refine xdrop_app (by rw [List.length_map]; omega) ?_) | (with_reducible refine XDrop.desk (by assumption) ?_) | (with_reducible first | refine XArr.ints (by omega) (by omega) (by omega) ?_ | refine XArr.intsA (by omega) (by omega) (by omega) ?_) | ((with_reducible first | refine XArr.nats ?_ ?_ ?_ | refine XArr.natsA ?_ ?_ ?_ | refine XArr.ptr ?_ ?_ ?_); omega; omega)); conv => whnf) | (apply Walk.drawN (id := 6) tab_ok mixed_ok [] [6, 9, 11] (hsC [_, _, _, _]) [_, _, _, _, _, _, _, _, _, _, _, _] (by kernel_rfl) rfl) | (apply Walk.drawN (id := 17) tab_ok mixed_ok [] [1, 8] (hsC [_, _, _]) [_, _, _, _, _, _, _, _, _, _, _, _] (by kernel_rfl) rfl) | (apply Walk.drawN (id := 19) tab_ok mixed_ok [] [] (hsU _) [_, _, _, _] (by kernel_rfl) rfl) | ((first | (with_reducible apply XNext.mk) | (refine XCall.hp (j := 0) hd1 rfl rfl ?_) | (refine XCall.hp (j := 0) hd2 rfl rfl ?_) | (refine XCall.hp (j := 0) hd3 rfl rfl ?_) | (refine XCall.hp (j := 0) hd4 rfl rfl ?_) | (refine XCall.hp (j := 0) hd5 rfl rfl ?_) | (refine XCall.hp (j := 0) hd6 rfl rfl ?_)); conv => whnf) | ((refine XHold.mk ⟨rfl, hrm, by unfold Room; constructor <;> ((try simp) <;> omega)⟩ ?_); conv => whnf) | ((refine XHold.mk ⟨rfl, hdm, by unfold Room; constructor <;> ((try simp) <;> omega)⟩ ?_); conv => whnf) | ((with_reducible apply XBr.mk') <;> (intro h; conv => whnf))
          all_goals
            refine XAgain.go (q + 1, row ++ [z1 * z2], dry ++ [((false, [(0, max 0 (L))]) : Sps)], v6) (hstep _ (by exact sp_one (by omega) (by omega) (by omega)) (by simp)) (by dsimp only; omega) ?_ ⟨rfl, rfl, rfl, rfl, rfl, rfl, rfl, (by rw [List.length_append]; rfl), rfl, trivial⟩
            dsimp only
            rw [List.length_append, isEmpty_app, isEmpty_app, List.map_append, ints_app]; rfl
      · skip
        by_cases hc : b = true ∧ z3 + 1 < z5 ∧ z5 < (L - z4) - 1
        · obtain ⟨hcb, hc1, hc2⟩ := hc
          subst hcb
          repeat' first | ((with_reducible first | apply XBr.tt | apply XBr.ff | apply Chk.go | apply ChkA.go | apply ChkF.go | apply ChkB.go | apply XArr.pim0 | apply XArr.pim1); conv => whnf) | (with_reducible apply XBr.not) | ((with_reducible apply XBr.dec) <;> (intro h; first | (exfalso; omega) | ((try simp only [List.length_map] at h); first | (exfalso; omega) | (conv => whnf)))) | ((with_reducible first | apply XBr.beq | apply XBr.bne) <;> (intro h; first | (exfalso; omega) | (conv => whnf))) | ((with_reducible refine XInt.i64 (by omega) (by omega) ?_); conv => whnf) | ((with_reducible refine XHold.mk ?_ ?_); (first | omega | rfl | decide | exact ⟨rfl, by decide, rfl⟩ | exact wideI _ | exact widePr _ | exact wideSk _ | (unfold Room; constructor <;> ((try simp) <;> omega)) | exact ⟨rfl, by simp only [List.length_map], by unfold Room; constructor <;> ((try simp) <;> omega)⟩ | exact ⟨by omega, by omega, by unfold Room; constructor <;> ((try simp) <;> omega)⟩); conv => whnf) | ((first | ((with_reducible refine XIx.nat ?_ ?_ ?_); omega; (intro _; rfl)) | ((with_reducible refine XIx.map ?_ ?_ ?_ ?_); omega; omega; (intro _; rfl))); conv => whnf) | (with_reducible apply XAnd.mk) | (exact XSame.mk rfl rfl) | (exact XSame.mk (by first | rfl | (simp only [List.map_append, List.length_append, List.length_map]; done) | (simp only [List.map_append, List.length_append, List.length_map]; rfl)) (by first | rfl | (simp only [List.map_append]; done) | (simp only [List.map_append]; rfl))) | (with_reducible exact trivial) | ((first | (with_reducible refine xdrop_app (by rw [List.length_map]; omega) ?_) | (with_reducible refine XDrop.desk (by assumption) ?_) | (with_reducible first | refine XArr.ints (by omega) (by omega) (by omega) ?_ | refine XArr.intsA (by omega) (by omega) (by omega) ?_) | ((with_reducible first | refine XArr.nats ?_ ?_ ?_ | refine XArr.natsA ?_ ?_ ?_ | refine XArr.ptr ?_ ?_ ?_); omega; omega)); conv => whnf) | (apply Walk.drawN (id := 6) tab_ok mixed_ok [] [6, 9, 11] (hsC [_, _, _, _]) [_, _, _, _, _, _, _, _, _, _, _, _] (by kernel_rfl) rfl) | (apply Walk.drawN (id := 17) tab_ok mixed_ok [] [1, 8] (hsC [_, _, _]) [_, _, _, _, _, _, _, _, _, _, _, _] (by kernel_rfl) rfl) | (apply Walk.drawN (id := 19) tab_ok mixed_ok [] [] (hsU _) [_, _, _, _] (by kernel_rfl) rfl) | ((first | (with_reducible apply XNext.mk) | (refine XCall.hp (j := 0) hd1 rfl rfl ?_) | (refine XCall.hp (j := 0) hd2 rfl rfl ?_) | (refine XCall.hp (j := 0) hd3 rfl rfl ?_) | (refine XCall.hp (j := 0) hd4 rfl rfl ?_) | (refine XCall.hp (j := 0) hd5 rfl rfl ?_) | (refine XCall.hp (j := 0) hd6 rfl rfl ?_)); conv => whnf) | ((refine XHold.mk ⟨rfl, hrm, by unfold Room; constructor <;> ((try simp) <;> omega)⟩ ?_); conv => whnf) | ((refine XHold.mk ⟨rfl, hdm, by unfold Room; constructor <;> ((try simp) <;> omega)⟩ ?_); conv => whnf) | ((with_reducible apply XBr.mk') <;> (intro h; conv => whnf))
          all_goals
            refine XAgain.go (q + 1, row ++ [z1 * z2], dry ++ [((false, [(z3, z5 - 1), (z5 + 1, (L - z4))]) : Sps)], v6) (hstep _ (by exact sp_two (by omega) (by omega) (by omega) (by omega)) (by simp)) (by dsimp only; omega) ?_ ⟨rfl, rfl, rfl, rfl, rfl, rfl, rfl, (by rw [List.length_append]; rfl), rfl, trivial⟩
            dsimp only
            rw [List.length_append, isEmpty_app, isEmpty_app, List.map_append, ints_app]; rfl
        cases b with
        | false =>
          repeat' first | ((with_reducible first | apply XBr.tt | apply XBr.ff | apply Chk.go | apply ChkA.go | apply ChkF.go | apply ChkB.go | apply XArr.pim0 | apply XArr.pim1); conv => whnf) | (with_reducible apply XBr.not) | ((with_reducible apply XBr.dec) <;> (intro h; first | (exfalso; omega) | ((try simp only [List.length_map] at h); first | (exfalso; omega) | (conv => whnf)))) | ((with_reducible first | apply XBr.beq | apply XBr.bne) <;> (intro h; first | (exfalso; omega) | (conv => whnf))) | ((with_reducible refine XInt.i64 (by omega) (by omega) ?_); conv => whnf) | ((with_reducible refine XHold.mk ?_ ?_); (first | omega | rfl | decide | exact ⟨rfl, by decide, rfl⟩ | exact wideI _ | exact widePr _ | exact wideSk _ | (unfold Room; constructor <;> ((try simp) <;> omega)) | exact ⟨rfl, by simp only [List.length_map], by unfold Room; constructor <;> ((try simp) <;> omega)⟩ | exact ⟨by omega, by omega, by unfold Room; constructor <;> ((try simp) <;> omega)⟩); conv => whnf) | ((first | ((with_reducible refine XIx.nat ?_ ?_ ?_); omega; (intro _; rfl)) | ((with_reducible refine XIx.map ?_ ?_ ?_ ?_); omega; omega; (intro _; rfl))); conv => whnf) | (with_reducible apply XAnd.mk) | (exact XSame.mk rfl rfl) | (exact XSame.mk (by first | rfl | (simp only [List.map_append, List.length_append, List.length_map]; done) | (simp only [List.map_append, List.length_append, List.length_map]; rfl)) (by first | rfl | (simp only [List.map_append]; done) | (simp only [List.map_append]; rfl))) | (with_reducible exact trivial) | ((first | (with_reducible refine xdrop_app (by rw [List.length_map]; omega) ?_) | (with_reducible refine XDrop.desk (by assumption) ?_) | (with_reducible first | refine XArr.ints (by omega) (by omega) (by omega) ?_ | refine XArr.intsA (by omega) (by omega) (by omega) ?_) | ((with_reducible first | refine XArr.nats ?_ ?_ ?_ | refine XArr.natsA ?_ ?_ ?_ | refine XArr.ptr ?_ ?_ ?_); omega; omega)); conv => whnf) | (apply Walk.drawN (id := 6) tab_ok mixed_ok [] [6, 9, 11] (hsC [_, _, _, _]) [_, _, _, _, _, _, _, _, _, _, _, _] (by kernel_rfl) rfl) | (apply Walk.drawN (id := 17) tab_ok mixed_ok [] [1, 8] (hsC [_, _, _]) [_, _, _, _, _, _, _, _, _, _, _, _] (by kernel_rfl) rfl) | (apply Walk.drawN (id := 19) tab_ok mixed_ok [] [] (hsU _) [_, _, _, _] (by kernel_rfl) rfl) | ((first | (with_reducible apply XNext.mk) | (refine XCall.hp (j := 0) hd1 rfl rfl ?_) | (refine XCall.hp (j := 0) hd2 rfl rfl ?_) | (refine XCall.hp (j := 0) hd3 rfl rfl ?_) | (refine XCall.hp (j := 0) hd4 rfl rfl ?_) | (refine XCall.hp (j := 0) hd5 rfl rfl ?_) | (refine XCall.hp (j := 0) hd6 rfl rfl ?_)); conv => whnf) | ((refine XHold.mk ⟨rfl, hrm, by unfold Room; constructor <;> ((try simp) <;> omega)⟩ ?_); conv => whnf) | ((refine XHold.mk ⟨rfl, hdm, by unfold Room; constructor <;> ((try simp) <;> omega)⟩ ?_); conv => whnf) | ((with_reducible apply XBr.mk') <;> (intro h; conv => whnf))
          all_goals
            refine XAgain.go (q + 1, row ++ [z1 * z2], dry ++ [((false, [(z3, max z3 ((L - z4)))]) : Sps)], v6) (hstep _ (by exact sp_one (by omega) (by omega) (by omega)) (by simp)) (by dsimp only; omega) ?_ ⟨rfl, rfl, rfl, rfl, rfl, rfl, rfl, (by rw [List.length_append]; rfl), rfl, trivial⟩
            dsimp only
            rw [List.length_append, isEmpty_app, isEmpty_app, List.map_append, ints_app]; rfl
        | true =>
          have hc' : ¬ (z3 + 1 < z5 ∧ z5 < (L - z4) - 1) := fun h => hc ⟨rfl, h⟩
          repeat' first | ((with_reducible first | apply XBr.tt | apply XBr.ff | apply Chk.go | apply ChkA.go | apply ChkF.go | apply ChkB.go | apply XArr.pim0 | apply XArr.pim1); conv => whnf) | (with_reducible apply XBr.not) | ((with_reducible apply XBr.dec) <;> (intro h; first | (exfalso; omega) | ((try simp only [List.length_map] at h); first | (exfalso; omega) | (conv => whnf)))) | ((with_reducible first | apply XBr.beq | apply XBr.bne) <;> (intro h; first | (exfalso; omega) | (conv => whnf))) | ((with_reducible refine XInt.i64 (by omega) (by omega) ?_); conv => whnf) | ((with_reducible refine XHold.mk ?_ ?_); (first | omega | rfl | decide | exact ⟨rfl, by decide, rfl⟩ | exact wideI _ | exact widePr _ | exact wideSk _ | (unfold Room; constructor <;> ((try simp) <;> omega)) | exact ⟨rfl, by simp only [List.length_map], by unfold Room; constructor <;> ((try simp) <;> omega)⟩ | exact ⟨by omega, by omega, by unfold Room; constructor <;> ((try simp) <;> omega)⟩); conv => whnf) | ((first | ((with_reducible refine XIx.nat ?_ ?_ ?_); omega; (intro _; rfl)) | ((with_reducible refine XIx.map ?_ ?_ ?_ ?_); omega; omega; (intro _; rfl))); conv => whnf) | (with_reducible apply XAnd.mk) | (exact XSame.mk rfl rfl) | (exact XSame.mk (by first | rfl | (simp only [List.map_append, List.length_append, List.length_map]; done) | (simp only [List.map_append, List.length_append, List.length_map]; rfl)) (by first | rfl | (simp only [List.map_append]; done) | (simp only [List.map_append]; rfl))) | (with_reducible exact trivial) | ((first | (with_reducible refine xdrop_app (by rw [List.length_map]; omega) ?_) | (with_reducible refine XDrop.desk (by assumption) ?_) | (with_reducible first | refine XArr.ints (by omega) (by omega) (by omega) ?_ | refine XArr.intsA (by omega) (by omega) (by omega) ?_) | ((with_reducible first | refine XArr.nats ?_ ?_ ?_ | refine XArr.natsA ?_ ?_ ?_ | refine XArr.ptr ?_ ?_ ?_); omega; omega)); conv => whnf) | (apply Walk.drawN (id := 6) tab_ok mixed_ok [] [6, 9, 11] (hsC [_, _, _, _]) [_, _, _, _, _, _, _, _, _, _, _, _] (by kernel_rfl) rfl) | (apply Walk.drawN (id := 17) tab_ok mixed_ok [] [1, 8] (hsC [_, _, _]) [_, _, _, _, _, _, _, _, _, _, _, _] (by kernel_rfl) rfl) | (apply Walk.drawN (id := 19) tab_ok mixed_ok [] [] (hsU _) [_, _, _, _] (by kernel_rfl) rfl) | ((first | (with_reducible apply XNext.mk) | (refine XCall.hp (j := 0) hd1 rfl rfl ?_) | (refine XCall.hp (j := 0) hd2 rfl rfl ?_) | (refine XCall.hp (j := 0) hd3 rfl rfl ?_) | (refine XCall.hp (j := 0) hd4 rfl rfl ?_) | (refine XCall.hp (j := 0) hd5 rfl rfl ?_) | (refine XCall.hp (j := 0) hd6 rfl rfl ?_)); conv => whnf) | ((refine XHold.mk ⟨rfl, hrm, by unfold Room; constructor <;> ((try simp) <;> omega)⟩ ?_); conv => whnf) | ((refine XHold.mk ⟨rfl, hdm, by unfold Room; constructor <;> ((try simp) <;> omega)⟩ ?_); conv => whnf) | ((with_reducible apply XBr.mk') <;> (intro h; conv => whnf))
          all_goals
            refine XAgain.go (q + 1, row ++ [z1 * z2], dry ++ [((false, [(z3, max z3 ((L - z4)))]) : Sps)], v6) (hstep _ (by exact sp_one (by omega) (by omega) (by omega)) (by simp)) (by dsimp only; omega) ?_ ⟨rfl, rfl, rfl, rfl, rfl, rfl, rfl, (by rw [List.length_append]; rfl), rfl, trivial⟩
            dsimp only
            rw [List.length_append, isEmpty_app, isEmpty_app, List.map_append, ints_app]; rfl
    have hqP : (q : Int) = P := by omega
    repeat' first | ((with_reducible first | apply XBr.tt | apply XBr.ff | apply Chk.go | apply ChkA.go | apply ChkF.go | apply ChkB.go | apply XArr.pim0 | apply XArr.pim1); conv => whnf) | (with_reducible apply XBr.not) | ((with_reducible apply XBr.dec) <;> (intro h; first | (exfalso; omega) | ((try simp only [List.length_map] at h); first | (exfalso; omega) | (conv => whnf)))) | ((with_reducible first | apply XBr.beq | apply XBr.bne) <;> (intro h; first | (exfalso; omega) | (conv => whnf))) | ((with_reducible refine XInt.i64 (by omega) (by omega) ?_); conv => whnf) | ((with_reducible refine XHold.mk ?_ ?_); (first | omega | rfl | decide | exact ⟨rfl, by decide, rfl⟩ | exact wideI _ | exact widePr _ | exact wideSk _ | (unfold Room; constructor <;> ((try simp) <;> omega)) | exact ⟨rfl, by simp only [List.length_map], by unfold Room; constructor <;> ((try simp) <;> omega)⟩ | exact ⟨by omega, by omega, by unfold Room; constructor <;> ((try simp) <;> omega)⟩); conv => whnf) | ((first | ((with_reducible refine XIx.nat ?_ ?_ ?_); omega; (intro _; rfl)) | ((with_reducible refine XIx.map ?_ ?_ ?_ ?_); omega; omega; (intro _; rfl))); conv => whnf) | (with_reducible apply XAnd.mk) | (exact XSame.mk rfl rfl) | (exact XSame.mk (by first | rfl | (simp only [List.map_append, List.length_append, List.length_map]; done) | (simp only [List.map_append, List.length_append, List.length_map]; rfl)) (by first | rfl | (simp only [List.map_append]; done) | (simp only [List.map_append]; rfl))) | (with_reducible exact trivial) | ((first | (with_reducible refine xdrop_app (by rw [List.length_map]; omega) ?_) | (with_reducible refine XDrop.desk (by assumption) ?_) | (with_reducible first | refine XArr.ints (by omega) (by omega) (by omega) ?_ | refine XArr.intsA (by omega) (by omega) (by omega) ?_) | ((with_reducible first | refine XArr.nats ?_ ?_ ?_ | refine XArr.natsA ?_ ?_ ?_ | refine XArr.ptr ?_ ?_ ?_); omega; omega)); conv => whnf) | (apply Walk.drawN (id := 6) tab_ok mixed_ok [] [6, 9, 11] (hsC [_, _, _, _]) [_, _, _, _, _, _, _, _, _, _, _, _] (by kernel_rfl) rfl) | (apply Walk.drawN (id := 17) tab_ok mixed_ok [] [1, 8] (hsC [_, _, _]) [_, _, _, _, _, _, _, _, _, _, _, _] (by kernel_rfl) rfl) | (apply Walk.drawN (id := 19) tab_ok mixed_ok [] [] (hsU _) [_, _, _, _] (by kernel_rfl) rfl) | ((with_reducible apply XNext.mk); conv => whnf) | ((with_reducible apply XBr.mk') <;> (intro h; conv => whnf))
    refine Walk.freeze 7 7 row.length rfl rfl hrm ?_
    refine Walk.freezeCell 6 0 8 dry.length rfl rfl rfl hdm ?_
    apply Walk.drawX tab_ok mixed_ok [] [4, 9, 11, 13] (hsC [_, _, _, _, _]) [_, _, _, _, _, _, _, _, _, _, _, _, _, _] (by kernel_rfl) rfl
    · skip
      repeat' first | ((with_reducible first | apply XBr.tt | apply XBr.ff | apply Chk.go | apply ChkA.go | apply ChkF.go | apply ChkB.go | apply XArr.pim0 | apply XArr.pim1); conv => whnf) | (with_reducible apply XBr.not) | ((with_reducible apply XBr.dec) <;> (intro h; first | (exfalso; omega) | ((try simp only [List.length_map] at h); first | (exfalso; omega) | (conv => whnf)))) | ((with_reducible first | apply XBr.beq | apply XBr.bne) <;> (intro h; first | (exfalso; omega) | (conv => whnf))) | ((with_reducible refine XInt.i64 (by omega) (by omega) ?_); conv => whnf) | ((with_reducible refine XHold.mk ?_ ?_); (first | omega | rfl | decide | exact ⟨rfl, by decide, rfl⟩ | exact wideI _ | exact widePr _ | exact wideSk _ | (unfold Room; constructor <;> ((try simp) <;> omega)) | exact ⟨rfl, by simp only [List.length_map], by unfold Room; constructor <;> ((try simp) <;> omega)⟩ | exact ⟨by omega, by omega, by unfold Room; constructor <;> ((try simp) <;> omega)⟩); conv => whnf) | ((first | ((with_reducible refine XIx.nat ?_ ?_ ?_); omega; (intro _; rfl)) | ((with_reducible refine XIx.map ?_ ?_ ?_ ?_); omega; omega; (intro _; rfl))); conv => whnf) | (with_reducible apply XAnd.mk) | (exact XSame.mk rfl rfl) | (exact XSame.mk (by first | rfl | (simp only [List.map_append, List.length_append, List.length_map]; done) | (simp only [List.map_append, List.length_append, List.length_map]; rfl)) (by first | rfl | (simp only [List.map_append]; done) | (simp only [List.map_append]; rfl))) | (with_reducible exact trivial) | ((first | (with_reducible refine xdrop_app (by rw [List.length_map]; omega) ?_) | (with_reducible refine XDrop.desk (by assumption) ?_) | (with_reducible first | refine XArr.ints (by omega) (by omega) (by omega) ?_ | refine XArr.intsA (by omega) (by omega) (by omega) ?_) | ((with_reducible first | refine XArr.nats ?_ ?_ ?_ | refine XArr.natsA ?_ ?_ ?_ | refine XArr.ptr ?_ ?_ ?_); omega; omega)); conv => whnf) | (apply Walk.drawN (id := 6) tab_ok mixed_ok [] [6, 9, 11] (hsC [_, _, _, _]) [_, _, _, _, _, _, _, _, _, _, _, _] (by kernel_rfl) rfl) | (apply Walk.drawN (id := 17) tab_ok mixed_ok [] [1, 8] (hsC [_, _, _]) [_, _, _, _, _, _, _, _, _, _, _, _] (by kernel_rfl) rfl) | (apply Walk.drawN (id := 19) tab_ok mixed_ok [] [] (hsU _) [_, _, _, _] (by kernel_rfl) rfl) | ((with_reducible apply XNext.mk); conv => whnf) | ((refine XHold.mk ⟨rfl, hlm, by unfold Room; constructor <;> ((try simp) <;> omega)⟩ ?_); conv => whnf) | ((refine XHold.mk ⟨rfl, htm, by unfold Room; constructor <;> ((try simp) <;> omega)⟩ ?_); conv => whnf) | ((with_reducible apply XBr.mk') <;> (intro h; conv => whnf))
    · skip
      repeat' first | ((with_reducible first | apply XBr.tt | apply XBr.ff | apply Chk.go | apply ChkA.go | apply ChkF.go | apply ChkB.go | apply XArr.pim0 | apply XArr.pim1); conv => whnf) | (with_reducible apply XBr.not) | ((with_reducible apply XBr.dec) <;> (intro h; first | (exfalso; omega) | ((try simp only [List.length_map] at h); first | (exfalso; omega) | (conv => whnf)))) | ((with_reducible first | apply XBr.beq | apply XBr.bne) <;> (intro h; first | (exfalso; omega) | (conv => whnf))) | ((with_reducible refine XInt.i64 (by omega) (by omega) ?_); conv => whnf) | ((with_reducible refine XHold.mk ?_ ?_); (first | omega | rfl | decide | exact ⟨rfl, by decide, rfl⟩ | exact wideI _ | exact widePr _ | exact wideSk _ | (unfold Room; constructor <;> ((try simp) <;> omega)) | exact ⟨rfl, by simp only [List.length_map], by unfold Room; constructor <;> ((try simp) <;> omega)⟩ | exact ⟨by omega, by omega, by unfold Room; constructor <;> ((try simp) <;> omega)⟩); conv => whnf) | ((first | ((with_reducible refine XIx.nat ?_ ?_ ?_); omega; (intro _; rfl)) | ((with_reducible refine XIx.map ?_ ?_ ?_ ?_); omega; omega; (intro _; rfl))); conv => whnf) | (with_reducible apply XAnd.mk) | (exact XSame.mk rfl rfl) | (exact XSame.mk (by first | rfl | (simp only [List.map_append, List.length_append, List.length_map]; done) | (simp only [List.map_append, List.length_append, List.length_map]; rfl)) (by first | rfl | (simp only [List.map_append]; done) | (simp only [List.map_append]; rfl))) | (with_reducible exact trivial) | ((first | (with_reducible refine xdrop_app (by rw [List.length_map]; omega) ?_) | (with_reducible refine XDrop.desk (by assumption) ?_) | (with_reducible first | refine XArr.ints (by omega) (by omega) (by omega) ?_ | refine XArr.intsA (by omega) (by omega) (by omega) ?_) | ((with_reducible first | refine XArr.nats ?_ ?_ ?_ | refine XArr.natsA ?_ ?_ ?_ | refine XArr.ptr ?_ ?_ ?_); omega; omega)); conv => whnf) | (apply Walk.drawN (id := 6) tab_ok mixed_ok [] [6, 9, 11] (hsC [_, _, _, _]) [_, _, _, _, _, _, _, _, _, _, _, _] (by kernel_rfl) rfl) | (apply Walk.drawN (id := 17) tab_ok mixed_ok [] [1, 8] (hsC [_, _, _]) [_, _, _, _, _, _, _, _, _, _, _, _] (by kernel_rfl) rfl) | (apply Walk.drawN (id := 19) tab_ok mixed_ok [] [] (hsU _) [_, _, _, _] (by kernel_rfl) rfl) | ((with_reducible apply XNext.mk); conv => whnf) | ((refine XHold.mk ⟨rfl, hlm, by unfold Room; constructor <;> ((try simp) <;> omega)⟩ ?_); conv => whnf) | ((refine XHold.mk ⟨rfl, htm, by unfold Room; constructor <;> ((try simp) <;> omega)⟩ ?_); conv => whnf) | ((with_reducible apply XBr.mk') <;> (intro h; conv => whnf))
    conv => whnf
    repeat' first | ((with_reducible first | apply XBr.tt | apply XBr.ff | apply Chk.go | apply ChkA.go | apply ChkF.go | apply ChkB.go | apply XArr.pim0 | apply XArr.pim1); conv => whnf) | (with_reducible apply XBr.not) | ((with_reducible apply XBr.dec) <;> (intro h; first | (exfalso; omega) | ((try simp only [List.length_map] at h); first | (exfalso; omega) | (conv => whnf)))) | ((with_reducible first | apply XBr.beq | apply XBr.bne) <;> (intro h; first | (exfalso; omega) | (conv => whnf))) | ((with_reducible refine XInt.i64 (by omega) (by omega) ?_); conv => whnf) | ((with_reducible refine XHold.mk ?_ ?_); (first | omega | rfl | decide | exact ⟨rfl, by decide, rfl⟩ | exact wideI _ | exact widePr _ | exact wideSk _ | (unfold Room; constructor <;> ((try simp) <;> omega)) | exact ⟨rfl, by simp only [List.length_map], by unfold Room; constructor <;> ((try simp) <;> omega)⟩ | exact ⟨by omega, by omega, by unfold Room; constructor <;> ((try simp) <;> omega)⟩); conv => whnf) | ((first | ((with_reducible refine XIx.nat ?_ ?_ ?_); omega; (intro _; rfl)) | ((with_reducible refine XIx.map ?_ ?_ ?_ ?_); omega; omega; (intro _; rfl))); conv => whnf) | (with_reducible apply XAnd.mk) | (exact XSame.mk rfl rfl) | (exact XSame.mk (by first | rfl | (simp only [List.map_append, List.length_append, List.length_map]; done) | (simp only [List.map_append, List.length_append, List.length_map]; rfl)) (by first | rfl | (simp only [List.map_append]; done) | (simp only [List.map_append]; rfl))) | (with_reducible exact trivial) | ((first | (with_reducible refine xdrop_app (by rw [List.length_map]; omega) ?_) | (with_reducible refine XDrop.desk (by assumption) ?_) | (with_reducible first | refine XArr.ints (by omega) (by omega) (by omega) ?_ | refine XArr.intsA (by omega) (by omega) (by omega) ?_) | ((with_reducible first | refine XArr.nats ?_ ?_ ?_ | refine XArr.natsA ?_ ?_ ?_ | refine XArr.ptr ?_ ?_ ?_); omega; omega)); conv => whnf) | (apply Walk.drawN (id := 6) tab_ok mixed_ok [] [6, 9, 11] (hsC [_, _, _, _]) [_, _, _, _, _, _, _, _, _, _, _, _] (by kernel_rfl) rfl) | (apply Walk.drawN (id := 17) tab_ok mixed_ok [] [1, 8] (hsC [_, _, _]) [_, _, _, _, _, _, _, _, _, _, _, _] (by kernel_rfl) rfl) | (apply Walk.drawN (id := 19) tab_ok mixed_ok [] [] (hsU _) [_, _, _, _] (by kernel_rfl) rfl) | ((with_reducible apply XNext.mk); conv => whnf) | ((with_reducible apply XBr.mk') <;> (intro h; conv => whnf))
    refine XAgainG.go (k + 1, looks ++ [((row.isEmpty, row) : Rw)], truths ++ [((dry.isEmpty, dry) : Tru)], v) [.cells [.sl dry.isEmpty (dry.map spsA)], .dead, .dead] ⟨by dsimp only; omega, ov, ⟨by dsimp only; rw [List.length_append, hll]; rfl, by dsimp only; rw [List.length_append, htl]; rfl⟩, fun r hr => ?_, fun t ht => ?_⟩ (by dsimp only; omega) ?_ ⟨rfl, rfl, rfl, rfl, rfl, trivial⟩
    · rcases List.mem_append.1 hr with hr | hr
      · exact hlk r hr
      · rw [List.mem_singleton] at hr; rw [hr]; exact ⟨by dsimp only; omega, hrow⟩
    · rcases List.mem_append.1 ht with ht | ht
      · exact htr t ht
      · rw [List.mem_singleton] at ht; rw [ht]; exact ⟨by dsimp only; omega, hdry⟩
    dsimp only
    rw [List.length_append, List.length_append, isEmpty_app, isEmpty_app, List.map_append, List.map_append]; rfl
  have hkN : (k : Int) = N := by omega
  repeat' first | ((with_reducible first | apply XBr.tt | apply XBr.ff | apply Chk.go | apply ChkA.go | apply ChkF.go | apply ChkB.go | apply XArr.pim0 | apply XArr.pim1); conv => whnf) | (with_reducible apply XBr.not) | ((with_reducible apply XBr.dec) <;> (intro h; first | (exfalso; omega) | ((try simp only [List.length_map] at h); first | (exfalso; omega) | (conv => whnf)))) | ((with_reducible first | apply XBr.beq | apply XBr.bne) <;> (intro h; first | (exfalso; omega) | (conv => whnf))) | ((with_reducible refine XInt.i64 (by omega) (by omega) ?_); conv => whnf) | ((with_reducible refine XHold.mk ?_ ?_); (first | omega | rfl | decide | exact ⟨rfl, by decide, rfl⟩ | exact wideI _ | exact widePr _ | exact wideSk _ | (unfold Room; constructor <;> ((try simp) <;> omega)) | exact ⟨rfl, by simp only [List.length_map], by unfold Room; constructor <;> ((try simp) <;> omega)⟩ | exact ⟨by omega, by omega, by unfold Room; constructor <;> ((try simp) <;> omega)⟩); conv => whnf) | ((first | ((with_reducible refine XIx.nat ?_ ?_ ?_); omega; (intro _; rfl)) | ((with_reducible refine XIx.map ?_ ?_ ?_ ?_); omega; omega; (intro _; rfl))); conv => whnf) | (with_reducible apply XAnd.mk) | (exact XSame.mk rfl rfl) | (exact XSame.mk (by first | rfl | (simp only [List.map_append, List.length_append, List.length_map]; done) | (simp only [List.map_append, List.length_append, List.length_map]; rfl)) (by first | rfl | (simp only [List.map_append]; done) | (simp only [List.map_append]; rfl))) | (with_reducible exact trivial) | ((first | (with_reducible refine xdrop_app (by rw [List.length_map]; omega) ?_) | (with_reducible refine XDrop.desk (by assumption) ?_) | (with_reducible first | refine XArr.ints (by omega) (by omega) (by omega) ?_ | refine XArr.intsA (by omega) (by omega) (by omega) ?_) | ((with_reducible first | refine XArr.nats ?_ ?_ ?_ | refine XArr.natsA ?_ ?_ ?_ | refine XArr.ptr ?_ ?_ ?_); omega; omega)); conv => whnf) | (apply Walk.drawN (id := 6) tab_ok mixed_ok [] [6, 9, 11] (hsC [_, _, _, _]) [_, _, _, _, _, _, _, _, _, _, _, _] (by kernel_rfl) rfl) | (apply Walk.drawN (id := 17) tab_ok mixed_ok [] [1, 8] (hsC [_, _, _]) [_, _, _, _, _, _, _, _, _, _, _, _] (by kernel_rfl) rfl) | (apply Walk.drawN (id := 19) tab_ok mixed_ok [] [] (hsU _) [_, _, _, _] (by kernel_rfl) rfl) | ((with_reducible apply XNext.mk); conv => whnf) | ((with_reducible apply XBr.mk') <;> (intro h; conv => whnf))
  exact ⟨_, [hpC v], ⟨rfl, rfl, fun x hx => hpLow hx, FrozN.agg (snOne ⟨P, 0, bd, L, W.isEmpty, W, looks.isEmpty, looks, truths.isEmpty, truths⟩) (.cons (.low rfl) (.cons (.low rfl) (.cons (.low rfl) (.cons (.low rfl) (.cons (.low (lowWy _)) (.cons (FrozN.grow (show (1 : Nat) ≤ 4 by omega) rfl hlm (lowRk _)) (.cons (FrozN.grow (show (1 : Nat) ≤ 5 by omega) rfl htm (lowTr _)) .nil)))))))⟩, _, v, snL _, ⟨_, rfl, mk_ok (by omega) (by omega) (by omega) hl2 hW hlk htr (by omega) (by omega) (by omega), ov⟩, rfl, rfl⟩
end GA
end

section
namespace GA
open Go Go.RowKit Go.Proofs
set_option pp.deepTerms true
set_option maxRecDepth 8000
set_option linter.unusedVariables false
set_option linter.unusedSimpArgs false

def lowB (l : Nat) : Nat := ((List.range 4).find? fun i => l.testBit i).getD 0
theorem lowB_lt (l : Nat) : lowB l < 4 := by
  unfold lowB
  cases h : (List.range 4).find? fun i => l.testBit i with
  | none => decide
  | some i => exact List.mem_range.1 (List.mem_of_find?_eq_some h)
theorem lowB_bit : ∀ l : Fin 16, l.val ≠ 0 → l.val.testBit (lowB l.val) = true ∧ iand .i64 (l.val : Int) (0 - (l.val : Int)) = ((2 ^ lowB l.val : Nat) : Int) := by decide +kernel
theorem lowB_least : ∀ l : Fin 16, ∀ i : Fin 4, i.val < lowB l.val → l.val.testBit i.val = false := by decide +kernel
end GA
end

section
namespace GA
open Go Go.RowKit Go.Proofs
set_option pp.deepTerms true
set_option maxRecDepth 8000
set_option linter.unusedVariables false
set_option linter.unusedSimpArgs false

def drA (s : Sn) (p m i j : Nat) (t : Nat) : Bool := if t = i then ((((s.truths.getD i default).2.getD p default).2).take j).any (fun x => inZ m x.1 x.2) else dryT s t p m
theorem drA_0 (s : Sn) (p m i : Nat) : bsum (drA s p m i 0) (i + 1) = bsum (fun t => dryT s t p m) i := by
  rw [bsum]
  have h : drA s p m i 0 i = false := by unfold drA; rw [if_pos rfl, List.take_zero]; rfl
  rw [h, if_neg (by simp), Nat.add_zero]
  exact bsum_congr fun t ht => by unfold drA; rw [if_neg (by omega)]
theorem drA_end (s : Sn) (p m i : Nat) : bsum (drA s p m i (((s.truths.getD i default).2.getD p default).2).length) (i + 1) = bsum (fun t => dryT s t p m) (i + 1) := by
  refine bsum_congr fun t ht => ?_
  unfold drA
  by_cases e : t = i
  · rw [if_pos e, List.take_length, e]; rfl
  · rw [if_neg e]
theorem drA_hit {s : Sn} {p m i j : Nat} (hj : j < (((s.truths.getD i default).2.getD p default).2).length) (h : inZ m ((((s.truths.getD i default).2.getD p default).2).getD j default).1 ((((s.truths.getD i default).2.getD p default).2).getD j default).2 = true) : bsum (drA s p m i j) (i + 1) ||| 2 ^ i = bsum (drA s p m i (j + 1)) (i + 1) := by
  rw [bsum_set (by omega)]
  refine bsum_congr fun t ht => ?_
  unfold updV drA
  by_cases e : t = i
  · rw [if_pos e, if_pos e, take_next hj, List.any_append]
    show true = (_ || (inZ m _ _ || false))
    rw [h]; simp
  · rw [if_neg e, if_neg e, if_neg e]
theorem drA_miss {s : Sn} {p m i j : Nat} (hj : j < (((s.truths.getD i default).2.getD p default).2).length) (h : inZ m ((((s.truths.getD i default).2.getD p default).2).getD j default).1 ((((s.truths.getD i default).2.getD p default).2).getD j default).2 = false) : bsum (drA s p m i (j + 1)) (i + 1) = bsum (drA s p m i j) (i + 1) := by
  refine bsum_congr fun t ht => ?_
  unfold drA
  by_cases e : t = i
  · rw [if_pos e, if_pos e, take_next hj, List.any_append]
    show (_ || (inZ m _ _ || false)) = _
    rw [h]; simp
  · rw [if_neg e, if_neg e]
theorem lawDry_c (s : Sn) (hb : SnB s) (ok : SnOk s) (p m : Nat) (hp : (p : Int) < s.places) : Comp Try.prog 18 [snA s, natA p, natA m] (natA (drN s p m)) := by
  have t2 := ok.t2
  have e3 : ((s.truths.map trA).length : Int) = s.truths.length := by rw [List.length_map]
  refine Comp.body (T := tab) (res := [.tmp 6]) tab_ok [] Try.func18 rfl (by kernel_rfl) Try.ntmps18 rfl (by simp only [List.length_cons, List.length_nil]; decide) (by simp only [lowL, AV.low, snL]; rfl) ?_; conv => whnf
  skip
  refine Walk.loopGK tab_ok [] [(1, _), (2, _), (6, _), (13, _), (14, _)] ⟨rfl, rfl, rfl, rfl, rfl, trivial⟩ (fun i : Nat => i ≤ s.truths.length) (fun i => [(7, natA (bsum (fun t => dryT s t p m) i)), (15, natA i)]) (fun _ => []) (fun i => s.truths.length - i) 0 (Nat.zero_le _) rfl ⟨rfl, rfl, trivial⟩ ?_ (fun _ _ => (show (0 : Nat) ≤ 0 from Nat.le_refl 0)) ?_
  · intro i _
    refine ⟨by simp, fun z hz => ?_⟩
    simp only [List.cons_append, List.nil_append, List.mem_cons, List.not_mem_nil, or_false] at hz
    rcases hz with rfl | rfl | rfl | rfl | rfl | rfl | rfl <;> first | rfl | exact lowTr _
  intro i hi
  have h0 := drA_0 s p m i
  have hE := drA_end s p m i
  have hend : i = s.truths.length → bsum (fun t => dryT s t p m) i = drN s p m := fun h => by rw [h]; rfl
  conv => whnf
  by_cases hlt : i < s.truths.length
  · have htl := ok.tl _ (getD_mem (d := default) hlt)
    have hplt : p < (s.truths.getD i default).2.length := by omega
    have hsl := hb.sl _ (getD_mem (d := default) hlt) _ (getD_mem (d := default) hplt)
    have e4 : (((s.truths.getD i default).2.map spsA).length : Int) = (s.truths.getD i default).2.length := by rw [List.length_map]
    have e5 : ((((s.truths.getD i default).2.getD p default).2.map sgA).length : Int) = ((s.truths.getD i default).2.getD p default).2.length := by rw [List.length_map]
    have hhit := fun j hj => drA_hit (s := s) (p := p) (m := m) (i := i) (j := j) hj
    have hmis := fun j hj => drA_miss (s := s) (p := p) (m := m) (i := i) (j := j) hj
    have hblt := fun j => bsum_lt (drA s p m i j) (i + 1)
    have hpw : 2 ^ (i + 1) ≤ 2 ^ 4 := Nat.pow_le_pow_right (by omega) (by omega)
    have hpw2 : 2 ^ i ≤ 2 ^ 4 := Nat.pow_le_pow_right (by omega) (by omega)
    rw [← h0]
    repeat' first | ((with_reducible apply XBr.dec) <;> (intro h; first | (exfalso; omega) | ((try simp only [List.length_map] at h); first | (exfalso; omega) | (conv => whnf)))) | (((with_reducible refine XIx.nat ?_ ?_ ?_); omega; (intro _; rfl)); conv => whnf) | fail
    refine Walk.loopGK tab_ok [] [(1, _), (2, _), (6, _), (8, _), (13, _), (14, _), (15, _), (24, _), (25, _)] ⟨rfl, rfl, rfl, rfl, rfl, rfl, rfl, rfl, rfl, trivial⟩ (fun j : Nat => j ≤ ((s.truths.getD i default).2.getD p default).2.length) (fun j => [(7, natA (bsum (drA s p m i j) (i + 1))), (26, natA j)]) (fun _ => [.cells [.sl (s.truths.getD i default).1 ((s.truths.getD i default).2.map spsA)]]) (fun j => ((s.truths.getD i default).2.getD p default).2.length - j) 0 (Nat.zero_le _) rfl ⟨rfl, rfl, trivial⟩ ?_ (fun _ _ => (show (1 : Nat) ≤ 1 from Nat.le_refl 1)) ?_
    · intro j _
      refine ⟨fun z hz => ?_, fun z hz => ?_⟩
      · rw [List.mem_singleton] at hz; subst hz
        simp only [Blk.low, lowL, AV.low, lowSps]; rfl
      · simp only [List.cons_append, List.nil_append, List.mem_cons, List.not_mem_nil, or_false] at hz
        rcases hz with rfl | rfl | rfl | rfl | rfl | rfl | rfl | rfl | rfl | rfl | rfl <;> first | rfl | exact lowTr _ | exact lowSg _
    intro j hj
    have hhit := hhit j
    have hmis := hmis j
    have hblt := hblt j
    have hje : j = ((s.truths.getD i default).2.getD p default).2.length → bsum (drA s p m i j) (i + 1) = bsum (fun t => dryT s t p m) (i + 1) := fun h => by rw [h]; exact hE
    generalize hv : bsum (drA s p m i j) (i + 1) = v at hhit hmis hblt hje
    conv => whnf
    by_cases hlt2 : j < ((s.truths.getD i default).2.getD p default).2.length
    · have hhit := hhit hlt2
      have hmis := hmis hlt2
      have a2 : ior .i64 (v : Int) ((2 ^ i : Nat) : Int) = ((v ||| 2 ^ i : Nat) : Int) := ior_nat (by omega) (by omega)
      by_cases hin : (((((s.truths.getD i default).2.getD p default).2).getD j default).1 ≤ (m : Int)) ∧ ((m : Int) ≤ ((((s.truths.getD i default).2.getD p default).2).getD j default).2)
      · have hx := hhit (inZ_iff.2 hin)
        repeat' first | ((with_reducible apply XBr.tt); conv => whnf) | ((with_reducible apply XBr.dec) <;> (intro h; first | (exfalso; omega) | ((try simp only [List.length_map] at h); first | (exfalso; omega) | (conv => whnf)))) | ((with_reducible refine XInt.i64 (by omega) (by omega) ?_); conv => whnf) | ((with_reducible refine XHold.mk ?_ ?_); (first | omega | rfl | decide | exact ⟨rfl, by decide, rfl⟩ | exact wideI _ | exact widePr _ | exact wideSk _ | (unfold Room; constructor <;> ((try simp) <;> omega)) | exact ⟨rfl, by simp only [List.length_map], by unfold Room; constructor <;> ((try simp) <;> omega)⟩ | exact ⟨by omega, by omega, by unfold Room; constructor <;> ((try simp) <;> omega)⟩); conv => whnf) | ((first | ((with_reducible refine XIx.nat ?_ ?_ ?_); omega; (intro _; rfl)) | (refine XInt.shl (by omega) ?_)); conv => whnf) | fail
        exact XAgainG.go (j + 1) [.cells (sgA ((((s.truths.getD i default).2.getD p default).2).getD j default)).cells] (by omega) (by omega) rfl ⟨rfl, rfl, rfl, rfl, rfl, rfl, rfl, rfl, rfl, (by show some (AV.int .i64 (ior .i64 _ _)) = _; rw [a2, hx]; rfl), rfl, trivial⟩
      · have hx := hmis (by rw [← Bool.not_eq_true, inZ_iff]; exact hin)
        repeat' first | ((first | (with_reducible apply XBr.tt) | (with_reducible apply XBr.ff)); conv => whnf) | ((with_reducible apply XBr.dec) <;> (intro h; first | (exfalso; omega) | ((try simp only [List.length_map] at h); first | (exfalso; omega) | (conv => whnf)))) | ((first | (with_reducible refine XInt.i64 (by omega) (by omega) ?_) | ((with_reducible refine XIx.nat ?_ ?_ ?_); omega; (intro _; rfl))); conv => whnf) | fail
        all_goals exact XAgainG.go (j + 1) [.cells (sgA ((((s.truths.getD i default).2.getD p default).2).getD j default)).cells] (by omega) (by omega) rfl ⟨rfl, rfl, rfl, rfl, rfl, rfl, rfl, rfl, rfl, (by rw [hx]; rfl), rfl, trivial⟩
    have hje := hje (by omega)
    rw [hje]
    repeat' first | ((with_reducible apply XBr.dec) <;> (intro h; first | (exfalso; omega) | ((try simp only [List.length_map] at h); first | (exfalso; omega) | (conv => whnf)))) | ((with_reducible refine XInt.i64 (by omega) (by omega) ?_); conv => whnf) | fail
    exact XAgainG.go (i + 1) [.cells [.sl (s.truths.getD i default).1 ((s.truths.getD i default).2.map spsA)]] (by omega) (by omega) rfl ⟨rfl, rfl, rfl, rfl, rfl, rfl, rfl, trivial⟩
  rw [hend (by omega)]
  repeat' first | ((with_reducible apply XBr.dec) <;> (intro h; first | (exfalso; omega) | ((try simp only [List.length_map] at h); first | (exfalso; omega) | (conv => whnf)))) | fail
  exact XOut.int rfl
theorem first_c (l : Nat) (hl : l < 16) : Comp Try.prog 19 [natA l] (natA (lowB l)) := by
  obtain ⟨f, hf⟩ : ∃ f : Nat, f = lowB l := ⟨_, rfl⟩
  have hlo : ∀ i, i < f → i < 4 → l.testBit i = false := fun i hi h4 => lowB_least ⟨l, hl⟩ ⟨i, h4⟩ (by rw [← hf]; exact hi)
  have hhi : l ≠ 0 → l.testBit f = true := fun h => by rw [hf]; exact (lowB_bit ⟨l, hl⟩ h).1
  have hf4 : f < 4 := by rw [hf]; exact lowB_lt l
  have h00 : l = 0 → f = 0 := fun h => by rw [hf, h]; rfl
  have hsh : ∀ i : Nat, i < 4 → iand .i64 ((l : Int).fdiv (2 ^ (min (i : Int).toNat IntKind.i64.bits))) 1 = if l.testBit i = true then 1 else 0 := fun i h4 => by
    rw [shr_nat (by omega)]
    have h1 : iand .i64 ((l / 2 ^ i : Nat) : Int) ((1 : Nat) : Int) = ((l / 2 ^ i &&& 1 : Nat) : Int) := iand_nat (by have := Nat.div_le_self l (2 ^ i); omega) (by omega)
    refine Eq.trans h1 ?_
    rw [Nat.and_one_is_mod, Nat.testBit_eq_decide_div_mod_eq]
    by_cases e : l / 2 ^ i % 2 = 1
    · rw [e, decide_eq_true rfl, if_pos rfl]; rfl
    · rw [decide_eq_false e, if_neg (by simp)]; omega
  rw [← hf]
  refine Comp.body (T := tab) (res := [.tmp 2]) tab_ok [] Try.func19 rfl (by kernel_rfl) Try.ntmps19 rfl (by simp only [List.length_cons, List.length_nil]; decide) (by simp only [lowL, AV.low, natA]; rfl) ?_; conv => whnf
  skip
  refine Walk.loopK tab_ok [] [(0, _)] ⟨rfl, trivial⟩ (fun i : Nat => i ≤ 4 ∧ ∀ j, j < i → l.testBit j = false) (fun i => [(4, natA i)]) (fun _ => []) (fun i => 4 - i) 0 ⟨by omega, fun j hj => by omega⟩ rfl ⟨rfl, trivial⟩ ?_
  rintro i ⟨hi, hI⟩
  conv => whnf
  by_cases hlt : i < 4
  · have hs := hsh i hlt
    cases hb : l.testBit i with
    | true =>
      have hfi : f = i := by
        rcases Nat.lt_trichotomy f i with h | h | h
        · have h1 := hI f h
          by_cases h0 : l = 0
          · rw [h0, Nat.zero_testBit] at hb; cases hb
          · rw [hhi h0] at h1; cases h1
        · exact h
        · rw [hlo i h hlt] at hb; cases hb
      rw [hb, if_pos rfl] at hs
      repeat' first | ((with_reducible apply XBr.dec) <;> (intro h; first | (exfalso; omega) | ((try simp only [List.length_map] at h); first | (exfalso; omega) | (conv => whnf)))) | ((with_reducible apply XBr.beq) <;> (intro h; first | (exfalso; omega) | (conv => whnf))) | ((with_reducible refine XHold.mk ?_ ?_); (first | omega | rfl | decide | exact ⟨rfl, by decide, rfl⟩ | exact wideI _ | exact widePr _ | exact wideSk _ | (unfold Room; constructor <;> ((try simp) <;> omega)) | exact ⟨rfl, by simp only [List.length_map], by unfold Room; constructor <;> ((try simp) <;> omega)⟩ | exact ⟨by omega, by omega, by unfold Room; constructor <;> ((try simp) <;> omega)⟩); conv => whnf) | fail
      exact XOut.int (by rw [hfi])
    | false =>
      rw [hb, if_neg (by simp)] at hs
      repeat' first | ((with_reducible apply XBr.dec) <;> (intro h; first | (exfalso; omega) | ((try simp only [List.length_map] at h); first | (exfalso; omega) | (conv => whnf)))) | ((with_reducible apply XBr.beq) <;> (intro h; first | (exfalso; omega) | (conv => whnf))) | ((with_reducible refine XInt.i64 (by omega) (by omega) ?_); conv => whnf) | ((with_reducible refine XHold.mk ?_ ?_); (first | omega | rfl | decide | exact ⟨rfl, by decide, rfl⟩ | exact wideI _ | exact widePr _ | exact wideSk _ | (unfold Room; constructor <;> ((try simp) <;> omega)) | exact ⟨rfl, by simp only [List.length_map], by unfold Room; constructor <;> ((try simp) <;> omega)⟩ | exact ⟨by omega, by omega, by unfold Room; constructor <;> ((try simp) <;> omega)⟩); conv => whnf) | (rw [hs]; conv => whnf) | fail
      refine XAgain.go (i + 1) ⟨by omega, fun j hj => ?_⟩ (by omega) rfl ⟨rfl, rfl, trivial⟩
      by_cases e : j = i
      · rw [e]; exact hb
      · exact hI j (by omega)
  have hz : l = 0 := by
    refine Classical.byContradiction fun h => ?_
    have := hhi h
    rw [hI f (by omega)] at this; cases this
  have := h00 hz
  repeat' first | ((with_reducible apply XBr.dec) <;> (intro h; first | (exfalso; omega) | ((try simp only [List.length_map] at h); first | (exfalso; omega) | (conv => whnf)))) | fail
  exact XOut.int (by omega)
end GA
end

section
namespace GA
open Go Go.RowKit Go.Proofs
set_option pp.deepTerms true
set_option maxRecDepth 8000
set_option linter.unusedVariables false
set_option linter.unusedSimpArgs false

theorem lawParts_c (s : Sn) (ok : SnOk s) (p left : Nat) (hp : (p : Int) < s.places) (hl : left ≤ 1000) : Comp Try.prog 15 [snA s, natA p, natA left] (nsA (partsL s p left)) := by
  have p2 := ok.p2; have k1 := ok.k1; have t2 := ok.t2
  have e1 : ((s.looks.map rwA).length : Int) = s.looks.length := by rw [List.length_map]
  refine Comp.body (T := tab) (res := [.tmp 6]) tab_ok [] Try.func15 rfl (by kernel_rfl) Try.ntmps15 rfl (by simp only [List.length_cons, List.length_nil]; decide) (by simp only [lowL, AV.low, snL]; rfl) ?_; conv => whnf
  skip
  refine Walk.nilgr 7 3 rfl ?_
  refine Walk.loopGK tab_ok [] [(1, _), (2, _), (3, _), (6, _)] ⟨rfl, rfl, rfl, rfl, trivial⟩ (fun n : Nat => n ≤ 4) (fun n => [(7, .gr 0 (partsK s p left n).length), (12, natA n)]) (fun n => [.grow 3 (partsK s p left n).isEmpty ((partsK s p left n).map natA)]) (fun n => 4 - n) 0 (by omega) rfl ⟨rfl, rfl, trivial⟩ ?_ (fun _ _ => (show (1 : Nat) ≤ 1 from Nat.le_refl 1)) ?_
  · intro n _
    refine ⟨fun z hz => ?_, fun z hz => ?_⟩
    · rw [List.mem_singleton] at hz; subst hz; exact nsL _
    · simp only [List.cons_append, List.nil_append, List.mem_cons, List.not_mem_nil, or_false] at hz
      rcases hz with rfl | rfl | rfl | rfl | rfl | rfl <;> first | rfl | exact snCL s
  intro n hn
  have hlen : (partsK s p left n).length ≤ n := by
    clear hn
    induction n with
    | zero => exact Nat.le_refl _
    | succ n ih => rw [partsK, List.length_append]; split <;> simp only [List.length_cons, List.length_nil] <;> omega
  have hnx : partsK s p left (n + 1) = partsK s p left n ++ if partN s p left n = 0 then [] else [partN s p left n] := rfl
  have hend : n = 4 → partsK s p left n = partsL s p left := fun h => by rw [h]; rfl
  generalize partsK s p left n = R at hlen hnx hend
  have hRl : (R.map natA).length = R.length := List.length_map _
  conv => whnf
  by_cases hlt : n < 4
  · skip
    repeat' first | ((with_reducible apply XBr.dec) <;> (intro h; first | (exfalso; omega) | ((try simp only [List.length_map] at h); first | (exfalso; omega) | (conv => whnf)))) | fail
    refine Walk.loopK tab_ok [] [(1, _), (2, _), (3, _), (6, _), (7, _), (8, _), (12, _), (16, _), (17, _)] ⟨rfl, rfl, rfl, rfl, rfl, rfl, rfl, rfl, rfl, trivial⟩ (fun i : Nat => i ≤ s.looks.length) (fun i => [(9, natA (partI s p left n i)), (18, natA i)]) (fun _ => [.grow 3 R.isEmpty (R.map natA)]) (fun i => s.looks.length - i) 0 (Nat.zero_le _) rfl ⟨rfl, rfl, trivial⟩ ?_
    intro i hi
    conv => whnf
    by_cases hlt2 : i < s.looks.length
    · have hll := ok.kl _ (getD_mem (d := default) hlt2)
      have hlk : lookZ s i p = (s.looks.getD i default).2.getD p default := rfl
      have b1 := partI_lt s p left n i
      have b2 : 2 ^ i ≤ 2 ^ 4 := Nat.pow_le_pow_right (by omega) (by omega)
      have b3 : 2 ^ i &&& left ≤ left := Nat.and_le_right
      have a1 : iand .i64 ((2 ^ i : Nat) : Int) (left : Int) = ((2 ^ i &&& left : Nat) : Int) := iand_nat (by omega) (by omega)
      have a2 : ior .i64 (partI s p left n i : Int) ((2 ^ i &&& left : Nat) : Int) = ((partI s p left n i ||| (2 ^ i &&& left) : Nat) : Int) := ior_nat (by omega) (by omega)
      repeat' first | ((with_reducible apply XBr.dec) <;> (intro h; first | (exfalso; omega) | ((try simp only [List.length_map] at h); first | (exfalso; omega) | (conv => whnf)))) | ((with_reducible apply XBr.beq) <;> (intro h; first | (exfalso; omega) | (conv => whnf))) | ((with_reducible refine XInt.i64 (by omega) (by omega) ?_); conv => whnf) | ((with_reducible refine XHold.mk ?_ ?_); (first | omega | rfl | decide | exact ⟨rfl, by decide, rfl⟩ | exact wideI _ | exact widePr _ | exact wideSk _ | (unfold Room; constructor <;> ((try simp) <;> omega)) | exact ⟨rfl, by simp only [List.length_map], by unfold Room; constructor <;> ((try simp) <;> omega)⟩ | exact ⟨by omega, by omega, by unfold Room; constructor <;> ((try simp) <;> omega)⟩); conv => whnf) | ((first | ((with_reducible refine XIx.nat ?_ ?_ ?_); omega; (intro _; rfl)) | (refine XInt.shl (by omega) ?_)); conv => whnf) | fail
      · exact XAgain.go (i + 1) (by omega) (by omega) rfl ⟨rfl, rfl, rfl, rfl, rfl, rfl, rfl, rfl, rfl, (by show some (AV.int .i64 (ior .i64 _ (iand .i64 _ _))) = _; rw [a1, a2, partI_hit (by assumption)]; rfl), rfl, trivial⟩
      · exact XAgain.go (i + 1) (by omega) (by omega) rfl ⟨rfl, rfl, rfl, rfl, rfl, rfl, rfl, rfl, rfl, (by show some (natA (partI s p left n i)) = _; rw [partI_miss (by assumption)]), rfl, trivial⟩
    obtain rfl : i = s.looks.length := by omega
    have hpN : partI s p left n s.looks.length = partN s p left n := rfl
    rw [hpN]
    generalize partN s p left n = v at hnx
    repeat' first | ((with_reducible apply XBr.dec) <;> (intro h; first | (exfalso; omega) | ((try simp only [List.length_map] at h); first | (exfalso; omega) | (conv => whnf)))) | ((with_reducible refine XInt.i64 (by omega) (by omega) ?_); conv => whnf) | ((with_reducible refine XHold.mk ?_ ?_); (first | omega | rfl | decide | exact ⟨rfl, by decide, rfl⟩ | exact wideI _ | exact widePr _ | exact wideSk _ | (unfold Room; constructor <;> ((try simp) <;> omega)) | exact ⟨rfl, by simp only [List.length_map], by unfold Room; constructor <;> ((try simp) <;> omega)⟩ | exact ⟨by omega, by omega, by unfold Room; constructor <;> ((try simp) <;> omega)⟩); conv => whnf) | fail
    · have hx : partsK s p left (n + 1) = R ++ [v] := by rw [hnx, if_neg (by omega)]
      refine XAgainG.go (n + 1) [] (by omega) (by omega) ?_ ⟨rfl, rfl, rfl, rfl, (by show some (AV.gr 0 (R.length + 1)) = _; rw [hx, List.length_append]; rfl), rfl, trivial⟩
      show [Blk.grow _ (partsK s p left (n + 1)).isEmpty ((partsK s p left (n + 1)).map natA)] ++ [] = _
      rw [hx, isEmpty_app, List.map_append]; rfl
    · have hx : partsK s p left (n + 1) = R := by rw [hnx, if_pos (by omega), List.append_nil]
      refine XAgainG.go (n + 1) [] (by omega) (by omega) ?_ ⟨rfl, rfl, rfl, rfl, (by rw [hx]; rfl), rfl, trivial⟩
      show [Blk.grow _ (partsK s p left (n + 1)).isEmpty ((partsK s p left (n + 1)).map natA)] ++ [] = _
      rw [hx]; rfl
  obtain rfl : n = 4 := by omega
  rw [← hend rfl]
  repeat' first | ((with_reducible apply XBr.dec) <;> (intro h; first | (exfalso; omega) | ((try simp only [List.length_map] at h); first | (exfalso; omega) | (conv => whnf)))) | fail
  exact ⟨Froz.grow rfl hRl (nsL _)⟩
theorem vld_stt {s : Sn} (ok : SnOk s) {y : Sta} (h : vld s y ∧ y.l ≠ 0) : sttE s y.p y.m y.l = 0 := by
  obtain ⟨⟨h1, h2, h3⟩, h4⟩ := h
  exact sttE_iff.2 ⟨ok, ⟨by omega, h1⟩, ⟨by omega, h2⟩, by omega, by omega⟩
theorem hpB_ok {nl : Bool} {bs : List Int} (h : bs.length < 9223372036854775808) : (hp0 nl bs).Ok := ⟨h, .inr rfl⟩
theorem XInt.shlL {α : Type} {f : α → AV} {xs : List α} {w : Nat} {k : AV → Prop} (hw : w = 2 ^ xs.length) (h : xs.length ≤ 62) (hk : k (natA w)) : XInt .i64 (1 * 2 ^ min (((xs.map f).length : Nat) : Int).toNat IntKind.i64.bits) k := by
  rw [List.length_map]; subst hw; exact XInt.shl h hk
theorem st_eta (y : Sta) : stN (y.p : Int) (y.m : Int) (y.l : Int) = y := by cases y; rfl
end GA
end

section
namespace GA
open Go Go.RowKit Go.Proofs
set_option pp.deepTerms true
set_option maxRecDepth 8000
set_option linter.unusedVariables false
set_option linter.unusedSimpArgs false

abbrev Rs := Bool × List Rw
def tbN (T : List Rs) (y : Sta) : Int := (((T.getD y.p default).2.getD y.m default).2).getD y.l default
structure TbOk (s : Sn) (T : List Rs) : Prop where
  a : (T.length : Int) = s.places
  b : ∀ p, p < T.length → ((T.getD p default).2.length : Int) = s.last + 1
  c : ∀ p m, p < T.length → m < (T.getD p default).2.length → ((T.getD p default).2.getD m default).2.length = allN s + 1
  d : ∀ p m l, p < T.length → m < (T.getD p default).2.length → l < ((T.getD p default).2.getD m default).2.length → -1 ≤ tbN T ⟨p, m, l⟩ ∧ tbN T ⟨p, m, l⟩ ≤ 60
theorem TbOk.at {s : Sn} {T : List Rs} (h : TbOk s T) {y : Sta} (hy : vld s y) : y.p < T.length ∧ y.m < (T.getD y.p default).2.length ∧ y.l < ((T.getD y.p default).2.getD y.m default).2.length ∧ -1 ≤ tbN T y ∧ tbN T y ≤ 60 := by
  obtain ⟨v1, v2, v3⟩ := hy
  have h1 := h.a
  have h2 : y.p < T.length := by omega
  have h3 := h.b _ h2
  have h4 : y.m < (T.getD y.p default).2.length := by omega
  have h5 := h.c _ _ h2 h4
  have h6 : y.l < ((T.getD y.p default).2.getD y.m default).2.length := by omega
  exact ⟨h2, h4, h6, h.d _ _ _ h2 h4 h6⟩
end GA
end

section
namespace GA
open Go Go.RowKit Go.Proofs
set_option pp.deepTerms true
set_option maxRecDepth 8000
set_option linter.unusedVariables false
set_option linter.unusedSimpArgs false

structure TbB (T : List Rs) : Prop where
  a : T.length ≤ 1000
  b : ∀ l ∈ T, l.2.length ≤ 1000
  c : ∀ l ∈ T, ∀ r ∈ l.2, r.2.length ≤ 1000
end GA
end

section
namespace GA
open Go Go.RowKit Go.Proofs
set_option pp.deepTerms true
set_option maxRecDepth 8000
set_option linter.unusedVariables false
set_option linter.unusedSimpArgs false

theorem st_vld {s : Sn} {p m l : Int} (h : sttE s p m l = 0) : vld s (stN p m l) := by
  obtain ⟨ok, h1, h2, h3, h4⟩ := sttE_iff.1 h
  exact ⟨by show ((p.toNat : Nat) : Int) < s.places; omega, by show ((m.toNat : Nat) : Int) ≤ s.last; omega, by show l.toNat ≤ allN s; omega⟩
theorem fWorth_ok (s : Sn) (hb : SnB s) (p m l : Int) (h : sttE s p m l = 0) : Comp Try.prog 21 [snA s, xA p m l] (.tup [.int .i64 (worthZ s (stN p m l)), .int .i64 0]) := by
  have hs := stated_ok s hb p m l h
  obtain ⟨ok, h1, h2, h3, h4⟩ := sttE_iff.1 h
  have hx := xA_st h1.1 h2.1 (show 0 ≤ l by omega)
  have hw := worths_c s ok
  have hc := wof_c s ok (stN p m l) (st_vld h)
  rw [← hx] at hc
  refine Comp.body (T := tab) (res := [.tmp 4, .tmp 5]) tab_ok [] Try.func21 rfl (by kernel_rfl) Try.ntmps21 rfl (by simp only [List.length_cons, List.length_nil]; decide) (by simp only [lowL, snL, xL]; rfl) ?_; conv => whnf
  repeat' first | ((with_reducible first | apply XBr.tt | apply XBr.ff | apply Chk.go | apply ChkA.go | apply ChkF.go | apply ChkB.go | apply XArr.pim0 | apply XArr.pim1); conv => whnf) | (with_reducible apply XBr.not) | ((with_reducible apply XBr.dec) <;> (intro h; first | (exfalso; omega) | ((try simp only [List.length_map] at h); first | (exfalso; omega) | (conv => whnf)))) | ((with_reducible first | apply XBr.beq | apply XBr.bne) <;> (intro h; first | (exfalso; omega) | (conv => whnf))) | ((with_reducible refine XInt.i64 (by omega) (by omega) ?_); conv => whnf) | ((with_reducible refine XHold.mk ?_ ?_); (first | omega | rfl | decide | exact ⟨rfl, by decide, rfl⟩ | exact wideI _ | exact widePr _ | exact wideSk _ | (unfold Room; constructor <;> ((try simp) <;> omega)) | exact ⟨rfl, by simp only [List.length_map], by unfold Room; constructor <;> ((try simp) <;> omega)⟩ | exact ⟨by omega, by omega, by unfold Room; constructor <;> ((try simp) <;> omega)⟩); conv => whnf) | ((first | ((with_reducible refine XIx.nat ?_ ?_ ?_); omega; (intro _; rfl)) | ((with_reducible refine XIx.map ?_ ?_ ?_ ?_); omega; omega; (intro _; rfl))); conv => whnf) | (with_reducible apply XAnd.mk) | (exact XSame.mk rfl rfl) | (exact XSame.mk (by first | rfl | (simp only [List.map_append, List.length_append, List.length_map]; done) | (simp only [List.map_append, List.length_append, List.length_map]; rfl)) (by first | rfl | (simp only [List.map_append]; done) | (simp only [List.map_append]; rfl))) | (with_reducible exact trivial) | ((first | (with_reducible refine xdrop_app (by rw [List.length_map]; omega) ?_) | (with_reducible refine XDrop.desk (by assumption) ?_) | (with_reducible first | refine XArr.ints (by omega) (by omega) (by omega) ?_ | refine XArr.intsA (by omega) (by omega) (by omega) ?_) | ((with_reducible first | refine XArr.nats ?_ ?_ ?_ | refine XArr.natsA ?_ ?_ ?_ | refine XArr.ptr ?_ ?_ ?_); omega; omega)); conv => whnf) | (apply Walk.drawN (id := 4) tab_ok mixed_ok [] [] (hsU _) [_, _, _, _, _, _] (by kernel_rfl) rfl) | ((first | (with_reducible apply XNext.mk) | (refine XCall.ret hs ?_) | (refine XCall.ret hw ?_) | (refine XCall.ret hc ?_)); conv => whnf) | ((with_reducible apply XBr.mk') <;> (intro h; conv => whnf))
  exact ⟨.low rfl⟩
theorem XCall.as {P : Program} {f : FuncId} {rs rs' : List AV} {H : List Blk} {k : AV → List Blk → Prop} (e : rs' = rs) (x : XCall P f rs' H k) : XCall P f rs H k := e ▸ x
end GA
end

section
namespace GA
open Go Go.RowKit Go.Proofs
set_option pp.deepTerms true
set_option maxRecDepth 8000
set_option linter.unusedVariables false
set_option linter.unusedSimpArgs false

theorem subAnd {a b : Nat} (h : ∀ i, a.testBit i = true → b.testBit i = true) : a &&& b = a := by
  refine bit_ext fun i => ?_
  rw [Nat.testBit_and]
  cases e : a.testBit i with
  | false => rfl
  | true => rw [h i e]; rfl
theorem and_sub {a b : Nat} (h : a &&& b = a) : ∀ i, a.testBit i = true → b.testBit i = true := fun i hi => by
  rw [← h, Nat.testBit_and, Bool.and_eq_true] at hi
  exact hi.2
theorem andn_sub : ∀ a b : Fin 16, a.val &&& b.val = a.val → iandn .i64 (a.val : Int) (b.val : Int) = 0 := by decide +kernel
theorem partsK_seq (s : Sn) (p left : Nat) : ∀ n, ∃ N : List Nat, partsK s p left n = N.map (partN s p left) ∧ N.Pairwise (· < ·) ∧ ∀ k ∈ N, k < n
  | 0 => ⟨[], rfl, .nil, by simp⟩
  | n + 1 => by
    obtain ⟨N, h1, h2, h3⟩ := partsK_seq s p left n
    rw [partsK, h1]
    by_cases e : partN s p left n = 0
    · rw [if_pos e, List.append_nil]
      exact ⟨N, rfl, h2, fun k hk => by have := h3 k hk; omega⟩
    · rw [if_neg e]
      refine ⟨N ++ [n], by rw [List.map_append]; rfl, List.pairwise_append.2 ⟨h2, List.pairwise_singleton _ _, fun a ha b hb => ?_⟩, fun k hk => ?_⟩
      · rw [List.mem_singleton] at hb; rw [hb]; exact h3 a ha
      · rcases List.mem_append.1 hk with hk | hk
        · have := h3 k hk; omega
        · rw [List.mem_singleton] at hk; omega
def orK (A : List Sta) : Nat → Nat
  | 0 => 0
  | i + 1 => orK A i ||| (A.getD i default).l
theorem orK_bit {A : List Sta} {j : Nat} : ∀ {i : Nat}, (orK A i).testBit j = true ↔ ∃ k, k < i ∧ (A.getD k default).l.testBit j = true
  | 0 => by
    rw [orK, Nat.zero_testBit]
    exact ⟨fun h => (by cases h), fun h => (by obtain ⟨k, hk, -⟩ := h; omega)⟩
  | i + 1 => by
    rw [orK, Nat.testBit_or, Bool.or_eq_true, orK_bit]
    constructor
    · rintro (⟨k, h1, h2⟩ | h)
      · exact ⟨k, by omega, h2⟩
      · exact ⟨i, by omega, h⟩
    · rintro ⟨k, h1, h2⟩
      by_cases e : k = i
      · rw [e] at h2; exact .inr h2
      · exact .inl ⟨k, by omega, h2⟩
structure AftOk (s : Sn) (x : Sta) (t : Int × Int) (A : List Sta) : Prop where
  h : ∀ i, i < A.length → (A.getD i default).p = t.1.toNat ∧ (A.getD i default).m = (x.m + t.2).toNat ∧ (A.getD i default).l ≠ 0 ∧ (A.getD i default).l ≤ allN s ∧ lowB (A.getD i default).l < s.looks.length
  dry : ∀ i, i < A.length → iandn .i64 ((A.getD i default).l : Int) (drN s t.1.toNat (x.m + t.2).toNat : Int) = 0
  dis : ∀ i, i < A.length → orK A i &&& (A.getD i default).l = 0
  lk : ∀ i, 0 < i → i < A.length → lookZ s (lowB (A.getD (i - 1) default).l) t.1.toNat < lookZ s (lowB (A.getD i default).l) t.1.toNat
  all : orK A A.length = x.l
  le : ∀ i, i ≤ A.length → orK A i ≤ allN s
theorem all_sub {s : Sn} {a : Nat} (h : a ≤ allN s) : ∀ i, a.testBit i = true → i < s.truths.length := fun i hi => by
  have h1 : a < 2 ^ s.truths.length := by
    have : 1 ≤ 2 ^ s.truths.length := Nat.one_le_two_pow
    have e : allN s = 2 ^ s.truths.length - 1 := rfl
    omega
  refine Classical.byContradiction fun hn => ?_
  rw [Nat.testBit_lt_two_pow (Nat.lt_of_lt_of_le h1 (Nat.pow_le_pow_right (by omega) (Nat.le_of_not_lt hn)))] at hi
  cases hi
theorem sub_all {s : Sn} {a : Nat} (h : ∀ i, a.testBit i = true → i < s.truths.length) : a ≤ allN s := by
  have e : a &&& allN s = a := subAnd fun i hi => by rw [allN_bit]; exact decide_eq_true (h i hi)
  rw [← e]; exact Nat.and_le_right
theorem aft_ok {s : Sn} (ok : SnOk s) {x : Sta} {t : Int × Int} (hx : x.l ≤ allN s) (hne : afterS s x t ≠ []) : AftOk s x t (afterS s x t) := by
  have hal := allN_lt ok
  have k1 := ok.k1
  have e : afterS s x t = outS s x t := by
    unfold afterS at hne ⊢
    split
    · rfl
    · rename_i h; rw [if_neg h] at hne; exact absurd rfl hne
  obtain ⟨y0, hy0⟩ := List.exists_mem_of_ne_nil _ hne
  obtain ⟨a1, a2, a3, a4, a5, a6⟩ := afterS_mem hy0
  have hw := waysL_pos ok a4
  have hcs : (outS s x t).all (safeB s) = true := by
    unfold afterS at hne
    split at hne
    · rename_i h; exact h.2.2.2
    · exact absurd rfl hne
  have htp : ((t.1.toNat : Nat) : Int) < s.places := by omega
  obtain ⟨N, hN, hp, hl⟩ := partsK_seq s t.1.toNat x.l 4
  have hA : outS s x t = N.map fun n => (⟨t.1.toNat, (x.m + t.2).toNat, partN s t.1.toNat x.l n⟩ : Sta) := by
    unfold outS partsL
    rw [hN, List.map_map]; rfl
  rw [e]
  have hlen : (outS s x t).length = N.length := by rw [hA, List.length_map]
  have hget : ∀ i, i < N.length → (outS s x t).getD i default = ⟨t.1.toNat, (x.m + t.2).toNat, partN s t.1.toNat x.l (N.getD i 0)⟩ := fun i hi => by
    rw [hA, List.getD_eq_getElem?_getD, List.getElem?_map, List.getElem?_eq_getElem hi, List.getD_eq_getElem?_getD, List.getElem?_eq_getElem hi]; rfl
  have hbit : ∀ i j, i < N.length → ((outS s x t).getD i default).l.testBit j = true → j < s.looks.length ∧ lookZ s j t.1.toNat = (N.getD i 0 : Nat) ∧ x.l.testBit j = true := fun i j hi h => by
    rw [hget i hi] at h
    dsimp only at h
    rw [partN_bit] at h
    simp only [Bool.and_eq_true, decide_eq_true_eq, beq_iff_eq] at h
    exact h
  have hlt : ∀ i j, i < j → j < N.length → N.getD i 0 < N.getD j 0 := fun i j hij hj => by
    rw [List.getD_eq_getElem?_getD, List.getElem?_eq_getElem (by omega), List.getD_eq_getElem?_getD, List.getElem?_eq_getElem hj]
    exact List.pairwise_iff_getElem.1 hp i j (by omega) hj hij
  have hmem : ∀ i, i < N.length → (outS s x t).getD i default ∈ outS s x t := fun i hi => getD_mem (by rw [hlen]; exact hi)
  have hne0 : ∀ i, i < N.length → ((outS s x t).getD i default).l ≠ 0 := fun i hi => by
    obtain ⟨-, -, h⟩ := outS_mem.1 (hmem i hi)
    obtain ⟨n, -, -, h⟩ := partsL_mem.1 h
    exact h
  have hle : ∀ i, i < N.length → ((outS s x t).getD i default).l ≤ allN s := fun i hi => sub_all fun j hj => by
    have := hbit i j hi hj; omega
  have hlow : ∀ i, i < N.length → ((outS s x t).getD i default).l.testBit (lowB ((outS s x t).getD i default).l) = true := fun i hi => by
    have h1 := hle i hi
    exact (lowB_bit ⟨_, Nat.lt_of_le_of_lt h1 hal⟩ (hne0 i hi)).1
  have hin : (outS s x t).length ≤ 4 := by
    have := partsL_len s t.1.toNat x.l
    unfold outS; rw [List.length_map]; exact this
  refine ⟨fun i hi => ?_, fun i hi => ?_, fun i hi => ?_, fun i h0 hi => ?_, ?_, fun i hi => ?_⟩
  · rw [hlen] at hi
    refine ⟨by rw [hget i hi], by rw [hget i hi], hne0 i hi, hle i hi, (hbit i _ hi (hlow i hi)).1⟩
  · rw [hlen] at hi
    have hsf := safeB_iff.1 (List.all_eq_true.1 hcs _ (hmem i hi))
    have hd := drN_lt ok t.1.toNat (x.m + t.2).toNat
    refine andn_sub ⟨_, Nat.lt_of_le_of_lt (hle i hi) hal⟩ ⟨_, hd⟩ (subAnd fun j hj => ?_)
    have := hsf.2 j hj
    rw [hget i hi] at this
    rw [drN_bit, Bool.and_eq_true, decide_eq_true_eq]
    exact this
  · rw [hlen] at hi
    refine bit_ext fun j => ?_
    rw [Nat.zero_testBit, Nat.testBit_and]
    cases h1 : (orK (outS s x t) i).testBit j with
    | false => rfl
    | true =>
      cases h2 : ((outS s x t).getD i default).l.testBit j with
      | false => rfl
      | true =>
        obtain ⟨k, hk, h3⟩ := orK_bit.1 h1
        have b1 := hbit k j (by omega) h3
        have b2 := hbit i j hi h2
        have b3 := hlt k i hk hi
        omega
  · rw [hlen] at hi
    have b1 := hbit (i - 1) _ (by omega) (hlow (i - 1) (by omega))
    have b2 := hbit i _ hi (hlow i hi)
    have b3 := hlt (i - 1) i (by omega) hi
    rw [b1.2.1, b2.2.1]; omega
  · refine bit_ext fun j => ?_
    rw [Bool.eq_iff_iff, orK_bit]
    constructor
    · rintro ⟨k, hk, h⟩
      exact (hbit k j (by omega) h).2.2
    · intro hj
      have hjt := all_sub hx j hj
      obtain ⟨n, hn, h1, h2, h3⟩ := parts_has ok htp (left := x.l) (i := j) (by omega) hj
      unfold partsL at h2
      have h2' : (⟨t.1.toNat, (x.m + t.2).toNat, partN s t.1.toNat x.l n⟩ : Sta) ∈ outS s x t := outS_mem.2 ⟨rfl, rfl, h2⟩
      obtain ⟨k, hk, e2⟩ := List.getElem_of_mem h2'
      refine ⟨k, hk, ?_⟩
      rw [List.getD_eq_getElem?_getD, List.getElem?_eq_getElem hk]
      show ((outS s x t)[k]).l.testBit j = true
      rw [e2]; exact h3
  · refine sub_all fun j hj => ?_
    obtain ⟨k, hk, h⟩ := orK_bit.1 hj
    have := hbit k j (by omega) h
    omega
end GA
end

section
namespace GA
open Go Go.RowKit Go.Proofs
set_option pp.deepTerms true
set_option maxRecDepth 8000
set_option linter.unusedVariables false
set_option linter.unusedSimpArgs false

theorem equal_sg (n1 n2 : Bool) (xs : List (Int × Int)) (hx : xs.length ≤ 100000) : Comp Try.prog 148 [.sl n1 (xs.map (sgA)), .sl n2 (xs.map (sgA))] (.bool true) := by
  refine Comp.body (T := tab) (res := [.tmp 4]) tab_ok [] Try.func148 rfl (by kernel_rfl) Try.ntmps148 rfl (by simp only [List.length_cons, List.length_nil]; decide) (by simp only [lowL, AV.low, lowSg]; rfl) ?_; conv => whnf
  repeat' first | ((with_reducible apply XBr.bne) <;> (intro h; first | (exfalso; omega) | (conv => whnf))) | fail
  refine Walk.loopK tab_ok [] [(0, _), (1, _), (12, _)] ⟨rfl, rfl, rfl, trivial⟩ (fun i : Nat => i ≤ xs.length) (fun i => [(13, natA i)]) (fun _ => []) (fun i => xs.length - i) 0 (Nat.zero_le _) rfl ⟨rfl, trivial⟩ ?_
  intro i hi
  conv => whnf
  have e1 : ((xs.map (sgA)).length : Int) = xs.length := by rw [List.length_map]
  by_cases hlt : i < xs.length
  · skip
    repeat' first | ((with_reducible apply XBr.ff); conv => whnf) | ((with_reducible apply XBr.dec) <;> (intro h; first | (exfalso; omega) | ((try simp only [List.length_map] at h); first | (exfalso; omega) | (conv => whnf)))) | ((first | (with_reducible refine XInt.i64 (by omega) (by omega) ?_) | ((with_reducible refine XIx.nat ?_ ?_ ?_); omega; (intro _; rfl))); conv => whnf) | (with_reducible apply XAnd.mk) | ((first | (with_reducible apply Chk.go) | (with_reducible apply ChkA.go) | (with_reducible apply ChkF.go) | (with_reducible apply ChkB.go)); conv => whnf) | (exact XSame.mk rfl rfl) | (with_reducible exact trivial) | (apply Walk.drawN (id := 6) tab_ok mixed_ok [] [] (hsU _) [_, _, _, _, _, _, _, _, _] (by kernel_rfl) rfl) | ((with_reducible apply XNext.mk); conv => whnf) | ((refine XEqA.mk ⟨[(xs.getD i default).1, (xs.getD i default).2], [(xs.getD i default).1, (xs.getD i default).2], rfl, rfl, rfl, rfl, ?_⟩); exact XSame.mk (show AV.bool (!(_ == _)) = AV.bool false by simp) rfl) | fail
    exact XAgain.go (i + 1) (by omega) (by omega) rfl ⟨rfl, rfl, rfl, rfl, trivial⟩
  obtain rfl : i = xs.length := by omega
  repeat' first | ((with_reducible apply XBr.dec) <;> (intro h; first | (exfalso; omega) | ((try simp only [List.length_map] at h); first | (exfalso; omega) | (conv => whnf)))) | fail
  exact XOut.bool rfl
theorem eq_sg (n1 n2 : Bool) (xs : List (Int × Int)) (hx : xs.length ≤ 100000) : Comp Try.prog 76 [.sl n1 (xs.map (sgA)), .sl n2 (xs.map (sgA))] (.bool true) := by
  refine Comp.body (T := tab) (res := [.tmp 4]) tab_ok [] Try.func76 rfl (by kernel_rfl) Try.ntmps76 rfl (by simp only [List.length_cons, List.length_nil]; decide) (by simp only [lowL, AV.low, lowSg]; rfl) ?_; conv => whnf
  repeat' first | ((refine XCall.ret (equal_sg n1 n2 xs hx) ?_); conv => whnf) | fail
  exact XOut.bool rfl
def threeS : Sn := ⟨3, 0, 2, 12, false, [(0, 1, 2), (1, 2, 2)], false, [(false, [0, 0, 0]), (false, [0, 0, 0])], false, [(false, [(false, [(0, 12)]), (false, [(0, 9)]), (false, [(0, 7)])]), (false, [(false, [(0, 12)]), (false, [(0, 6)]), (false, [(0, 5)])])]⟩
theorem three1_c (nl : Bool) (hi : List Int) (hh : hi.length ≤ 100) : Comp Try.prog 147 [.sl nl (ints hi)] (trA (hi.isEmpty, hi.map fun n => (false, [((0 : Int), n)]))) := by
  have e1 : ((ints hi).length : Int) = hi.length := by rw [ints_len]
  refine Comp.body (T := tab) (res := [.cell 2 58]) tab_ok [] Try.func147 rfl (by kernel_rfl) Try.ntmps147 rfl (by simp only [List.length_cons, List.length_nil]; decide) (by simp only [lowL, AV.low, lowI]; rfl) ?_; conv => whnf
  skip
  refine Walk.nilcell 1 0 55 rfl rfl ?_
  refine Walk.loopGK tab_ok [] [(2, _), (3, _), (6, _), (7, _)] ⟨rfl, rfl, rfl, rfl, trivial⟩ (fun k : Nat => k ≤ hi.length) (fun k => [(8, natA k)]) (fun k => [.cells [.sl true []], .cells [.gr 2 k], .grow 55 (hi.take k).isEmpty (((hi.take k).map fun n => ((false, [((0 : Int), n)]) : Sps)).map spsA)]) (fun k => hi.length - k) 0 (Nat.zero_le _) rfl ⟨rfl, trivial⟩ ?_ (fun _ _ => (show (3 : Nat) ≤ 3 from Nat.le_refl 3)) ?_
  · intro k _
    refine ⟨fun z hz => ?_, fun z hz => ?_⟩
    · simp only [List.mem_cons, List.not_mem_nil, or_false] at hz
      rcases hz with rfl | rfl | rfl <;> first | rfl | exact lowSps _
    · simp only [List.cons_append, List.nil_append, List.mem_cons, List.not_mem_nil, or_false] at hz
      rcases hz with rfl | rfl | rfl | rfl | rfl <;> first | rfl | exact lowI _
  intro k hk
  have hnx := fun h => take_next (xs := hi) (i := k) h
  have hall : k = hi.length → hi.take k = hi := fun h => by rw [h, List.take_length]
  have hkl : (hi.take k).length = k := by rw [List.length_take]; omega
  generalize hi.take k = R at hnx hall hkl
  have hRl : ((R.map fun n => ((false, [((0 : Int), n)]) : Sps)).map spsA).length = k := by rw [List.length_map, List.length_map]; exact hkl
  conv => whnf
  by_cases hlt : k < hi.length
  · skip
    repeat' first | ((with_reducible apply XBr.dec) <;> (intro h; first | (exfalso; omega) | ((try simp only [List.length_map] at h); first | (exfalso; omega) | (conv => whnf)))) | ((with_reducible refine XInt.i64 (by omega) (by omega) ?_); conv => whnf) | ((with_reducible refine XHold.mk ?_ ?_); (first | omega | rfl | decide | exact ⟨rfl, by decide, rfl⟩ | exact wideI _ | exact widePr _ | exact wideSk _ | (unfold Room; constructor <;> ((try simp) <;> omega)) | exact ⟨rfl, by simp only [List.length_map], by unfold Room; constructor <;> ((try simp) <;> omega)⟩ | exact ⟨by omega, by omega, by unfold Room; constructor <;> ((try simp) <;> omega)⟩); conv => whnf) | (((with_reducible refine XIx.nat ?_ ?_ ?_); omega; (intro _; rfl)); conv => whnf) | fail
    refine XAgainG.go (k + 1) [] (by omega) (by omega) ?_ ⟨rfl, rfl, rfl, rfl, rfl, trivial⟩
    show [Blk.cells _, Blk.cells _, Blk.grow _ (hi.take (k + 1)).isEmpty (((hi.take (k + 1)).map fun n => ((false, [((0 : Int), n)]) : Sps)).map spsA)] ++ [] = _
    rw [hnx hlt, isEmpty_app, List.map_append, List.map_append]; rfl
  obtain rfl : k = hi.length := by omega
  obtain rfl := hall rfl
  repeat' first | ((with_reducible apply XBr.dec) <;> (intro h; first | (exfalso; omega) | ((try simp only [List.length_map] at h); first | (exfalso; omega) | (conv => whnf)))) | fail
  exact ⟨Froz.agg (one1 rfl) (.cons (Froz.grow rfl hRl (lowSps _)) .nil)⟩
theorem three_c : Comp Try.prog 75 [] (snA threeS) := by
  have h1 := three1_c false [12, 9, 7] (by decide)
  have h2 := three1_c false [12, 6, 5] (by decide)
  refine Comp.body (T := tab) (res := [.cell 0 27]) tab_ok [] Try.func75 rfl (by kernel_rfl) Try.ntmps75 rfl (by simp only [List.length_cons, List.length_nil]; decide) (by rfl) ?_; conv => whnf
  repeat' first | ((with_reducible refine XHold.mk ?_ ?_); (first | omega | rfl | decide | exact ⟨rfl, by decide, rfl⟩ | exact wideI _ | exact widePr _ | exact wideSk _ | (unfold Room; constructor <;> ((try simp) <;> omega)) | exact ⟨rfl, by simp only [List.length_map], by unfold Room; constructor <;> ((try simp) <;> omega)⟩ | exact ⟨by omega, by omega, by unfold Room; constructor <;> ((try simp) <;> omega)⟩); conv => whnf) | ((first | (refine XCall.ret h1 ?_) | (refine XCall.ret h2 ?_)); conv => whnf) | fail
  exact ⟨Froz.low (snL threeS)⟩
theorem threeB : SnB threeS := ⟨by decide, by decide, by decide, by decide, by decide, by decide⟩
theorem threeOk : SnOk threeS := snE_iff.1 (by decide +kernel)
theorem awake02_c : Comp Try.prog 22 [] (.bool true) := by
  have h0 := three_c
  have h1 := fTurn_ok threeS threeB 1 threeOk (by decide) (by decide +kernel)
  have t1 : turnN threeS 1 = 7 := by decide +kernel
  rw [t1] at h1
  have h2 := fDry_c threeS threeB 1 7
  rw [show dryE threeS 1 7 = 0 by decide +kernel, show (if (0 : Int) = 0 then drN threeS (1 : Int).toNat (7 : Int).toNat else 0) = 1 by decide +kernel] at h2
  have h3 := fSteps_ok threeS threeB 1 2 3 (by decide +kernel)
  rw [show stepsS threeS (stN 1 2 3) = [(0, 2), (1, 1), (2, 2)] by decide +kernel] at h3
  have h4 := fFixed_ok threeS threeB threeOk 0 (by decide) false [(1, 2), (2, 2), (2, 1), (1, 2), (0, 2)] (by decide)
  rw [show fixR threeS ((0 : Nat) : Int) [(1, 2), (2, 2), (2, 1), (1, 2), (0, 2)] = (1, 1) by decide +kernel, if_neg (by decide +kernel)] at h4
  have h5 := eq_sg false false [(0, 2), (1, 1), (2, 2)] (by decide)
  refine Comp.body (T := tab) (res := [.tmp 0]) tab_ok [] Try.func22 rfl (by kernel_rfl) Try.ntmps22 rfl (by simp only [List.length_cons, List.length_nil]; decide) (by rfl) ?_; conv => whnf
  repeat' first | ((with_reducible refine XHold.mk ?_ ?_); (first | omega | rfl | decide | exact ⟨rfl, by decide, rfl⟩ | exact wideI _ | exact widePr _ | exact wideSk _ | (unfold Room; constructor <;> ((try simp) <;> omega)) | exact ⟨rfl, by simp only [List.length_map], by unfold Room; constructor <;> ((try simp) <;> omega)⟩ | exact ⟨by omega, by omega, by unfold Room; constructor <;> ((try simp) <;> omega)⟩); conv => whnf) | ((first | (refine XCall.ret h0 ?_) | (refine XCall.ret h1 ?_) | (refine XCall.ret h2 ?_) | (refine XCall.ret h3 ?_) | (refine XCall.ret h4 ?_)); conv => whnf) | fail
  refine Walk.norm tab_ok [] [(1, _), (2, _), (3, _), (4, _), (5, _), (6, _), (7, _), (8, _), (9, _)] ⟨rfl, rfl, rfl, rfl, rfl, rfl, rfl, rfl, rfl, trivial⟩ ?_
  conv => whnf
  repeat' first | ((with_reducible apply XBr.tt); conv => whnf) | ((with_reducible apply XBr.beq) <;> (intro h; first | (exfalso; omega) | (conv => whnf))) | ((with_reducible refine XHold.mk ?_ ?_); (first | omega | rfl | decide | exact ⟨rfl, by decide, rfl⟩ | exact wideI _ | exact widePr _ | exact wideSk _ | (unfold Room; constructor <;> ((try simp) <;> omega)) | exact ⟨rfl, by simp only [List.length_map], by unfold Room; constructor <;> ((try simp) <;> omega)⟩ | exact ⟨by omega, by omega, by unfold Room; constructor <;> ((try simp) <;> omega)⟩); conv => whnf) | ((refine XCall.ret h5 ?_); conv => whnf) | fail
  exact ⟨.low rfl⟩
end GA
end

section
namespace GA
open Go Go.RowKit
set_option linter.unusedVariables false
set_option linter.unusedSimpArgs false

def lexP (A : Array Oper) : Nat → List Oper → Bool
  | _, [] => true
  | k, o :: l => o.after.toList.all (fun e => !Region.binds .any e || Nat.blt e.on k) && l.all (fun oj => oj.after.toList.any (fun e => Region.binds .any e && Nat.beq e.on k) || o.apart A oj) && lexP A (k + 1) l
theorem lex_from {ops : List Oper} : ∀ (l : List Oper) (k : Nat) (listed : Array Bool), (∀ j, l[j]? = ops[k + j]?) → k + l.length = ops.length → listed.size = ops.length → (∀ j, listed.getD j true = decide (j < k ∨ ops.length ≤ j)) → lexP ops.toArray k l = true → Region.lexFrom .any ops.toArray l.length k listed = true
  | [], k, listed, hl, hk, hs, hL, h => by
    rw [List.length_nil, Region.lexFrom, List.isEmpty_iff]
    refine List.eq_nil_iff_forall_not_mem.2 fun j hj => ?_
    obtain ⟨h1, o, ho, -⟩ := mem_ready.1 hj
    have hlt : j < ops.length := by simpa using (Array.getElem?_eq_some_iff.1 ho).1
    rw [hL, decide_eq_false_iff_not] at h1
    rw [List.length_nil] at hk
    omega
  | o :: l, k, listed, hl, hk, hs, hL, h => by
    simp only [lexP, Bool.and_eq_true] at h
    obtain ⟨⟨h1, h2⟩, h3⟩ := h
    have h0 : ops[k]? = some o := by have := hl 0; simpa using this.symm
    have hkl : k < ops.length := (List.getElem?_eq_some_iff.1 h0).1
    rw [List.length_cons] at hk
    simp only [List.length_cons, Region.lexFrom, Bool.and_eq_true]
    refine ⟨⟨?_, ?_⟩, ?_⟩
    · rw [List.contains_iff_mem]
      refine mem_ready.2 ⟨by rw [hL, decide_eq_false_iff_not]; omega, o, by simpa using h0, fun e he hb => ?_⟩
      have h4 := List.all_eq_true.1 h1 e (by simpa using he)
      rw [hb] at h4
      simp only [Bool.not_true, Bool.false_or] at h4
      have h5 : e.on < k := Nat.blt_eq.mp h4
      have h6 := hL e.on
      rw [decide_eq_true (.inl h5)] at h6
      have h7 : e.on < listed.size := by omega
      simp only [Array.getD, h7, dite_true] at h6 ⊢
      exact h6
    · unfold Region.free
      rw [show ops.toArray[k]? = some o by simpa using h0]
      dsimp only
      rw [List.all_eq_true]
      intro j hj
      have hjl : j < ops.length := by simpa using hj
      by_cases hjk : j < k ∨ ops.length ≤ j
      · rw [hL, decide_eq_true hjk]; simp
      · by_cases he : j = k
        · rw [he]; simp
        · have hj2 : l[j - k - 1]? = ops[j]? := by
            have := hl (j - k)
            rw [show k + (j - k) = j by omega] at this
            rw [← this, show j - k = (j - k - 1) + 1 by omega, List.getElem?_cons_succ]
            simp
          have hoj : ops[j]? = some ops[j] := List.getElem?_eq_getElem hjl
          rw [hoj] at hj2
          have hm := List.mem_of_getElem? hj2
          have h4 := List.all_eq_true.1 h2 _ hm
          rw [show ops.toArray[j]? = some ops[j] by simp [hjl]]
          dsimp only
          rw [Bool.or_eq_true] at h4
          rcases h4 with h4 | h4
          · obtain ⟨e, he1, he2⟩ := List.any_eq_true.1 h4
            have h5 : (ops[j].after.any fun e => Region.binds .any e && e.on == k) = true := by
              rw [Array.any_eq_true']
              refine ⟨e, by simpa using he1, ?_⟩
              rw [Bool.and_eq_true] at he2 ⊢
              exact ⟨he2.1, by rw [beq_iff_eq]; exact Nat.eq_of_beq_eq_true he2.2⟩
            rw [h5]; simp
          · rw [h4]; simp
    · refine lex_from l (k + 1) _ (fun j => ?_) (by omega) (by simpa using hs) (fun j => ?_) h3
      · have := hl (j + 1)
        rw [List.getElem?_cons_succ] at this
        rw [this]; congr 1; omega
      · by_cases hjk : k = j
        · subst hjk
          have h7 : k < listed.size := by omega
          rw [decide_eq_true (.inl (by omega))]
          simp [h7]
        · rw [getD_set_ne true hjk, hL]
          congr 1
          simp only [eq_iff_iff]
          omega
theorem lex_of {ops : List Oper} (h : (Region.noSelect ops.toArray && lexP ops.toArray 0 ops) = true) : Region.lexB .any ops.toArray = true := by
  rw [Bool.and_eq_true] at h
  simp only [Region.lexB, Bool.and_eq_true]
  refine ⟨h.1, ?_⟩
  have := lex_from (ops := ops) ops 0 (Array.replicate ops.toArray.size false) (fun j => by rw [Nat.zero_add]) (by simp) (by simp) (fun j => ?_) h.2
  · simpa using this
  · by_cases hj : j < ops.length
    · rw [decide_eq_false (by omega)]
      simp [hj]
    · rw [decide_eq_true (.inr (by omega))]
      simp [hj]
end GA
end
