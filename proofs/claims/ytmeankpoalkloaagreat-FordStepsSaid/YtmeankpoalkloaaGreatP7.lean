/- Part 7 of a proof: F33, F34. -/
import Derived.Test.YtmeankpoalkloaaGreatP6
section
namespace GA
open Go Go.RowKit Go.Proofs
set_option pp.deepTerms true
set_option maxRecDepth 8000
set_option linter.unusedVariables false
set_option linter.unusedSimpArgs false

theorem XPut.tvs {W : Nat} {F : Nat → Bool} {n e : Nat} {v : AV} {k : List AV → Prop} (b : Bool) (hv : v = .bool b) (hn : n = W) (he : e < W) (h : k (GA.tvs W (updV F e b))) : XPut (GA.tvs W F) n e v k := by
  subst hv
  refine ⟨by rw [tvs_len]; exact hn, by omega, ?_⟩
  unfold GA.tvs at h ⊢
  rw [← List.map_set, vecF_set]; exact h
theorem XGet.tvs {W : Nat} {F : Nat → Bool} {n e : Nat} {k : List AV → Prop} (hn : n = W) (he : e < W) (h : k [.bool (F e)]) : XGet (GA.tvs W F) n e k := by
  refine ⟨by rw [tvs_len]; exact hn, by omega, ?_⟩
  have : (GA.tvs W F).getD e default = .bool (F e) := by
    rw [List.getD_eq_getElem?_getD, show (GA.tvs W F)[e]? = some (.bool (F e)) from vec_at he]; rfl
  rw [this]; exact h
theorem tvs_congr {W : Nat} {F G : Nat → Bool} (h : ∀ i, i < W → F i = G i) : tvs W F = tvs W G := by unfold tvs; rw [vecF_congr h]
theorem bsum_and (f g : Nat → Bool) (n : Nat) : bsum f n &&& bsum g n = bsum (fun t => f t && g t) n := by
  refine bit_ext fun i => ?_
  rw [Nat.testBit_and, bsum_bit, bsum_bit, bsum_bit]
  by_cases h : i < n <;> simp [h]
def mixF (F G : Nat → Bool) (k : Nat) : Nat → Bool := fun t => if t < k then G t else F t
theorem mixF_next (F G : Nat → Bool) (k : Nat) : updV (mixF F G k) k (G k) = mixF F G (k + 1) := by
  funext t
  unfold updV mixF
  by_cases h : t = k
  · rw [if_pos h, if_pos (by omega), h]
  · rw [if_neg h]
    by_cases h2 : t < k
    · rw [if_pos h2, if_pos (by omega)]
    · rw [if_neg h2, if_neg (by omega)]
theorem mixF_at (F G : Nat → Bool) (k : Nat) : mixF F G k k = F k := if_neg (by omega)
theorem mixF_end {F G : Nat → Bool} {k : Nat} : tvs k (mixF F G k) = tvs k G := tvs_congr fun i hi => if_pos hi
theorem rFixed_no (s : Sn) (hb : SnB s) (m : Int) (nl : Bool) (l : List (Int × Int)) (h : snE s ≠ 0 ∨ inZ m 0 s.last = false) : Comp Tryz.prog 26 [rsA s, .int .i64 m, .sl nl (l.map sgA)] (.tup [.int .i64 0, .int .i64 0, .int .i64 (fixE s m l)]) := by
  have hck := rCheck_c s hb
  by_cases h0 : snE s = 0
  · have h1 : inZ m 0 s.last = false := by rcases h with h | h; exact absurd h0 h; exact h
    have he : fixE s m l = 3 := by unfold fixE; rw [if_neg (fun e => e h0), if_pos h1]
    rw [he]
    rw [h0] at hck
    refine Comp.body (T := tab) (res := [.tmp 6, .tmp 7, .tmp 8]) tab_ok [] Tryz.func26 rfl (by kernel_rfl) Tryz.ntmps26 rfl (by simp only [List.length_cons, List.length_nil]; decide) (by simp only [lowL, AV.low, rsL, lowSg]; rfl) ?_; conv => whnf
    repeat' first | ((with_reducible apply XBr.ff); conv => whnf) | (with_reducible apply XBr.not) | ((with_reducible apply XBr.bne) <;> (intro h; first | (exfalso; omega) | (conv => whnf))) | ((first | (refine XCall.ret hck ?_) | ((refine XCall.ret (off02_c _ _ _) ?_); rw [h1])); conv => whnf) | fail
    exact ⟨.low rfl⟩
  · have he : fixE s m l = snE s := by unfold fixE; rw [if_pos h0]
    rw [he]
    generalize snE s = e at h0 hck
    refine Comp.body (T := tab) (res := [.tmp 6, .tmp 7, .tmp 8]) tab_ok [] Tryz.func26 rfl (by kernel_rfl) Tryz.ntmps26 rfl (by simp only [List.length_cons, List.length_nil]; decide) (by simp only [lowL, AV.low, rsL, lowSg]; rfl) ?_; conv => whnf
    repeat' first | ((with_reducible apply XBr.bne) <;> (intro h; first | (exfalso; omega) | (conv => whnf))) | ((refine XCall.ret hck ?_); conv => whnf) | fail
    exact ⟨.low rfl⟩
set_option maxHeartbeats 4000000 in
theorem rFixed_ok (s : Sn) (hb : SnB s) (ok : SnOk s) (m0 : Nat) (hm0 : (m0 : Int) ≤ s.last) (nl : Bool) (l : List (Int × Int)) (hl : l.length ≤ 100000) : Comp Tryz.prog 26 [rsA s, natA m0, .sl nl (l.map sgA)] (.tup [natA (fixR s m0 l).1, natA (fixR s m0 l).2, .int .i64 (if fixS s s.home.toNat m0 (drN s s.home.toNat m0) 0 l = none then 8 else 0)]) := by
  have p1 := ok.p1; have p2 := ok.p2; have t1 := ok.t1; have t2 := ok.t2; have l1 := ok.l1; have l2 := ok.l2; have w1 := ok.w1; have h1 := ok.h1
  have hck := rCheck_c s hb
  rw [snE_iff.2 ok] at hck
  have hmn : inZ (m0 : Int) 0 s.last = true := inZ_iff.2 ⟨by omega, hm0⟩
  have e1 : ((l.map sgA).length : Int) = l.length := by rw [List.length_map]
  have e3 : ((s.truths.map tdA).length : Int) = s.truths.length := by rw [List.length_map]
  obtain ⟨h0, hh0⟩ : ∃ h0 : Nat, s.home = h0 := ⟨s.home.toNat, by omega⟩
  have hfr : fixR s m0 l = match fixS s h0 m0 (drN s h0 m0) 0 l with | some (p, _, a, w) => (if (p : Int) = s.home then a else 0, w) | none => (0, 0) := by unfold fixR; rw [hh0, Int.toNat_natCast, Int.toNat_natCast]; rfl
  rw [show s.home.toNat = h0 by omega]
  have hwet := fun (t p m : Nat) (ht : t < s.truths.length) (hp : (p : Int) < s.places) => rWet_c s hb t p m ht (by have := ok.tl _ (getD_mem (d := default) ht); omega)
  refine Comp.body (T := tab) (res := [.tmp 6, .tmp 7, .tmp 8]) tab_ok [] Tryz.func26 rfl (by kernel_rfl) Tryz.ntmps26 rfl (by simp only [List.length_cons, List.length_nil]; decide) (by simp only [lowL, AV.low, rsL, lowSg]; rfl) ?_; conv => whnf
  repeat' first | ((with_reducible apply XBr.tt); conv => whnf) | (with_reducible apply XBr.not) | ((with_reducible apply XBr.bne) <;> (intro h; first | (exfalso; omega) | (conv => whnf))) | ((with_reducible refine XHold.mk ?_ ?_); (first | omega | rfl | decide | exact ⟨rfl, by decide, rfl⟩ | exact wideI _ | exact widePr _ | exact wideSk _ | (unfold Room; constructor <;> ((try simp) <;> omega)) | exact ⟨rfl, by simp only [List.length_map], by unfold Room; constructor <;> ((try simp) <;> omega)⟩ | exact ⟨by omega, by omega, by unfold Room; constructor <;> ((try simp) <;> omega)⟩); conv => whnf) | ((first | (refine XCall.ret hck ?_) | ((refine XCall.ret (off02_c _ _ _) ?_); rw [hmn])); conv => whnf) | fail
  obtain ⟨T0, hT0⟩ : ∃ T0, s.truths.length = T0 := ⟨_, rfl⟩
  have hTn : ((s.truths.map tdA).length : Int).toNat = T0 := by rw [e3, hT0, Int.toNat_natCast]
  refine Walk.loopK tab_ok [] [(1, _), (2, _), (3, _), (6, _), (7, _), (8, _), (10, natA h0), (11, _), (12, .gr 0 T0)] ⟨rfl, rfl, rfl, rfl, rfl, rfl, (congrArg (fun z => some (AV.int .i64 z)) hh0), rfl, (congrArg (fun n => some (AV.gr 0 n)) hTn), trivial⟩ (fun k : Nat => k ≤ T0) (fun k => [(13, natA k)]) (fun k => [.grow 4 false (tvs T0 (mixF (fun _ => false) (fun t => dryT s t h0 m0) k))]) (fun k => T0 - k) 0 (Nat.zero_le _) ?_ ⟨rfl, trivial⟩ ?_
  · show [Blk.grow _ false (tvs T0 (mixF (fun _ => false) (fun t => dryT s t h0 m0) 0))] = _
    have hz : tvs T0 (mixF (fun _ => false) (fun t => dryT s t h0 m0) 0) = List.replicate ((s.truths.map tdA).length : Int).toNat (AV.bool false) := by
      rw [e3, hT0, Int.toNat_natCast, tvs0]
      exact tvs_congr fun i _ => if_neg (by omega)
    rw [hz]
  intro k hk
  conv => whnf
  by_cases hlt : k < T0
  · have hw := hwet k h0 m0 (by omega) (by omega)
    have hnx := mixF_next (fun _ => false) (fun t => dryT s t h0 m0) k
    repeat' first | ((with_reducible apply XBr.dec) <;> (intro h; first | (exfalso; omega) | ((try simp only [List.length_map] at h); first | (exfalso; omega) | (conv => whnf)))) | ((first | (with_reducible refine XInt.i64 (by omega) (by omega) ?_) | (refine XCall.ret hw ?_) | (first | refine XHold.mk (tvs_len _ _) ?_ | refine XHold.mk ⟨tvs_len _ _, rfl, by omega, by omega⟩ ?_) | ((refine XPut.tvs (dryT s k h0 m0) (by simp) (by omega) (by omega) ?_); rw [show ((k : Int)).toNat = k from rfl, hnx])); conv => whnf) | fail
    exact XAgain.go (k + 1) (by omega) (by omega) rfl ⟨rfl, rfl, rfl, rfl, rfl, rfl, rfl, rfl, rfl, rfl, trivial⟩
  obtain rfl : k = T0 := by omega
  rw [mixF_end]
  repeat' first | ((with_reducible apply XBr.dec) <;> (intro h; first | (exfalso; omega) | ((try simp only [List.length_map] at h); first | (exfalso; omega) | (conv => whnf)))) | ((first | refine XHold.mk (tvs_len _ _) ?_ | refine XHold.mk ⟨tvs_len _ _, rfl, by omega, by omega⟩ ?_); conv => whnf) | fail
  refine Walk.loopK tab_ok [] [(2, _), (3, _), (12, _)] ⟨rfl, rfl, rfl, trivial⟩ (fun g : Nat × Nat × Nat × (Nat → Bool) × Nat => g.1 ≤ l.length ∧ (g.2.1 : Int) < s.places ∧ (g.2.2.1 : Int) ≤ s.last ∧ g.2.2.2.2 ≤ g.1 ∧ fixS s h0 m0 (drN s h0 m0) 0 l = fixS s g.2.1 g.2.2.1 (bsum g.2.2.2.1 k) g.2.2.2.2 (l.drop g.1)) (fun g => [(1, natA g.2.2.1), (6, .int .i64 0), (7, .int .i64 0), (8, .int .i64 0), (10, natA g.2.1), (11, natA g.2.2.2.2), (14, natA g.1)]) (fun g => [.grow 4 false (tvs k g.2.2.2.1)]) (fun g => l.length - g.1) (0, h0, m0, (fun t => dryT s t h0 m0), 0) ⟨Nat.zero_le _, by dsimp only; omega, hm0, Nat.le_refl _, by dsimp only; unfold drN; rw [hT0]; rfl⟩ rfl ⟨rfl, rfl, rfl, rfl, rfl, rfl, rfl, trivial⟩ ?_
  rintro ⟨i, p, m, F, w⟩ ⟨hi, hp, hm, hw, hs⟩
  dsimp only at hi hp hm hw hs ⊢
  conv => whnf
  by_cases hlt : i < l.length
  · rw [drop_next hlt, fixS] at hs
    have hre := rReal_c s hb p (l.getD i default)
    rw [← real_ways ok hp] at hre
    cases hc : (waysL s p).contains (l.getD i default) with
    | false =>
      rw [hc] at hre hs
      rw [if_neg (by simp)] at hs
      repeat' first | ((first | (with_reducible apply XBr.tt) | (with_reducible apply XBr.ff)); conv => whnf) | (with_reducible apply XBr.not) | ((with_reducible apply XBr.dec) <;> (intro h; first | (exfalso; omega) | ((try simp only [List.length_map] at h); first | (exfalso; omega) | (conv => whnf)))) | (((with_reducible refine XIx.nat ?_ ?_ ?_); omega; (intro _; rfl)); conv => whnf) | (with_reducible apply XAnd.mk) | ((first | (with_reducible apply Chk.go) | (with_reducible apply ChkA.go) | (with_reducible apply ChkF.go) | (with_reducible apply ChkB.go)); conv => whnf) | (exact XSame.mk rfl rfl) | (with_reducible exact trivial) | (apply Walk.drawN (id := 15) tab_ok mixed_ok [] [] (hsU _) [_, _, _, _, _, _, _, _, _, _, _, _, _, _, _, _, _, _, _, _] (by kernel_rfl) rfl) | ((first | (with_reducible apply XNext.mk) | (refine XCall.ret hre ?_)); conv => whnf) | fail
      rw [hfr, hs]
      exact ⟨.low rfl⟩
    | true =>
      rw [hc] at hre hs
      have hwy := waysL_pos ok (List.contains_iff_mem.1 hc)
      by_cases hle : (m : Int) + (l.getD i default).2 ≤ s.last
      · rw [if_pos ⟨rfl, hle⟩] at hs
        obtain ⟨q, hq⟩ : ∃ q : Nat, (l.getD i default).1 = q := ⟨(l.getD i default).1.toNat, by omega⟩
        obtain ⟨m', hm'⟩ : ∃ m' : Nat, (m : Int) + (l.getD i default).2 = m' := ⟨((m : Int) + (l.getD i default).2).toNat, by omega⟩
        rw [hm', Int.toNat_natCast, hq, Int.toNat_natCast] at hs
        have hand : bsum F k &&& drN s q m' = bsum (fun t => F t && dryT s t q m') k := by unfold drN; rw [hT0]; exact bsum_and _ _ _
        rw [hand] at hs
        by_cases c1 : (p : Int) = s.bed
        · by_cases c2 : (l.getD i default).1 = (p : Int)
          · rw [if_pos ⟨c1, by omega⟩] at hs
            repeat' first | ((with_reducible apply XBr.tt); conv => whnf) | (with_reducible apply XBr.not) | ((with_reducible apply XBr.dec) <;> (intro h; first | (exfalso; omega) | ((try simp only [List.length_map] at h); first | (exfalso; omega) | (conv => whnf)))) | ((with_reducible apply XBr.beq) <;> (intro h; first | (exfalso; omega) | (conv => whnf))) | ((first | (with_reducible refine XInt.i64 (by omega) (by omega) ?_) | ((with_reducible refine XIx.nat ?_ ?_ ?_); omega; (intro _; rfl))); conv => whnf) | (with_reducible apply XAnd.mk) | ((first | (with_reducible apply Chk.go) | (with_reducible apply ChkA.go) | (with_reducible apply ChkF.go) | (with_reducible apply ChkB.go)); conv => whnf) | (exact XSame.mk rfl rfl) | (with_reducible exact trivial) | (apply Walk.drawN (id := 15) tab_ok mixed_ok [] [] (hsU _) [_, _, _, _, _, _, _, _, _, _, _, _, _, _, _, _, _, _, _, _] (by kernel_rfl) rfl) | (apply Walk.drawN (id := 19) tab_ok mixed_ok [] [] (hsU _) [_, _, _, _, _, _, _, _, _, _, _, _, _, _] (by kernel_rfl) rfl) | ((first | (with_reducible apply XNext.mk) | (refine XCall.ret hre ?_)); conv => whnf) | fail
            refine Walk.loopK tab_ok [] [(1, natA m'), (2, _), (3, _), (6, _), (7, _), (8, _), (10, natA q), (11, _), (12, _), (14, _)] ⟨congrArg (fun z => some (AV.int .i64 z)) hm', rfl, rfl, rfl, rfl, rfl, congrArg (fun z => some (AV.int .i64 z)) hq, rfl, rfl, rfl, trivial⟩ (fun j : Nat => j ≤ k) (fun j => [(15, natA j)]) (fun j => [.grow 4 false (tvs k (mixF F (fun t => F t && dryT s t q m') j))]) (fun j => k - j) 0 (Nat.zero_le _) (by show [Blk.grow _ false (tvs k (mixF F (fun t => F t && dryT s t q m') 0))] = _; rw [show tvs k (mixF F (fun t => F t && dryT s t q m') 0) = tvs k F from tvs_congr fun i _ => if_neg (by omega)]; rfl) ⟨rfl, trivial⟩ ?_
            intro j hj
            conv => whnf
            by_cases hlt2 : j < k
            · have hwt := hwet j q m' (by omega) (by omega)
              have hnx := mixF_next F (fun t => F t && dryT s t q m') j
              have hat := mixF_at F (fun t => F t && dryT s t q m') j
              cases hF : F j with
              | false =>
                rw [hF] at hat
                rw [hF, Bool.false_and] at hnx
                repeat' first | ((with_reducible apply XBr.ff); conv => whnf) | ((with_reducible apply XBr.dec) <;> (intro h; first | (exfalso; omega) | ((try simp only [List.length_map] at h); first | (exfalso; omega) | (conv => whnf)))) | ((first | (with_reducible refine XInt.i64 (by omega) (by omega) ?_) | (first | refine XHold.mk (tvs_len _ _) ?_ | refine XHold.mk ⟨tvs_len _ _, rfl, by omega, by omega⟩ ?_) | ((refine XGet.tvs rfl (by omega) ?_); rw [show ((j : Int)).toNat = j from rfl, hat]) | ((refine XPut.tvs false rfl rfl (by omega) ?_); rw [show ((j : Int)).toNat = j from rfl, hnx])); conv => whnf) | fail
                exact XAgain.go (j + 1) (by omega) (by omega) rfl ⟨rfl, rfl, rfl, rfl, rfl, rfl, rfl, rfl, rfl, rfl, rfl, trivial⟩
              | true =>
                rw [hF] at hat
                rw [hF, Bool.true_and] at hnx
                repeat' first | ((with_reducible apply XBr.tt); conv => whnf) | ((with_reducible apply XBr.dec) <;> (intro h; first | (exfalso; omega) | ((try simp only [List.length_map] at h); first | (exfalso; omega) | (conv => whnf)))) | ((first | (with_reducible refine XInt.i64 (by omega) (by omega) ?_) | (first | refine XHold.mk (tvs_len _ _) ?_ | refine XHold.mk ⟨tvs_len _ _, rfl, by omega, by omega⟩ ?_) | ((refine XGet.tvs rfl (by omega) ?_); rw [show ((j : Int)).toNat = j from rfl, hat]) | (refine XCall.ret hwt ?_) | ((refine XPut.tvs (dryT s j q m') (by simp) rfl (by omega) ?_); rw [show ((j : Int)).toNat = j from rfl, hnx])); conv => whnf) | fail
                exact XAgain.go (j + 1) (by omega) (by omega) rfl ⟨rfl, rfl, rfl, rfl, rfl, rfl, rfl, rfl, rfl, rfl, rfl, trivial⟩
            obtain rfl : j = k := by omega
            rw [mixF_end]
            repeat' first | ((with_reducible apply XBr.dec) <;> (intro h; first | (exfalso; omega) | ((try simp only [List.length_map] at h); first | (exfalso; omega) | (conv => whnf)))) | ((first | (with_reducible refine XInt.i64 (by omega) (by omega) ?_) | (first | refine XHold.mk (tvs_len _ _) ?_ | refine XHold.mk ⟨tvs_len _ _, rfl, by omega, by omega⟩ ?_)); conv => whnf) | fail
            exact XAgain.go (i + 1, q, m', (fun t => F t && dryT s t q m'), w + 1) ⟨by dsimp only; omega, by dsimp only; omega, by dsimp only; omega, by dsimp only; omega, hs⟩ (by dsimp only; omega) rfl ⟨rfl, rfl, rfl, rfl, rfl, rfl, rfl, rfl, rfl, rfl, trivial⟩
          · rw [if_neg (fun h => c2 (by omega))] at hs
            repeat' first | ((first | (with_reducible apply XBr.tt) | (with_reducible apply XBr.ff)); conv => whnf) | (with_reducible apply XBr.not) | ((with_reducible apply XBr.dec) <;> (intro h; first | (exfalso; omega) | ((try simp only [List.length_map] at h); first | (exfalso; omega) | (conv => whnf)))) | ((with_reducible apply XBr.beq) <;> (intro h; first | (exfalso; omega) | (conv => whnf))) | ((first | (with_reducible refine XInt.i64 (by omega) (by omega) ?_) | ((with_reducible refine XIx.nat ?_ ?_ ?_); omega; (intro _; rfl))); conv => whnf) | (with_reducible apply XAnd.mk) | ((first | (with_reducible apply Chk.go) | (with_reducible apply ChkA.go) | (with_reducible apply ChkF.go) | (with_reducible apply ChkB.go)); conv => whnf) | (exact XSame.mk rfl rfl) | (with_reducible exact trivial) | (apply Walk.drawN (id := 15) tab_ok mixed_ok [] [] (hsU _) [_, _, _, _, _, _, _, _, _, _, _, _, _, _, _, _, _, _, _, _] (by kernel_rfl) rfl) | (apply Walk.drawN (id := 19) tab_ok mixed_ok [] [] (hsU _) [_, _, _, _, _, _, _, _, _, _, _, _, _, _] (by kernel_rfl) rfl) | ((first | (with_reducible apply XNext.mk) | (refine XCall.ret hre ?_)); conv => whnf) | fail
            refine Walk.loopK tab_ok [] [(1, natA m'), (2, _), (3, _), (6, _), (7, _), (8, _), (10, natA q), (11, _), (12, _), (14, _)] ⟨congrArg (fun z => some (AV.int .i64 z)) hm', rfl, rfl, rfl, rfl, rfl, congrArg (fun z => some (AV.int .i64 z)) hq, rfl, rfl, rfl, trivial⟩ (fun j : Nat => j ≤ k) (fun j => [(15, natA j)]) (fun j => [.grow 4 false (tvs k (mixF F (fun t => F t && dryT s t q m') j))]) (fun j => k - j) 0 (Nat.zero_le _) (by show [Blk.grow _ false (tvs k (mixF F (fun t => F t && dryT s t q m') 0))] = _; rw [show tvs k (mixF F (fun t => F t && dryT s t q m') 0) = tvs k F from tvs_congr fun i _ => if_neg (by omega)]; rfl) ⟨rfl, trivial⟩ ?_
            intro j hj
            conv => whnf
            by_cases hlt2 : j < k
            · have hwt := hwet j q m' (by omega) (by omega)
              have hnx := mixF_next F (fun t => F t && dryT s t q m') j
              have hat := mixF_at F (fun t => F t && dryT s t q m') j
              cases hF : F j with
              | false =>
                rw [hF] at hat
                rw [hF, Bool.false_and] at hnx
                repeat' first | ((with_reducible apply XBr.ff); conv => whnf) | ((with_reducible apply XBr.dec) <;> (intro h; first | (exfalso; omega) | ((try simp only [List.length_map] at h); first | (exfalso; omega) | (conv => whnf)))) | ((first | (with_reducible refine XInt.i64 (by omega) (by omega) ?_) | (first | refine XHold.mk (tvs_len _ _) ?_ | refine XHold.mk ⟨tvs_len _ _, rfl, by omega, by omega⟩ ?_) | ((refine XGet.tvs rfl (by omega) ?_); rw [show ((j : Int)).toNat = j from rfl, hat]) | ((refine XPut.tvs false rfl rfl (by omega) ?_); rw [show ((j : Int)).toNat = j from rfl, hnx])); conv => whnf) | fail
                exact XAgain.go (j + 1) (by omega) (by omega) rfl ⟨rfl, rfl, rfl, rfl, rfl, rfl, rfl, rfl, rfl, rfl, rfl, trivial⟩
              | true =>
                rw [hF] at hat
                rw [hF, Bool.true_and] at hnx
                repeat' first | ((with_reducible apply XBr.tt); conv => whnf) | ((with_reducible apply XBr.dec) <;> (intro h; first | (exfalso; omega) | ((try simp only [List.length_map] at h); first | (exfalso; omega) | (conv => whnf)))) | ((first | (with_reducible refine XInt.i64 (by omega) (by omega) ?_) | (first | refine XHold.mk (tvs_len _ _) ?_ | refine XHold.mk ⟨tvs_len _ _, rfl, by omega, by omega⟩ ?_) | ((refine XGet.tvs rfl (by omega) ?_); rw [show ((j : Int)).toNat = j from rfl, hat]) | (refine XCall.ret hwt ?_) | ((refine XPut.tvs (dryT s j q m') (by simp) rfl (by omega) ?_); rw [show ((j : Int)).toNat = j from rfl, hnx])); conv => whnf) | fail
                exact XAgain.go (j + 1) (by omega) (by omega) rfl ⟨rfl, rfl, rfl, rfl, rfl, rfl, rfl, rfl, rfl, rfl, rfl, trivial⟩
            obtain rfl : j = k := by omega
            rw [mixF_end]
            repeat' first | ((with_reducible apply XBr.dec) <;> (intro h; first | (exfalso; omega) | ((try simp only [List.length_map] at h); first | (exfalso; omega) | (conv => whnf)))) | ((first | (with_reducible refine XInt.i64 (by omega) (by omega) ?_) | (first | refine XHold.mk (tvs_len _ _) ?_ | refine XHold.mk ⟨tvs_len _ _, rfl, by omega, by omega⟩ ?_)); conv => whnf) | fail
            exact XAgain.go (i + 1, q, m', (fun t => F t && dryT s t q m'), w) ⟨by dsimp only; omega, by dsimp only; omega, by dsimp only; omega, by dsimp only; omega, hs⟩ (by dsimp only; omega) rfl ⟨rfl, rfl, rfl, rfl, rfl, rfl, rfl, rfl, rfl, rfl, trivial⟩
        · by_cases c2 : (l.getD i default).1 = (p : Int)
          · rw [if_neg (fun h => c1 h.1)] at hs
            repeat' first | ((with_reducible apply XBr.tt); conv => whnf) | (with_reducible apply XBr.not) | ((with_reducible apply XBr.dec) <;> (intro h; first | (exfalso; omega) | ((try simp only [List.length_map] at h); first | (exfalso; omega) | (conv => whnf)))) | ((with_reducible apply XBr.beq) <;> (intro h; first | (exfalso; omega) | (conv => whnf))) | ((first | (with_reducible refine XInt.i64 (by omega) (by omega) ?_) | ((with_reducible refine XIx.nat ?_ ?_ ?_); omega; (intro _; rfl))); conv => whnf) | (with_reducible apply XAnd.mk) | ((first | (with_reducible apply Chk.go) | (with_reducible apply ChkA.go) | (with_reducible apply ChkF.go) | (with_reducible apply ChkB.go)); conv => whnf) | (exact XSame.mk rfl rfl) | (with_reducible exact trivial) | (apply Walk.drawN (id := 15) tab_ok mixed_ok [] [] (hsU _) [_, _, _, _, _, _, _, _, _, _, _, _, _, _, _, _, _, _, _, _] (by kernel_rfl) rfl) | (apply Walk.drawN (id := 19) tab_ok mixed_ok [] [] (hsU _) [_, _, _, _, _, _, _, _, _, _, _, _, _, _] (by kernel_rfl) rfl) | ((first | (with_reducible apply XNext.mk) | (refine XCall.ret hre ?_)); conv => whnf) | fail
            refine Walk.loopK tab_ok [] [(1, natA m'), (2, _), (3, _), (6, _), (7, _), (8, _), (10, natA q), (11, _), (12, _), (14, _)] ⟨congrArg (fun z => some (AV.int .i64 z)) hm', rfl, rfl, rfl, rfl, rfl, congrArg (fun z => some (AV.int .i64 z)) hq, rfl, rfl, rfl, trivial⟩ (fun j : Nat => j ≤ k) (fun j => [(15, natA j)]) (fun j => [.grow 4 false (tvs k (mixF F (fun t => F t && dryT s t q m') j))]) (fun j => k - j) 0 (Nat.zero_le _) (by show [Blk.grow _ false (tvs k (mixF F (fun t => F t && dryT s t q m') 0))] = _; rw [show tvs k (mixF F (fun t => F t && dryT s t q m') 0) = tvs k F from tvs_congr fun i _ => if_neg (by omega)]; rfl) ⟨rfl, trivial⟩ ?_
            intro j hj
            conv => whnf
            by_cases hlt2 : j < k
            · have hwt := hwet j q m' (by omega) (by omega)
              have hnx := mixF_next F (fun t => F t && dryT s t q m') j
              have hat := mixF_at F (fun t => F t && dryT s t q m') j
              cases hF : F j with
              | false =>
                rw [hF] at hat
                rw [hF, Bool.false_and] at hnx
                repeat' first | ((with_reducible apply XBr.ff); conv => whnf) | ((with_reducible apply XBr.dec) <;> (intro h; first | (exfalso; omega) | ((try simp only [List.length_map] at h); first | (exfalso; omega) | (conv => whnf)))) | ((first | (with_reducible refine XInt.i64 (by omega) (by omega) ?_) | (first | refine XHold.mk (tvs_len _ _) ?_ | refine XHold.mk ⟨tvs_len _ _, rfl, by omega, by omega⟩ ?_) | ((refine XGet.tvs rfl (by omega) ?_); rw [show ((j : Int)).toNat = j from rfl, hat]) | ((refine XPut.tvs false rfl rfl (by omega) ?_); rw [show ((j : Int)).toNat = j from rfl, hnx])); conv => whnf) | fail
                exact XAgain.go (j + 1) (by omega) (by omega) rfl ⟨rfl, rfl, rfl, rfl, rfl, rfl, rfl, rfl, rfl, rfl, rfl, trivial⟩
              | true =>
                rw [hF] at hat
                rw [hF, Bool.true_and] at hnx
                repeat' first | ((with_reducible apply XBr.tt); conv => whnf) | ((with_reducible apply XBr.dec) <;> (intro h; first | (exfalso; omega) | ((try simp only [List.length_map] at h); first | (exfalso; omega) | (conv => whnf)))) | ((first | (with_reducible refine XInt.i64 (by omega) (by omega) ?_) | (first | refine XHold.mk (tvs_len _ _) ?_ | refine XHold.mk ⟨tvs_len _ _, rfl, by omega, by omega⟩ ?_) | ((refine XGet.tvs rfl (by omega) ?_); rw [show ((j : Int)).toNat = j from rfl, hat]) | (refine XCall.ret hwt ?_) | ((refine XPut.tvs (dryT s j q m') (by simp) rfl (by omega) ?_); rw [show ((j : Int)).toNat = j from rfl, hnx])); conv => whnf) | fail
                exact XAgain.go (j + 1) (by omega) (by omega) rfl ⟨rfl, rfl, rfl, rfl, rfl, rfl, rfl, rfl, rfl, rfl, rfl, trivial⟩
            obtain rfl : j = k := by omega
            rw [mixF_end]
            repeat' first | ((with_reducible apply XBr.dec) <;> (intro h; first | (exfalso; omega) | ((try simp only [List.length_map] at h); first | (exfalso; omega) | (conv => whnf)))) | ((first | (with_reducible refine XInt.i64 (by omega) (by omega) ?_) | (first | refine XHold.mk (tvs_len _ _) ?_ | refine XHold.mk ⟨tvs_len _ _, rfl, by omega, by omega⟩ ?_)); conv => whnf) | fail
            exact XAgain.go (i + 1, q, m', (fun t => F t && dryT s t q m'), w) ⟨by dsimp only; omega, by dsimp only; omega, by dsimp only; omega, by dsimp only; omega, hs⟩ (by dsimp only; omega) rfl ⟨rfl, rfl, rfl, rfl, rfl, rfl, rfl, rfl, rfl, rfl, trivial⟩
          · rw [if_neg (fun h => c1 h.1)] at hs
            repeat' first | ((first | (with_reducible apply XBr.tt) | (with_reducible apply XBr.ff)); conv => whnf) | (with_reducible apply XBr.not) | ((with_reducible apply XBr.dec) <;> (intro h; first | (exfalso; omega) | ((try simp only [List.length_map] at h); first | (exfalso; omega) | (conv => whnf)))) | ((with_reducible apply XBr.beq) <;> (intro h; first | (exfalso; omega) | (conv => whnf))) | ((first | (with_reducible refine XInt.i64 (by omega) (by omega) ?_) | ((with_reducible refine XIx.nat ?_ ?_ ?_); omega; (intro _; rfl))); conv => whnf) | (with_reducible apply XAnd.mk) | ((first | (with_reducible apply Chk.go) | (with_reducible apply ChkA.go) | (with_reducible apply ChkF.go) | (with_reducible apply ChkB.go)); conv => whnf) | (exact XSame.mk rfl rfl) | (with_reducible exact trivial) | (apply Walk.drawN (id := 15) tab_ok mixed_ok [] [] (hsU _) [_, _, _, _, _, _, _, _, _, _, _, _, _, _, _, _, _, _, _, _] (by kernel_rfl) rfl) | (apply Walk.drawN (id := 19) tab_ok mixed_ok [] [] (hsU _) [_, _, _, _, _, _, _, _, _, _, _, _, _, _] (by kernel_rfl) rfl) | ((first | (with_reducible apply XNext.mk) | (refine XCall.ret hre ?_)); conv => whnf) | fail
            refine Walk.loopK tab_ok [] [(1, natA m'), (2, _), (3, _), (6, _), (7, _), (8, _), (10, natA q), (11, _), (12, _), (14, _)] ⟨congrArg (fun z => some (AV.int .i64 z)) hm', rfl, rfl, rfl, rfl, rfl, congrArg (fun z => some (AV.int .i64 z)) hq, rfl, rfl, rfl, trivial⟩ (fun j : Nat => j ≤ k) (fun j => [(15, natA j)]) (fun j => [.grow 4 false (tvs k (mixF F (fun t => F t && dryT s t q m') j))]) (fun j => k - j) 0 (Nat.zero_le _) (by show [Blk.grow _ false (tvs k (mixF F (fun t => F t && dryT s t q m') 0))] = _; rw [show tvs k (mixF F (fun t => F t && dryT s t q m') 0) = tvs k F from tvs_congr fun i _ => if_neg (by omega)]; rfl) ⟨rfl, trivial⟩ ?_
            intro j hj
            conv => whnf
            by_cases hlt2 : j < k
            · have hwt := hwet j q m' (by omega) (by omega)
              have hnx := mixF_next F (fun t => F t && dryT s t q m') j
              have hat := mixF_at F (fun t => F t && dryT s t q m') j
              cases hF : F j with
              | false =>
                rw [hF] at hat
                rw [hF, Bool.false_and] at hnx
                repeat' first | ((with_reducible apply XBr.ff); conv => whnf) | ((with_reducible apply XBr.dec) <;> (intro h; first | (exfalso; omega) | ((try simp only [List.length_map] at h); first | (exfalso; omega) | (conv => whnf)))) | ((first | (with_reducible refine XInt.i64 (by omega) (by omega) ?_) | (first | refine XHold.mk (tvs_len _ _) ?_ | refine XHold.mk ⟨tvs_len _ _, rfl, by omega, by omega⟩ ?_) | ((refine XGet.tvs rfl (by omega) ?_); rw [show ((j : Int)).toNat = j from rfl, hat]) | ((refine XPut.tvs false rfl rfl (by omega) ?_); rw [show ((j : Int)).toNat = j from rfl, hnx])); conv => whnf) | fail
                exact XAgain.go (j + 1) (by omega) (by omega) rfl ⟨rfl, rfl, rfl, rfl, rfl, rfl, rfl, rfl, rfl, rfl, rfl, trivial⟩
              | true =>
                rw [hF] at hat
                rw [hF, Bool.true_and] at hnx
                repeat' first | ((with_reducible apply XBr.tt); conv => whnf) | ((with_reducible apply XBr.dec) <;> (intro h; first | (exfalso; omega) | ((try simp only [List.length_map] at h); first | (exfalso; omega) | (conv => whnf)))) | ((first | (with_reducible refine XInt.i64 (by omega) (by omega) ?_) | (first | refine XHold.mk (tvs_len _ _) ?_ | refine XHold.mk ⟨tvs_len _ _, rfl, by omega, by omega⟩ ?_) | ((refine XGet.tvs rfl (by omega) ?_); rw [show ((j : Int)).toNat = j from rfl, hat]) | (refine XCall.ret hwt ?_) | ((refine XPut.tvs (dryT s j q m') (by simp) rfl (by omega) ?_); rw [show ((j : Int)).toNat = j from rfl, hnx])); conv => whnf) | fail
                exact XAgain.go (j + 1) (by omega) (by omega) rfl ⟨rfl, rfl, rfl, rfl, rfl, rfl, rfl, rfl, rfl, rfl, rfl, trivial⟩
            obtain rfl : j = k := by omega
            rw [mixF_end]
            repeat' first | ((with_reducible apply XBr.dec) <;> (intro h; first | (exfalso; omega) | ((try simp only [List.length_map] at h); first | (exfalso; omega) | (conv => whnf)))) | ((first | (with_reducible refine XInt.i64 (by omega) (by omega) ?_) | (first | refine XHold.mk (tvs_len _ _) ?_ | refine XHold.mk ⟨tvs_len _ _, rfl, by omega, by omega⟩ ?_)); conv => whnf) | fail
            exact XAgain.go (i + 1, q, m', (fun t => F t && dryT s t q m'), w) ⟨by dsimp only; omega, by dsimp only; omega, by dsimp only; omega, by dsimp only; omega, hs⟩ (by dsimp only; omega) rfl ⟨rfl, rfl, rfl, rfl, rfl, rfl, rfl, rfl, rfl, rfl, trivial⟩
      · rw [if_neg (fun h => hle h.2)] at hs
        repeat' first | ((with_reducible apply XBr.tt); conv => whnf) | (with_reducible apply XBr.not) | ((with_reducible apply XBr.dec) <;> (intro h; first | (exfalso; omega) | ((try simp only [List.length_map] at h); first | (exfalso; omega) | (conv => whnf)))) | ((first | (with_reducible refine XInt.i64 (by omega) (by omega) ?_) | ((with_reducible refine XIx.nat ?_ ?_ ?_); omega; (intro _; rfl))); conv => whnf) | (with_reducible apply XAnd.mk) | ((first | (with_reducible apply Chk.go) | (with_reducible apply ChkA.go) | (with_reducible apply ChkF.go) | (with_reducible apply ChkB.go)); conv => whnf) | (exact XSame.mk rfl rfl) | (with_reducible exact trivial) | (apply Walk.drawN (id := 15) tab_ok mixed_ok [] [] (hsU _) [_, _, _, _, _, _, _, _, _, _, _, _, _, _, _, _, _, _, _, _] (by kernel_rfl) rfl) | ((first | (with_reducible apply XNext.mk) | (refine XCall.ret hre ?_)); conv => whnf) | fail
        rw [hfr, hs]
        exact ⟨.low rfl⟩
  obtain rfl : i = l.length := by omega
  rw [List.drop_length, fixS] at hs
  have hfr2 : fixR s m0 l = (if (p : Int) = s.home then bsum F k else 0, w) := by rw [hfr, hs]
  repeat' first | ((with_reducible apply XBr.dec) <;> (intro h; first | (exfalso; omega) | ((try simp only [List.length_map] at h); first | (exfalso; omega) | (conv => whnf)))) | fail
  refine Walk.loopK tab_ok [] [(3, _), (6, _), (7, _), (8, _), (10, _), (11, _), (12, _)] ⟨rfl, rfl, rfl, rfl, rfl, rfl, rfl, trivial⟩ (fun j : Nat => j ≤ k) (fun j => [(16, natA (if (p : Int) = s.home then bsum F j else 0)), (17, natA j)]) (fun _ => [.grow 4 false (tvs k F)]) (fun j => k - j) 0 (Nat.zero_le _) rfl ⟨by split <;> rfl, rfl, trivial⟩ ?_
  intro j hj
  conv => whnf
  have hbl : bsum F j < 2 ^ j := bsum_lt _ _
  have hb2 : 2 ^ j ≤ 2 ^ 4 := Nat.pow_le_pow_right (by omega) (by omega)
  have hnx : bsum F (j + 1) = bsum F j + if F j = true then 2 ^ j else 0 := rfl
  have hend : j = k → bsum F j = bsum F k := fun h => by rw [h]
  by_cases hlt2 : j < k
  · have ho := rOne_c j (by omega)
    generalize bsum F j = v at hbl hnx hend
    generalize 2 ^ j = u at hbl hb2 hnx ho
    cases hF : F j with
    | false =>
      rw [hF, if_neg (by simp), Nat.add_zero] at hnx
      repeat' first | ((with_reducible apply XBr.ff); conv => whnf) | ((with_reducible apply XBr.dec) <;> (intro h; first | (exfalso; omega) | ((try simp only [List.length_map] at h); first | (exfalso; omega) | (conv => whnf)))) | ((first | (with_reducible refine XInt.i64 (by omega) (by omega) ?_) | (first | refine XHold.mk (tvs_len _ _) ?_ | refine XHold.mk ⟨tvs_len _ _, rfl, by omega, by omega⟩ ?_) | ((refine XGet.tvs rfl (by omega) ?_); rw [show ((j : Int)).toNat = j from rfl, hF])); conv => whnf) | fail
      exact XAgain.go (j + 1) (by omega) (by omega) rfl ⟨rfl, rfl, rfl, rfl, rfl, rfl, rfl, (by rw [hnx]; rfl), rfl, trivial⟩
    | true =>
      rw [hF, if_pos rfl] at hnx
      by_cases hph : (p : Int) = s.home
      · rw [if_pos hph]
        repeat' first | ((with_reducible apply XBr.tt); conv => whnf) | ((with_reducible apply XBr.dec) <;> (intro h; first | (exfalso; omega) | ((try simp only [List.length_map] at h); first | (exfalso; omega) | (conv => whnf)))) | ((with_reducible apply XBr.beq) <;> (intro h; first | (exfalso; omega) | (conv => whnf))) | ((first | (with_reducible refine XInt.i64 (by omega) (by omega) ?_) | (first | refine XHold.mk (tvs_len _ _) ?_ | refine XHold.mk ⟨tvs_len _ _, rfl, by omega, by omega⟩ ?_) | ((refine XGet.tvs rfl (by omega) ?_); rw [show ((j : Int)).toNat = j from rfl, hF]) | (refine XCall.ret ho ?_)); conv => whnf) | fail
        exact XAgain.go (j + 1) (by omega) (by omega) rfl ⟨rfl, rfl, rfl, rfl, rfl, rfl, rfl, (by rw [if_pos hph, hnx]; exact congrArg (fun z => some (AV.int .i64 z)) (by omega)), rfl, trivial⟩
      · rw [if_neg hph]
        repeat' first | ((with_reducible apply XBr.tt); conv => whnf) | ((with_reducible apply XBr.dec) <;> (intro h; first | (exfalso; omega) | ((try simp only [List.length_map] at h); first | (exfalso; omega) | (conv => whnf)))) | ((with_reducible apply XBr.beq) <;> (intro h; first | (exfalso; omega) | (conv => whnf))) | ((first | (with_reducible refine XInt.i64 (by omega) (by omega) ?_) | (first | refine XHold.mk (tvs_len _ _) ?_ | refine XHold.mk ⟨tvs_len _ _, rfl, by omega, by omega⟩ ?_) | ((refine XGet.tvs rfl (by omega) ?_); rw [show ((j : Int)).toNat = j from rfl, hF])); conv => whnf) | fail
        exact XAgain.go (j + 1) (by omega) (by omega) rfl ⟨rfl, rfl, rfl, rfl, rfl, rfl, rfl, (by rw [if_neg hph]; rfl), rfl, trivial⟩
  obtain rfl : j = k := by omega
  repeat' first | ((with_reducible apply XBr.dec) <;> (intro h; first | (exfalso; omega) | ((try simp only [List.length_map] at h); first | (exfalso; omega) | (conv => whnf)))) | ((first | refine XHold.mk (tvs_len _ _) ?_ | refine XHold.mk ⟨tvs_len _ _, rfl, by omega, by omega⟩ ?_); conv => whnf) | fail
  rw [hfr2, hs]
  exact ⟨.low rfl⟩
end GA
end

section
namespace GA
open Go Go.RowKit Go.Proofs
set_option pp.deepTerms true
set_option maxRecDepth 8000
set_option linter.unusedVariables false
set_option linter.unusedSimpArgs false

theorem dup_stp (nl : Bool) (xs : List (Int × Int)) (hx : xs.length ≤ 100000) : Comp Tryz.prog 12 [.sl nl (xs.map sgA)] (.sl false (xs.map sgA)) := by
  refine Comp.body (T := tab) (res := [.tmp 2]) tab_ok [] Tryz.func12 rfl (by kernel_rfl) Tryz.ntmps12 rfl (by simp only [List.length_cons, List.length_nil]; decide) (by simp only [lowL, AV.low, lowSg]; rfl) ?_; conv => whnf
  refine XHold.mk ⟨by omega, by simp, by unfold Room; simp; omega⟩ ?_
  conv => whnf
  refine XHold.mk (wideSg xs) ?_
  conv => whnf
  refine XHold.mk ⟨rfl, rfl, by unfold Room; simp; omega⟩ ?_
  conv => whnf
  exact ⟨Froz.grow rfl (by simp) (lowSg xs)⟩
theorem SnEq.fixS {s u : Sn} (e : SnEq s u) : ∀ (l : List (Int × Int)) (p m a w : Nat), GA.fixS s p m a w l = GA.fixS u p m a w l
  | [], _, _, _, _ => rfl
  | t :: l, p, m, a, w => by
    rw [GA.fixS, GA.fixS, e.waysL, e.last, e.drN, e.bed, SnEq.fixS e l]
theorem SnEq.fixE {s u : Sn} (e : SnEq s u) (m : Int) (l : List (Int × Int)) : GA.fixE s m l = GA.fixE u m l := by unfold GA.fixE; rw [e.err, e.last, e.home, e.drN, e.fixS]
theorem SnEq.fixR {s u : Sn} (e : SnEq s u) (m : Int) (l : List (Int × Int)) : GA.fixR s m l = GA.fixR u m l := by unfold GA.fixR; rw [e.home, e.drN, e.fixS]
theorem SnEq.drvS {s u : Sn} (e : SnEq s u) (b : Nat) : ∀ (l : List (Int × Int)) (x : Sta), GA.drvS s b x l = GA.drvS u b x l
  | [], _ => rfl
  | t :: l, x => by
    rw [GA.drvS, GA.drvS, e.after]
    cases (afterS u x t).find? fun y => y.l.testBit b with
    | none => rfl
    | some y => dsimp only; rw [SnEq.drvS e b l]
theorem fixed_both (s : Sn) (hb : SnB s) (mi : Int) (T : List (Int × Int)) (hT : T.length ≤ 100) : ∃ a w e : Int, (∀ nl, Comp Tryz.prog 25 [snA (ownS s), .int .i64 mi, .sl nl (T.map sgA)] (.tup [.int .i64 a, .int .i64 w, .int .i64 e])) ∧ ∀ nl, Comp Tryz.prog 26 [rsA s, .int .i64 mi, .sl nl (T.map sgA)] (.tup [.int .i64 a, .int .i64 w, .int .i64 e]) := by
  have e := own_eq s
  by_cases h : snE s ≠ 0 ∨ inZ mi 0 s.last = false
  · refine ⟨0, 0, fixE s mi T, fun nl => ?_, fun nl => rFixed_no s hb mi nl T h⟩
    rw [e.fixE]
    exact fFixed_no (ownS s) (own_B hb) mi nl T (by rw [← e.err]; exact h)
  · have h' := not_or.1 h
    have h0 : snE s = 0 := Classical.byContradiction h'.1
    have ok := snE_iff.1 h0
    have oko : SnOk (ownS s) := snE_iff.1 (by rw [← e.err]; exact h0)
    have hm : inZ mi 0 s.last = true := by simpa using h'.2
    rw [inZ_iff] at hm
    obtain ⟨m0, rfl⟩ : ∃ m0 : Nat, mi = m0 := ⟨mi.toNat, by omega⟩
    refine ⟨((fixR s m0 T).1 : Nat), ((fixR s m0 T).2 : Nat), _, fun nl => ?_, fun nl => rFixed_ok s hb ok m0 hm.2 nl T (by omega)⟩
    have := fFixed_ok (ownS s) (own_B hb) oko m0 hm.2 nl T (by omega)
    rw [← e.fixR, ← e.home, ← e.drN, ← e.fixS] at this
    exact this
theorem drive_both (s : Sn) (hb : SnB s) (p m l : Int) (T : List (Int × Int)) (hT : T.length ≤ 100) (ht : ∀ t ∈ T, -9223372036854775808 ≤ t.2 ∧ t.2 ≤ 9223372036854775807) :
    ∃ (L : List Sta) (nf : Bool) (e : Int), L.length ≤ 200 ∧ (∀ nl, Comp Tryz.prog 23 [snA (ownS s), xA p m l, .sl nl (T.map sgA)] (.tup [.sl nf (L.map staA), .int .i64 e])) ∧ ∀ nl, Comp Tryz.prog 24 [rsA s, xA p m l, .sl nl (T.map sgA)] (.tup [.sl nf (L.map staA), .int .i64 e]) := by
  have e := own_eq s
  by_cases h : sttE s p m l = 0
  · have h2 := fun nl => fDrive_ok (ownS s) (own_B hb) p m l nl T (by omega) ht (by rw [← e.sttE]; exact h)
    have h3 := fun nl => rDrive_ok s hb p m l nl T (by omega) h
    rw [← e.safe, ← e.drvS] at h2
    have hlen : ∀ (T : List (Int × Int)) (x : Sta) L, drvS s (lowB l.toNat) x T = some L → L.length ≤ T.length := fun T => by
      induction T with
      | nil => intro x L h; cases h; exact Nat.le_refl _
      | cons t T ih =>
        intro x L h
        rw [drvS] at h
        cases hf : (afterS s x t).find? fun y => y.l.testBit (lowB l.toNat) with
        | none => rw [hf] at h; cases h
        | some y =>
          rw [hf] at h
          dsimp only at h
          cases hq : drvS s (lowB l.toNat) y T with
          | none => rw [hq] at h; cases h
          | some L' =>
            rw [hq] at h
            cases h
            have := ih y L' hq
            simp only [List.length_cons]; omega
    cases hD : (if safeB s (stN p m l) = true then drvS s (lowB l.toNat) (stN p m l) T else none) with
    | none =>
      rw [hD] at h2 h3
      exact ⟨[], true, 8, by simp, h2, h3⟩
    | some L =>
      rw [hD] at h2 h3
      have hL : L.length ≤ T.length := by
        split at hD
        · exact hlen _ _ _ hD
        · cases hD
      exact ⟨stN p m l :: L, false, 0, by simp only [List.length_cons]; omega, h2, h3⟩
  · refine ⟨[], true, sttE s p m l, by simp, fun nl => ?_, fun nl => rDrive_no s hb p m l nl T h⟩
    rw [e.sttE]
    exact fDrive_no (ownS s) (own_B hb) p m l nl T (by rw [← e.sttE]; exact h)
def rsZ' : List AV := [.int .i64 0, .int .i64 0, .int .i64 0, .int .i64 0, .sl true [], .sl true [], .sl true []]
set_option maxHeartbeats 8000000 in
theorem fordSteps_c (s : Sn) (p m l : Int) (t : Int × Int) (ht1 : -9223372036854775808 ≤ t.2) (ht2 : t.2 ≤ 9223372036854775807) (nl : Bool) (T : List (Int × Int)) (hT0 : T.length < 9223372036854775808) (hT : ∀ t ∈ T, -9223372036854775808 ≤ t.2 ∧ t.2 ≤ 9223372036854775807) (mi : Int) :
    Comp Tryz.prog 3 [snA s, xA p m l, sgA t, .sl nl (T.map sgA), .int .i64 mi] (.bool true) := by
  have hgr := great02_c s
  have eT : ((T.map sgA).length : Int) = T.length := by rw [List.length_map]
  have ea : (((([] : List Sta).map staA).length : Nat) : Int) = 0 := rfl
  have e00 : (([] : List AV).length : Int) = 0 := rfl
  have es : (((([] : List (Int × Int)).map sgA).length : Nat) : Int) = 0 := rfl
  by_cases hg : grtS s = true ∨ 70 < T.length
  · cases hgs : grtS s with
    | true =>
      rw [hgs] at hgr
      refine Comp.body (T := tab) (res := [.tmp 10]) tab_ok [] Tryz.func3 rfl (by kernel_rfl) Tryz.ntmps3 rfl (by simp only [List.length_cons, List.length_nil]; decide) (by simp only [lowL, AV.low, snL, xL, sgL, lowSg]; rfl) ?_; conv => whnf
      repeat' first | ((first | (with_reducible apply XBr.tt) | (refine XCall.ret hgr ?_) | (refine XCall.ret awake02_c ?_)); conv => whnf) | fail
      exact XOut.bool rfl
    | false =>
      rw [hgs] at hgr hg
      have h70 : 70 < T.length := by rcases hg with h | h; cases h; exact h
      refine Comp.body (T := tab) (res := [.tmp 10]) tab_ok [] Tryz.func3 rfl (by kernel_rfl) Tryz.ntmps3 rfl (by simp only [List.length_cons, List.length_nil]; decide) (by simp only [lowL, AV.low, snL, xL, sgL, lowSg]; rfl) ?_; conv => whnf
      repeat' first | ((with_reducible apply XBr.ff); conv => whnf) | ((with_reducible apply XBr.dec) <;> (intro h; first | (exfalso; omega) | ((try simp only [List.length_map] at h); first | (exfalso; omega) | (conv => whnf)))) | ((first | (refine XCall.ret hgr ?_) | (refine XCall.ret awake02_c ?_)); conv => whnf) | fail
      exact XOut.bool rfl
  have hg' := not_or.1 hg
  have hgs : grtS s = false := by simpa using hg'.1
  rw [hgs] at hgr
  have hb := (grt_B hgs).1
  have hbo := own_B hb
  have e := own_eq s
  have how := own02_c s hb
  have hth := theirs02_c s hb
  have hdu := dup_stp nl T (by omega)
  have hst := rStated_c s hb p m l
  have hsa := same02_c s hb
  have hga := gone nl T (by omega)
  have hq := eq_sg false nl T (by omega)
  obtain ⟨L, nf, eD, hL, hd1, hd2⟩ := drive_both s hb p m l T (by omega) hT
  obtain ⟨fa, fw, eF, hf1, hf2⟩ := fixed_both s hb mi T (by omega)
  have hbe2 := been nf L (by omega)
  have hed := eq_rsta L.isEmpty nf L (by omega)
  by_cases h0 : sttE s p m l = 0
  rotate_left
  · have hsp := fSteps_no (ownS s) hbo p m l (by rw [← e.sttE]; exact h0)
    have haf := fAfter_no (ownS s) hbo p m l t (by rw [← e.sttE]; exact h0)
    rw [← e.sttE] at hsp haf
    have hgo := hga; have hgo2 := hga; have hbe := hbe2; have hrs := hga; have hra := hga; have hes := hed; have hea := hed
    generalize sttE s p m l = v at h0 hst hsp haf
    refine Comp.body (T := tab) (res := [.tmp 10]) tab_ok [] Tryz.func3 rfl (by kernel_rfl) Tryz.ntmps3 rfl (by simp only [List.length_cons, List.length_nil]; decide) (by simp only [lowL, AV.low, snL, xL, sgL, lowSg]; rfl) ?_; conv => whnf
    repeat' first | ((with_reducible apply XBr.ff); conv => whnf) | ((with_reducible apply XBr.dec) <;> (intro h; first | (exfalso; omega) | ((try simp only [List.length_map] at h); first | (exfalso; omega) | (conv => whnf)))) | ((refine XCall.ret hgr ?_); conv => whnf) | fail
    refine Walk.place (Walk.place (Walk.place ?_))
    apply Walk.drawX tab_ok mixed_ok [] [7, 8, 9, 10, 12, 13] (fun fl => match fl with
      | [a, b, c, x, y, z] => [(bif a then .cells (bif x then snC (ownS s) else rsZ') else .free), (bif b then .cells (bif y then rsC s else rsZ') else .free), (bif c then .cells (bif z then [.int .i64 p, .int .i64 m, .int .i64 l] else [.int .i64 0, .int .i64 0, .int .i64 0]) else .free)]
      | _ => []) [_, _, _, _, _, _, _, .ptr 0 0, .ptr 1 0, .ptr 2 0, _, _, _, _] (by kernel_rfl) rfl
    · skip
      repeat' first | (with_reducible apply XAnd.mk) | ((first | (with_reducible apply Chk.go) | (with_reducible apply ChkA.go)); conv => whnf) | (exact XSame.mk rfl rfl) | (with_reducible exact trivial) | ((first | (refine XCall.ret how ?_) | (refine XCall.ret hth ?_) | (refine XCall.ret hdu ?_)); conv => whnf) | (first | ((refine XFree.at 0 rfl ?_); (conv => whnf); exact XSame.mk rfl rfl) | ((refine XFree.at 1 rfl ?_); (conv => whnf); exact XSame.mk rfl rfl) | ((refine XFree.at 2 rfl ?_); (conv => whnf); exact XSame.mk rfl rfl)) | fail
    · skip
      repeat' first | (with_reducible apply XAnd.mk) | ((first | (with_reducible apply Chk.go) | (with_reducible apply ChkF.go) | (with_reducible apply ChkB.go)); conv => whnf) | (exact XSame.mk rfl rfl) | (with_reducible exact trivial) | ((first | (refine XCall.ret how ?_) | (refine XCall.ret hth ?_) | (refine XCall.ret hdu ?_)); conv => whnf) | (first | ((refine XFree.at 0 rfl ?_); (conv => whnf); exact XSame.mk rfl rfl) | ((refine XFree.at 1 rfl ?_); (conv => whnf); exact XSame.mk rfl rfl) | ((refine XFree.at 2 rfl ?_); (conv => whnf); exact XSame.mk rfl rfl)) | fail
    conv => whnf
    repeat' first | ((first | (refine XCall.ret hst ?_) | (refine XCall.ret hsp ?_) | (refine XCall.ret haf ?_)); conv => whnf) | fail
    refine Walk.norm tab_ok [] [(3, _), (4, _), (5, _), (6, _), (7, _), (11, _), (12, _), (13, _), (14, _), (15, _), (16, _), (17, _), (18, _), (19, _)] ⟨rfl, rfl, rfl, rfl, rfl, rfl, rfl, rfl, rfl, rfl, rfl, rfl, rfl, rfl, trivial⟩ ?_
    conv => whnf
    repeat' first | ((first | (with_reducible apply XBr.tt) | (with_reducible apply XBr.ff)); conv => whnf) | (with_reducible apply XBr.not) | ((with_reducible apply XBr.dec) <;> (intro h; first | (exfalso; omega) | ((try simp only [List.length_map] at h); first | (exfalso; omega) | (conv => whnf)))) | ((with_reducible apply XBr.beq) <;> (intro h; first | (exfalso; omega) | (conv => whnf))) | ((with_reducible apply XBr.bne) <;> (intro h; first | (exfalso; omega) | (conv => whnf))) | ((with_reducible refine XInt.i64 (by omega) (by omega) ?_); conv => whnf) | (with_reducible apply XAnd.mk) | ((first | (with_reducible apply Chk.go) | (with_reducible apply ChkA.go) | (with_reducible apply ChkF.go) | (with_reducible apply ChkB.go)); conv => whnf) | (exact XSame.mk rfl rfl) | (with_reducible exact trivial) | (apply Walk.drawN (id := 16) tab_ok mixed_ok [] [] (hsU _) [_, _, _, _, _, _, _, _, _, _] (by kernel_rfl) rfl) | (apply Walk.drawN (id := 20) tab_ok mixed_ok [] [] (hsU _) [_, _, _, _, _, _, _, _, _, _, _, _] (by kernel_rfl) rfl) | ((first | (with_reducible apply XNext.mk) | (refine XCall.ret hga ?_) | (refine XCall.ret hbe ?_) | (refine XCall.ret hes ?_) | (refine XCall.ret (hd1 _) ?_) | (refine XCall.ret (hd2 _) ?_) | (refine XCall.ret (hf1 _) ?_) | (refine XCall.ret (hf2 _) ?_)); conv => whnf) | fail
    all_goals
      refine Walk.norm tab_ok [] [(3, _), (5, _), (11, _), (12, _), (15, _), (17, _), (23, _), (24, _), (25, _), (26, _)] ⟨rfl, rfl, rfl, rfl, rfl, rfl, rfl, rfl, rfl, rfl, trivial⟩ ?_
      conv => whnf
      repeat' first | ((with_reducible apply XBr.tt); conv => whnf) | ((with_reducible apply XBr.beq) <;> (intro h; first | (exfalso; omega) | (conv => whnf))) | ((first | (refine XCall.ret hsa ?_) | (refine XCall.ret hq ?_) | (refine XCall.ret awake02_c ?_)); conv => whnf) | fail
      exact XOut.bool rfl
  have hoE : sttE (ownS s) p m l = 0 := by rw [← e.sttE]; exact h0
  obtain ⟨ok, h1, h2, h3, h4⟩ := sttE_iff.1 h0
  have hxe := xA_st h1.1 h2.1 (show 0 ≤ l by omega)
  have hx := stN_ok h0
  have hxl : (stN p m l).l ≤ allN s := by show l.toNat ≤ allN s; omega
  have hsp := fSteps_ok (ownS s) hbo p m l hoE
  have haf := fAfter_ok (ownS s) hbo p m l t hoE ht1 ht2
  rw [← e.steps] at hsp
  rw [← e.after] at haf
  rw [h0] at hst
  have hrs := rSteps_c s hb ok (stN p m l) hx hxl
  have hra := rAfter_c s hb ok (stN p m l) hx hxl t
  rw [← hxe] at hrs hra
  have hsl : (stepsS s (stN p m l)).length ≤ 55 := by
    have hwl : (waysL s (stN p m l).p).length ≤ 55 := by
      have h := waysK_len s (stN p m l).p s.places.toNat
      have p2 := ok.p2; have w1 := ok.w1
      have h2 : s.places.toNat * (1 + s.ways.length) ≤ 5 * 11 := Nat.mul_le_mul (by omega) (by omega)
      show (waysK s (stN p m l).p s.places.toNat).length ≤ 55
      omega
    exact Nat.le_trans (List.length_filter_le _ _) hwl
  have hal := afterS_len s (stN p m l) t
  have hgo := gone (stepsS s (stN p m l)).isEmpty (stepsS s (stN p m l)) (by omega)
  have hes := eq_rsg (stepsS s (stN p m l)).isEmpty (stepsS s (stN p m l)).isEmpty (stepsS s (stN p m l)) (by omega)
  have hbe := been (afterS s (stN p m l) t).isEmpty (afterS s (stN p m l) t) (by omega)
  have hea := eq_rsta (afterS s (stN p m l) t).isEmpty (afterS s (stN p m l) t).isEmpty (afterS s (stN p m l) t) (by omega)
  have hgo2 := hgo
  generalize stepsS s (stN p m l) = W at hsp hrs hsl hgo hes hgo2
  cases hA : afterS s (stN p m l) t with
  | nil =>
    rw [hA] at haf hra hbe hea
    rw [if_pos rfl] at haf
    refine Comp.body (T := tab) (res := [.tmp 10]) tab_ok [] Tryz.func3 rfl (by kernel_rfl) Tryz.ntmps3 rfl (by simp only [List.length_cons, List.length_nil]; decide) (by simp only [lowL, AV.low, snL, xL, sgL, lowSg]; rfl) ?_; conv => whnf
    repeat' first | ((with_reducible apply XBr.ff); conv => whnf) | ((with_reducible apply XBr.dec) <;> (intro h; first | (exfalso; omega) | ((try simp only [List.length_map] at h); first | (exfalso; omega) | (conv => whnf)))) | ((refine XCall.ret hgr ?_); conv => whnf) | fail
    refine Walk.place (Walk.place (Walk.place ?_))
    apply Walk.drawX tab_ok mixed_ok [] [7, 8, 9, 10, 12, 13] (fun fl => match fl with
      | [a, b, c, x, y, z] => [(bif a then .cells (bif x then snC (ownS s) else rsZ') else .free), (bif b then .cells (bif y then rsC s else rsZ') else .free), (bif c then .cells (bif z then [.int .i64 p, .int .i64 m, .int .i64 l] else [.int .i64 0, .int .i64 0, .int .i64 0]) else .free)]
      | _ => []) [_, _, _, _, _, _, _, .ptr 0 0, .ptr 1 0, .ptr 2 0, _, _, _, _] (by kernel_rfl) rfl
    · skip
      repeat' first | (with_reducible apply XAnd.mk) | ((first | (with_reducible apply Chk.go) | (with_reducible apply ChkA.go)); conv => whnf) | (exact XSame.mk rfl rfl) | (with_reducible exact trivial) | ((first | (refine XCall.ret how ?_) | (refine XCall.ret hth ?_) | (refine XCall.ret hdu ?_)); conv => whnf) | (first | ((refine XFree.at 0 rfl ?_); (conv => whnf); exact XSame.mk rfl rfl) | ((refine XFree.at 1 rfl ?_); (conv => whnf); exact XSame.mk rfl rfl) | ((refine XFree.at 2 rfl ?_); (conv => whnf); exact XSame.mk rfl rfl)) | fail
    · skip
      repeat' first | (with_reducible apply XAnd.mk) | ((first | (with_reducible apply Chk.go) | (with_reducible apply ChkF.go) | (with_reducible apply ChkB.go)); conv => whnf) | (exact XSame.mk rfl rfl) | (with_reducible exact trivial) | ((first | (refine XCall.ret how ?_) | (refine XCall.ret hth ?_) | (refine XCall.ret hdu ?_)); conv => whnf) | (first | ((refine XFree.at 0 rfl ?_); (conv => whnf); exact XSame.mk rfl rfl) | ((refine XFree.at 1 rfl ?_); (conv => whnf); exact XSame.mk rfl rfl) | ((refine XFree.at 2 rfl ?_); (conv => whnf); exact XSame.mk rfl rfl)) | fail
    conv => whnf
    repeat' first | ((first | (refine XCall.ret hst ?_) | (refine XCall.ret hsp ?_) | (refine XCall.ret haf ?_)); conv => whnf) | fail
    refine Walk.norm tab_ok [] [(3, _), (4, _), (5, _), (6, _), (7, _), (11, _), (12, _), (13, _), (14, _), (15, _), (16, _), (17, _), (18, _), (19, _)] ⟨rfl, rfl, rfl, rfl, rfl, rfl, rfl, rfl, rfl, rfl, rfl, rfl, rfl, rfl, trivial⟩ ?_
    conv => whnf
    repeat' first | ((first | (with_reducible apply XBr.tt) | (with_reducible apply XBr.ff)); conv => whnf) | (with_reducible apply XBr.not) | ((with_reducible apply XBr.beq) <;> (intro h; first | (exfalso; omega) | (conv => whnf))) | ((with_reducible apply XBr.bne) <;> (intro h; first | (exfalso; omega) | (conv => whnf))) | (with_reducible apply XAnd.mk) | ((first | (with_reducible apply Chk.go) | (with_reducible apply ChkA.go) | (with_reducible apply ChkF.go) | (with_reducible apply ChkB.go)); conv => whnf) | (exact XSame.mk rfl rfl) | (with_reducible exact trivial) | (apply Walk.drawN (id := 13) tab_ok mixed_ok [] [] (hsU _) [_, _, _, _, _, _, _, _, _, _, _, _, _, _, _, _, _, _, _] (by kernel_rfl) rfl) | (apply Walk.drawN (id := 16) tab_ok mixed_ok [] [] (hsU _) [_, _, _, _, _, _, _, _, _, _] (by kernel_rfl) rfl) | (apply Walk.drawN (id := 20) tab_ok mixed_ok [] [] (hsU _) [_, _, _, _, _, _, _, _, _, _, _, _] (by kernel_rfl) rfl) | ((first | (with_reducible apply XNext.mk) | (refine XCall.ret hga ?_) | (refine XCall.ret hgo ?_) | (refine XCall.ret hbe ?_) | (refine XCall.ret hbe2 ?_) | (refine XCall.ret hrs ?_) | (refine XCall.ret hra ?_) | (refine XCall.ret hes ?_) | (refine XCall.ret hea ?_) | (refine XCall.ret hed ?_) | (refine XCall.ret (hd1 _) ?_) | (refine XCall.ret (hd2 _) ?_) | (refine XCall.ret (hf1 _) ?_) | (refine XCall.ret (hf2 _) ?_)); conv => whnf) | fail
    all_goals
      refine Walk.norm tab_ok [] [(3, _), (5, _), (11, _), (12, _), (15, _), (17, _), (23, _), (24, _), (25, _), (26, _)] ⟨rfl, rfl, rfl, rfl, rfl, rfl, rfl, rfl, rfl, rfl, trivial⟩ ?_
      conv => whnf
      repeat' first | ((with_reducible apply XBr.tt); conv => whnf) | ((with_reducible apply XBr.beq) <;> (intro h; first | (exfalso; omega) | (conv => whnf))) | ((first | (refine XCall.ret hsa ?_) | (refine XCall.ret hq ?_) | (refine XCall.ret awake02_c ?_)); conv => whnf) | fail
      exact XOut.bool rfl
  | cons y0 A =>
    rw [hA] at haf hra hbe hea
    rw [if_neg (by simp)] at haf
    have e2 : (((y0 :: A).map staA).length : Int) = A.length + 1 := by rw [List.length_map, List.length_cons]; omega
    generalize hB : y0 :: A = B at haf hra hbe hea e2
    refine Comp.body (T := tab) (res := [.tmp 10]) tab_ok [] Tryz.func3 rfl (by kernel_rfl) Tryz.ntmps3 rfl (by simp only [List.length_cons, List.length_nil]; decide) (by simp only [lowL, AV.low, snL, xL, sgL, lowSg]; rfl) ?_; conv => whnf
    repeat' first | ((with_reducible apply XBr.ff); conv => whnf) | ((with_reducible apply XBr.dec) <;> (intro h; first | (exfalso; omega) | ((try simp only [List.length_map] at h); first | (exfalso; omega) | (conv => whnf)))) | ((refine XCall.ret hgr ?_); conv => whnf) | fail
    refine Walk.place (Walk.place (Walk.place ?_))
    apply Walk.drawX tab_ok mixed_ok [] [7, 8, 9, 10, 12, 13] (fun fl => match fl with
      | [a, b, c, x, y, z] => [(bif a then .cells (bif x then snC (ownS s) else rsZ') else .free), (bif b then .cells (bif y then rsC s else rsZ') else .free), (bif c then .cells (bif z then [.int .i64 p, .int .i64 m, .int .i64 l] else [.int .i64 0, .int .i64 0, .int .i64 0]) else .free)]
      | _ => []) [_, _, _, _, _, _, _, .ptr 0 0, .ptr 1 0, .ptr 2 0, _, _, _, _] (by kernel_rfl) rfl
    · skip
      repeat' first | (with_reducible apply XAnd.mk) | ((first | (with_reducible apply Chk.go) | (with_reducible apply ChkA.go)); conv => whnf) | (exact XSame.mk rfl rfl) | (with_reducible exact trivial) | ((first | (refine XCall.ret how ?_) | (refine XCall.ret hth ?_) | (refine XCall.ret hdu ?_)); conv => whnf) | (first | ((refine XFree.at 0 rfl ?_); (conv => whnf); exact XSame.mk rfl rfl) | ((refine XFree.at 1 rfl ?_); (conv => whnf); exact XSame.mk rfl rfl) | ((refine XFree.at 2 rfl ?_); (conv => whnf); exact XSame.mk rfl rfl)) | fail
    · skip
      repeat' first | (with_reducible apply XAnd.mk) | ((first | (with_reducible apply Chk.go) | (with_reducible apply ChkF.go) | (with_reducible apply ChkB.go)); conv => whnf) | (exact XSame.mk rfl rfl) | (with_reducible exact trivial) | ((first | (refine XCall.ret how ?_) | (refine XCall.ret hth ?_) | (refine XCall.ret hdu ?_)); conv => whnf) | (first | ((refine XFree.at 0 rfl ?_); (conv => whnf); exact XSame.mk rfl rfl) | ((refine XFree.at 1 rfl ?_); (conv => whnf); exact XSame.mk rfl rfl) | ((refine XFree.at 2 rfl ?_); (conv => whnf); exact XSame.mk rfl rfl)) | fail
    conv => whnf
    repeat' first | ((first | (refine XCall.ret hst ?_) | (refine XCall.ret hsp ?_) | (refine XCall.ret haf ?_)); conv => whnf) | fail
    refine Walk.norm tab_ok [] [(3, _), (4, _), (5, _), (6, _), (7, _), (11, _), (12, _), (13, _), (14, _), (15, _), (16, _), (17, _), (18, _), (19, _)] ⟨rfl, rfl, rfl, rfl, rfl, rfl, rfl, rfl, rfl, rfl, rfl, rfl, rfl, rfl, trivial⟩ ?_
    conv => whnf
    repeat' first | ((first | (with_reducible apply XBr.tt) | (with_reducible apply XBr.ff)); conv => whnf) | (with_reducible apply XBr.not) | ((with_reducible apply XBr.beq) <;> (intro h; first | (exfalso; omega) | (conv => whnf))) | ((with_reducible apply XBr.bne) <;> (intro h; first | (exfalso; omega) | (conv => whnf))) | (with_reducible apply XAnd.mk) | ((first | (with_reducible apply Chk.go) | (with_reducible apply ChkA.go) | (with_reducible apply ChkF.go) | (with_reducible apply ChkB.go)); conv => whnf) | (exact XSame.mk rfl rfl) | (with_reducible exact trivial) | (apply Walk.drawN (id := 13) tab_ok mixed_ok [] [] (hsU _) [_, _, _, _, _, _, _, _, _, _, _, _, _, _, _, _, _, _, _] (by kernel_rfl) rfl) | (apply Walk.drawN (id := 16) tab_ok mixed_ok [] [] (hsU _) [_, _, _, _, _, _, _, _, _, _] (by kernel_rfl) rfl) | (apply Walk.drawN (id := 20) tab_ok mixed_ok [] [] (hsU _) [_, _, _, _, _, _, _, _, _, _, _, _] (by kernel_rfl) rfl) | ((first | (with_reducible apply XNext.mk) | (refine XCall.ret hga ?_) | (refine XCall.ret hgo ?_) | (refine XCall.ret hbe ?_) | (refine XCall.ret hbe2 ?_) | (refine XCall.ret hrs ?_) | (refine XCall.ret hra ?_) | (refine XCall.ret hes ?_) | (refine XCall.ret hea ?_) | (refine XCall.ret hed ?_) | (refine XCall.ret (hd1 _) ?_) | (refine XCall.ret (hd2 _) ?_) | (refine XCall.ret (hf1 _) ?_) | (refine XCall.ret (hf2 _) ?_)); conv => whnf) | fail
    all_goals
      refine Walk.norm tab_ok [] [(3, _), (5, _), (11, _), (12, _), (15, _), (17, _), (23, _), (24, _), (25, _), (26, _)] ⟨rfl, rfl, rfl, rfl, rfl, rfl, rfl, rfl, rfl, rfl, trivial⟩ ?_
      conv => whnf
      repeat' first | ((with_reducible apply XBr.tt); conv => whnf) | ((with_reducible apply XBr.beq) <;> (intro h; first | (exfalso; omega) | (conv => whnf))) | ((first | (refine XCall.ret hsa ?_) | (refine XCall.ret hq ?_) | (refine XCall.ret awake02_c ?_)); conv => whnf) | fail
      exact XOut.bool rfl
end GA
end
