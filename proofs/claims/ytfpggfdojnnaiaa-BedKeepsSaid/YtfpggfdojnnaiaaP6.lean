/- Part 6 of a proof: D33, D30, D34, D35. -/
import Derived.Test.YtfpggfdojnnaiaaP5
section
namespace GA
open Go Go.RowKit Go.Proofs
set_option pp.deepTerms true
set_option maxRecDepth 8000
set_option linter.unusedVariables false
set_option linter.unusedSimpArgs false

def bls (W : Nat) (F : Nat → Bool) : List AV := (vecF W F).map .bool
theorem bls_len (W : Nat) (F : Nat → Bool) : (bls W F).length = W := by rw [bls, List.length_map, vecF_len]
theorem bls_low {n : Nat} (W : Nat) (F : Nat → Bool) : lowL n (bls W F) = true := vec_low fun _ => rfl
theorem bls0 (W : Nat) : List.replicate W (AV.bool false) = bls W fun _ => false := by unfold bls; rw [vecF_replicate, List.map_replicate]
theorem XIx.bls {W : Nat} {F : Nat → Bool} {n : Int} {k : AV → Prop} (i : Nat) (hn : n = i) (h2 : i < W) (h : k (.pim [.bool (F i)])) : XIx (bls W F) n 1 k := by
  subst hn
  have e : nth (GA.bls W F) (i : Int) = .bool (F i) := by
    unfold nth
    rw [Int.toNat_natCast, List.getD_eq_getElem?_getD]; unfold GA.bls; rw [vec_at h2]; rfl
  refine ⟨by omega, by rw [bls_len]; omega, by rw [e]; rfl, ?_⟩
  rw [e]; exact h
theorem XGet.bls {W : Nat} {F : Nat → Bool} {n e : Nat} {k : List AV → Prop} (h1 : n = W) (h2 : e < W) (h : k [.bool (F e)]) : XGet (bls W F) n e k := by
  subst h1
  refine XGet.mapF (f := AV.bool) true (by rw [vecF_len]) h2 ?_
  rw [vecF_get _ h2]; exact h
theorem XPut.bls {W : Nat} {F : Nat → Bool} {n e : Nat} {v : Bool} {k : List AV → Prop} (j : Nat) (he : e = j) (h1 : n = W) (h2 : j < W) (h : k (bls W (updV F j v))) : XPut (bls W F) n e (.bool v) k := by
  subst he; subst h1
  refine XPut.map (f := AV.bool) v rfl (by rw [vecF_len]) h2 ?_
  rw [vecF_set]; exact h
theorem refList_c (nl : Bool) (F : Nat → Bool) (W : Nat) (hW : W ≤ 100000) : Comp Try.prog 103 [.sl nl (bls W F)] (slA (lstF F W)) := by
  have e1 : ((bls W F).length : Int) = W := by rw [bls_len]
  refine Comp.body (T := tab) (res := [.tmp 2]) tab_ok [] Try.func103 rfl (by kernel_rfl) Try.ntmps103 rfl (by simp only [List.length_cons, List.length_nil]; decide) (by simp only [lowL, AV.low, bls_low]; rfl) ?_; conv => whnf
  skip
  refine Walk.nilgr 3 3 rfl ?_
  refine Walk.loopK tab_ok [] [(0, _), (2, _)] ⟨rfl, rfl, trivial⟩ (fun n : Nat => n ≤ W) (fun n => [(3, .gr 0 (lstF F n).length), (4, natA n)]) (fun n => [.grow 3 (lstF F n).isEmpty (ints (lstF F n))]) (fun n => W - n) 0 (Nat.zero_le _) rfl ⟨rfl, rfl, trivial⟩ ?_
  intro n hn
  have hs := lstF_succ F n
  have hl := lstF_len F n
  have hl2 : (ints (lstF F n)).length = (lstF F n).length := ints_len _
  generalize hc : F n = s at hs
  conv => whnf
  repeat' first | ((with_reducible apply XBr.dec) <;> (intro h; first | (exfalso; omega) | ((try simp only [List.length_map] at h); first | (exfalso; omega) | (conv => whnf)))) | ((with_reducible refine XInt.i64 (by omega) (by omega) ?_); conv => whnf) | ((with_reducible refine XHold.mk ?_ ?_); (first | omega | rfl | decide | exact ⟨rfl, by decide, rfl⟩ | exact wideI _ | exact widePr _ | exact wideSk _ | (unfold Room; constructor <;> ((try simp) <;> omega)) | exact ⟨rfl, by simp only [List.length_map], by unfold Room; constructor <;> ((try simp) <;> omega)⟩ | exact ⟨by omega, by omega, by unfold Room; constructor <;> ((try simp) <;> omega)⟩); conv => whnf) | (((refine XIx.bls n rfl (by omega) ?_); rw [hc]); conv => whnf) | ((with_reducible apply XBr.mk') <;> (intro h; conv => whnf)) | fail
  · rename_i h
    subst h
    rw [if_pos rfl] at hs
    refine XAgain.go (n + 1) (by omega) (by omega) ?_ ⟨rfl, rfl, ?_, rfl, trivial⟩
    · rw [hs]
      show [Blk.grow _ (lstF F n ++ [(n : Int)]).isEmpty ((lstF F n ++ [(n : Int)]).map (AV.int .i64))] = _
      rw [isEmpty_app, List.map_append]; rfl
    · show some (AV.gr 0 ((lstF F n).length + 1)) = _
      rw [hs, List.length_append]; rfl
  · rename_i h
    subst h
    rw [if_neg (by simp)] at hs
    exact XAgain.go (n + 1) (by omega) (by omega) (by rw [hs]) ⟨rfl, rfl, by rw [hs]; rfl, rfl, trivial⟩
  · obtain rfl : n = W := by omega
    exact ⟨Froz.grow rfl hl2 (lowI _)⟩
theorem lstF_nil {F : Nat → Bool} : ∀ {n : Nat}, (∀ i, i < n → F i = false) → lstF F n = []
  | 0, _ => rfl
  | n + 1, h => by rw [lstF_succ, if_neg (by rw [h n (by omega)]; simp), lstF_nil fun i hi => h i (by omega)]
theorem lstF_head {F : Nat → Bool} {c : Nat} (hc : F c = true) (h : ∀ i, i < c → F i = false) : ∀ {n : Nat}, c < n → (lstF F n).getD 0 default = c
  | n + 1, hn => by
    rw [lstF_succ]
    by_cases e : c = n
    · subst e; rw [if_pos hc, lstF_nil h]; rfl
    · have ih := lstF_head hc h (n := n) (by omega)
      have hne : 0 < (lstF F n).length := List.length_pos_of_mem (lstF_mem.2 ⟨c, by omega, hc, rfl⟩)
      split
      · rw [List.getD_eq_getElem?_getD, List.getElem?_append_left hne, ← List.getD_eq_getElem?_getD]; exact ih
      · exact ih
theorem planE_2 {b : Bd} {plan : List Int} (h : bedE b = 0) (h2 : (plan.length : Int) ≠ b.months.length) : planE b plan = 2 := by unfold planE; rw [if_neg (fun h' => h' h), if_pos h2]
theorem planE_3 {b : Bd} {plan : List Int} (h : bedE b = 0) (h2 : ¬ (plan.length : Int) ≠ b.months.length) (h3 : plan.all (fun x => inZ x 0 b.room) = false) : planE b plan = 3 := by unfold planE; rw [if_neg (fun h' => h' h), if_neg h2, if_pos h3]
theorem refPlanned_c (b : Bd) (nl : Bool) (plan : List Int) (h1 : b.months.length ≤ 100000) (h2 : b.surveys.length ≤ 100000) (h3 : plan.length ≤ 100000) : Comp Try.prog 29 [bedA b, .sl nl (ints plan)] (.int .i64 (planE b plan)) := by
  have hc := refCheck04_c b h1 h2
  have e1 : ((b.months.map moA).length : Int) = b.months.length := by rw [List.length_map]
  have e2 : ((ints plan).length : Int) = plan.length := by rw [ints_len]
  by_cases hb : bedE b = 0
  · rw [hb] at hc
    refine Comp.body (T := tab) (res := [.tmp 4]) tab_ok [] Try.func29 rfl (by kernel_rfl) Try.ntmps29 rfl (by simp only [List.length_cons, List.length_nil]; decide) (by simp only [lowL, bedL, AV.low, lowI]; rfl) ?_; conv => whnf
    repeat' first | ((with_reducible apply XBr.bne) <;> (intro h; first | (exfalso; omega) | (conv => whnf))) | ((refine XCall.ret hc ?_); conv => whnf) | fail
    · exact XOut.int (planE_2 hb (by rw [e1, e2] at *; omega)).symm
    have hlen : ¬ (plan.length : Int) ≠ b.months.length := by rw [e1, e2] at *; omega
    refine Walk.loopK tab_ok [] [(1, _), (2, _)] ⟨rfl, rfl, trivial⟩ (fun k : Nat => k ≤ plan.length ∧ ∀ j, j < k → inZ (plan.getD j default) 0 b.room = true) (fun k => [(6, natA k)]) (fun _ => []) (fun k => plan.length - k) 0 ⟨Nat.zero_le _, fun j hj => by omega⟩ rfl ⟨rfl, trivial⟩ ?_
    rintro k ⟨hk, hks⟩
    conv => whnf
    by_cases hlt : k < plan.length
    · have hE : inZ (plan.getD k default) 0 b.room = false → planE b plan = 3 := fun h => planE_3 hb hlen (allG_false (p := fun x => inZ x 0 b.room) hlt h)
      have hgo : inZ (plan.getD k default) 0 b.room = true → ∀ j, j < k + 1 → inZ (plan.getD j default) 0 b.room = true := fun h => upto_next hks h
      have hof := off04_c (plan.getD k default) 0 b.room
      generalize inZ (plan.getD k default) 0 b.room = r at hE hgo hof
      repeat' first | (with_reducible apply XBr.not) | ((with_reducible apply XBr.dec) <;> (intro h; first | (exfalso; omega) | ((try simp only [List.length_map] at h); first | (exfalso; omega) | (conv => whnf)))) | ((first | (with_reducible refine XInt.i64 (by omega) (by omega) ?_) | ((with_reducible refine XIx.nat ?_ ?_ ?_); omega; (intro _; rfl))); conv => whnf) | (with_reducible apply XAnd.mk) | ((first | (with_reducible apply Chk.go) | (with_reducible apply ChkA.go) | (with_reducible apply ChkF.go) | (with_reducible apply ChkB.go)); conv => whnf) | (exact XSame.mk rfl rfl) | (with_reducible exact trivial) | (apply Walk.drawN (id := 9) tab_ok mixed_ok [] [] (hsU _) [_, _, _, _, _, _, _] (by kernel_rfl) rfl) | ((first | (with_reducible apply XNext.mk) | (refine XCall.ret hof ?_)); conv => whnf) | ((with_reducible apply XBr.mk') <;> (intro h; conv => whnf)) | fail
      · exact XAgain.go (k + 1) ⟨by omega, hgo h⟩ (by omega) rfl ⟨rfl, rfl, rfl, trivial⟩
      · exact XOut.int (hE h).symm
    · obtain rfl : k = plan.length := by omega
      repeat' first | ((with_reducible apply XBr.dec) <;> (intro h; first | (exfalso; omega) | ((try simp only [List.length_map] at h); first | (exfalso; omega) | (conv => whnf)))) | fail
      refine XOut.int ?_
      unfold planE
      rw [if_neg (fun h' => h' hb), if_neg hlen, if_neg (by rw [allG_true (p := fun x => inZ x 0 b.room) (d := default) hks]; simp)]
  · have hE : planE b plan = bedE b := by unfold planE; rw [if_pos hb]
    rw [hE]
    generalize bedE b = e at hc hb
    refine Comp.body (T := tab) (res := [.tmp 4]) tab_ok [] Try.func29 rfl (by kernel_rfl) Try.ntmps29 rfl (by simp only [List.length_cons, List.length_nil]; decide) (by simp only [lowL, bedL, AV.low, lowI]; rfl) ?_; conv => whnf
    repeat' first | ((with_reducible apply XBr.bne) <;> (intro h; first | (exfalso; omega) | (conv => whnf))) | ((refine XCall.ret hc ?_); conv => whnf) | fail
    exact ⟨.low rfl⟩
theorem endP_next {b : Bd} {plan : List Int} {i n : Nat} (hi : i < b.months.length) : endP b plan (b.months.length - i) n = if lieR b i n - plan.getD i 0 < 0 then lieR b i n - plan.getD i 0 else endP b plan (b.months.length - (i + 1)) (lieR b i n - plan.getD i 0).toNat := by
  obtain ⟨k, hk⟩ : ∃ k, b.months.length - i = k + 1 := ⟨b.months.length - i - 1, by omega⟩
  rw [hk, endP, show b.months.length - (k + 1) = i by omega, show b.months.length - (i + 1) = k by omega]
theorem endP_congr {b c : Bd} (hr : b.room = c.room) (hm : b.months = c.months) {plan : List Int} : ∀ k n, endP b plan k n = endP c plan k n
  | 0, _ => rfl
  | k + 1, n => by
    have hl : ∀ m n, lieR b m n = lieR c m n := fun m n => by unfold lieR; rw [hr, hm]
    rw [endP, endP, hm, hl, endP_congr hr hm k]
def negR (e : Int) : Int := if e < 0 then -1 else e
theorem along_c (b : Bd) (ok : BedOk b) (n1 n2 : Bool) (plan : List Int) (hl : plan.length = b.months.length) (hp : ∀ x ∈ plan, 0 ≤ x ∧ x ≤ b.room) (n0 : Nat) (hn0 : (n0 : Int) ≤ b.room) :
    Comp Try.prog 34 [bedA b, .sl n1 (ints plan), natA n0, .sl n2 (chsA (worstL b))] (.int .i64 (negR (endP b plan b.months.length n0))) := by
  have m1 := ok.m1
  have m2 := ok.m2
  have r1 := ok.r1
  have r2 := ok.r2
  have e1 : ((b.months.map moA).length : Int) = b.months.length := by rw [List.length_map]
  have hwl : (worstL b).length = b.months.length := List.length_map _
  refine Comp.body (T := tab) (res := [.tmp 8]) tab_ok [] Try.func34 rfl (by kernel_rfl) Try.ntmps34 rfl (by simp only [List.length_cons, List.length_nil]; decide) (by simp only [lowL, bedL, AV.low, lowI, chs_low]; rfl) ?_; conv => whnf
  skip
  refine Walk.loopK tab_ok [] [(1, _), (3, _), (4, _)] ⟨rfl, rfl, rfl, trivial⟩ (fun q : Nat × Nat => q.1 ≤ b.months.length ∧ (q.2 : Int) ≤ b.room ∧ endP b plan (b.months.length - q.1) q.2 = endP b plan b.months.length n0) (fun q => [(2, natA q.2), (9, natA q.1)]) (fun _ => []) (fun q => b.months.length - q.1) (0, n0) ⟨Nat.zero_le _, hn0, rfl⟩ rfl ⟨rfl, rfl, trivial⟩ ?_
  rintro ⟨m, n⟩ ⟨hm, hn, he⟩
  dsimp only at hm hn he ⊢
  conv => whnf
  by_cases hlt : m < b.months.length
  · have hmo := ok.mo' hlt
    have hw : (worstL b).getD m default = ((moB b m).pl, (moB b m).th) := by
      unfold worstL moB
      rw [List.getD_eq_getElem?_getD, List.getElem?_map, List.getElem?_eq_getElem hlt, List.getD_eq_getElem?_getD, List.getElem?_eq_getElem hlt]; rfl
    have hg := refGross_c b (moB b m) n (moB b m).pl (moB b m).th (by omega) (by omega) hmo.1 hmo.2.1 (by omega) (by omega) (by omega) (by omega) (by omega) (by omega)
    change Comp Try.prog _ _ (.int .i64 (lieR b m n)) at hg
    have hlb := lieR_b ok (j := m) (n := n) hlt
    have hpm := hp _ (getD_mem (d := default) (show m < plan.length by omega))
    rw [endP_next hlt] at he
    have hpd : plan.getD m 0 = plan.getD m default := rfl
    rw [hpd] at he
    repeat' first | ((with_reducible apply XBr.dec) <;> (intro h; first | (exfalso; omega) | ((try simp only [List.length_map] at h); first | (exfalso; omega) | (conv => whnf)))) | ((first | (with_reducible refine XInt.i64 (by omega) (by omega) ?_) | ((with_reducible refine XIx.nat ?_ ?_ ?_); omega; (intro _; rfl))); conv => whnf) | (with_reducible apply XAnd.mk) | ((first | (with_reducible apply Chk.go) | (with_reducible apply ChkA.go) | (with_reducible apply ChkF.go) | (with_reducible apply ChkB.go)); conv => whnf) | (exact XSame.mk rfl rfl) | (with_reducible exact trivial) | (apply Walk.drawN (id := 4) tab_ok mixed_ok [] [] (hsU _) [_, _, _, _, _, _, _, _, _, _, _, _, _, _, _, _, _, _] (by kernel_rfl) rfl) | ((first | (with_reducible apply XNext.mk) | (rw [hw]; refine XCall.ret hg ?_)); conv => whnf) | fail
    · rename_i h
      have h' : lieR b m n - plan.getD m default < 0 := h
      rw [if_pos h'] at he
      refine XOut.int ?_
      rw [← he]; unfold negR; rw [if_pos h']
    · rename_i h
      have h' : ¬ lieR b m n - plan.getD m default < 0 := h
      rw [if_neg h'] at he
      exact XAgain.go (m + 1, (lieR b m n - plan.getD m default).toNat) ⟨by dsimp only; omega, by dsimp only; omega, he⟩ (by dsimp only; omega) rfl ⟨rfl, rfl, rfl, congrArg (fun z => some (AV.int .i64 z)) (show lieR b m n - plan.getD m default = (((lieR b m n - plan.getD m default).toNat : Nat) : Int) by omega), rfl, trivial⟩
  · obtain rfl : m = b.months.length := by omega
    repeat' first | ((with_reducible apply XBr.dec) <;> (intro h; first | (exfalso; omega) | ((try simp only [List.length_map] at h); first | (exfalso; omega) | (conv => whnf)))) | fail
    refine XOut.int ?_
    rw [← he, Nat.sub_self]
    show (n : Int) = negR (n : Int)
    unfold negR; rw [if_neg (by omega)]
end GA
end

section
namespace GA
open Go Go.RowKit Go.Proofs
set_option maxRecDepth 8000
set_option linter.unusedVariables false
set_option linter.unusedSimpArgs false

def InC (b : Bd) (m : Nat) (sp st : Int) : Prop := (moB b m).pl ≤ sp ∧ sp ≤ (moB b m).ph ∧ (moB b m).tl ≤ st ∧ st ≤ (moB b m).th
def grC (b : Bd) (m : Nat) (n sp st : Int) : Int := grossR b.room (moB b m).g n sp st
theorem grC_b {b : Bd} (ok : BedOk b) {m : Nat} (hm : m < b.months.length) {n : Nat} {sp st : Int} (h : InC b m sp st) : lieR b m n ≤ grC b m n sp st ∧ grC b m n sp st ≤ hiR b m n + (moB b m).r ∧ 0 ≤ grC b m n sp st ∧ grC b m n sp st ≤ b.room := by
  have hmo := ok.mo' hm
  obtain ⟨h1, h2, h3, h4⟩ := h
  have := grossR_le (room := b.room) (g := (moB b m).g) (a := n) (sp := sp) (st := st) (by have := ok.r1; omega) (by omega)
  refine ⟨grossR_mono hmo.1 (Int.le_refl _) h1 h4, ?_, this.1, this.2⟩
  have : grC b m n sp st ≤ grossR b.room (moB b m).g n (moB b m).ph (moB b m).tl := grossR_mono hmo.1 (Int.le_refl _) h2 h3
  unfold hiR; omega
end GA
end

section
namespace GA
open Go Go.RowKit Go.Proofs
set_option pp.deepTerms true
set_option maxRecDepth 8000
set_option linter.unusedVariables false
set_option linter.unusedSimpArgs false

structure EI (c : Int) (G : Nat → Bool) (d : Prop) : Prop where
  lo : ∀ k : Nat, G k = true → c ≤ k
  dn : d → 0 ≤ c ∧ G c.toNat = true
theorem EI.weak {c : Int} {G : Nat → Bool} {d d' : Prop} (h : EI c G d) (hd : d' → d) : EI c G d' := ⟨h.lo, fun x => h.dn (hd x)⟩
theorem EI.put {c : Int} {G : Nat → Bool} {d d' : Prop} (h : EI c G d) {v : Nat} (hv : c ≤ v) (hd : d' → d ∨ (v : Int) = c) : EI c (updV G v true) d' := by
  refine ⟨fun k hk => ?_, fun x => ?_⟩
  · unfold updV at hk
    split at hk
    · rename_i e; subst e; exact hv
    · exact h.lo k hk
  · unfold updV
    rcases hd x with h1 | h1
    · obtain ⟨h2, h3⟩ := h.dn h1
      refine ⟨h2, ?_⟩
      split <;> first | rfl | exact h3
    · exact ⟨by omega, by rw [if_pos (by omega)]⟩
theorem grC_lo {b : Bd} (ok : BedOk b) {m : Nat} (hm : m < b.months.length) {c n : Nat} (h : c ≤ n) {sp st : Int} (hc : InC b m sp st) : lieR b m c ≤ grC b m n sp st := by
  have h1 := (grC_b ok hm (n := n) hc).1
  have h2 := lieR_mono ok hm h
  omega
set_option maxHeartbeats 1000000 in
theorem ends_c (b : Bd) (ok : BedOk b) (nl : Bool) (plan : List Int) (hl : plan.length = b.months.length) (hp : ∀ x ∈ plan, 0 ≤ x ∧ x ≤ b.room) : Comp Try.prog 30 [bedA b, .sl nl (ints plan)] (.int .i64 (negR (endP b plan b.months.length (leastR b).toNat))) := by
  have m1 := ok.m1
  have m2 := ok.m2
  have r1 := ok.r1
  have r2 := ok.r2
  have f1 := ok.f1
  have f2 := ok.f2
  have u1 := ok.u1
  have u2 := ok.u2
  have e1 : ((b.months.map moA).length : Int) = b.months.length := by rw [List.length_map]
  have hlr : leastR b = max 0 (b.first - b.unsure) := rfl
  obtain ⟨c0, hc0⟩ : ∃ c0 : Nat, (leastR b).toNat = c0 := ⟨_, rfl⟩
  rw [hc0]
  generalize hE : endP b plan b.months.length c0 = E
  refine Comp.body (T := tab) (res := [.tmp 4]) tab_ok [] Try.func30 rfl (by kernel_rfl) Try.ntmps30 rfl (by simp only [List.length_cons, List.length_nil]; decide) (by simp only [lowL, bedL, AV.low, lowI]; rfl) ?_; conv => whnf
  repeat' first | ((with_reducible refine XInt.i64 (by omega) (by omega) ?_); conv => whnf) | ((with_reducible refine XHold.mk ?_ ?_); (first | omega | rfl | decide | exact ⟨rfl, by decide, rfl⟩ | exact wideI _ | exact widePr _ | exact wideSk _ | (unfold Room; constructor <;> ((try simp) <;> omega)) | exact ⟨rfl, by simp only [List.length_map], by unfold Room; constructor <;> ((try simp) <;> omega)⟩ | exact ⟨by omega, by omega, by unfold Room; constructor <;> ((try simp) <;> omega)⟩); conv => whnf) | fail
  refine Walk.loopK tab_ok [] [(1, _), (2, _), (4, _), (5, _)] ⟨rfl, rfl, rfl, rfl, trivial⟩ (fun n : Nat => (n : Int) ≤ b.room + 1) (fun n => [(6, natA n)]) (fun n => [.grow 4 false (bls (b.room + 1).toNat fun q => decide (q < n) && inZ q (b.first - b.unsure) (b.first + b.unsure))]) (fun n => (b.room + 1).toNat - n) 0 (by omega) ?_ ⟨rfl, trivial⟩ ?_
  · show [Blk.grow _ false (bls _ _)] = [Blk.grow _ false (List.replicate _ _)]
    rw [bls0]
    refine congrArg (fun z => [Blk.grow _ false z]) (congrArg (List.map AV.bool) (vecF_congr fun i hi => ?_))
    rw [decide_eq_false (by omega)]; rfl
  · intro n hn
    have hin := fun (i : Nat) => show updV (fun q : Nat => decide (q < n) && inZ q (b.first - b.unsure) (b.first + b.unsure)) n (inZ n (b.first - b.unsure) (b.first + b.unsure)) i = (decide (i < n + 1) && inZ i (b.first - b.unsure) (b.first + b.unsure)) by
      unfold updV
      split
      · rename_i e; subst e; rw [decide_eq_true (by omega)]; rfl
      · rw [show decide (i < n + 1) = decide (i < n) by rw [decide_eq_decide]; omega]
    conv => whnf
    by_cases hlt : (n : Int) ≤ b.room
    · have hof := off04_c n (b.first - b.unsure) (b.first + b.unsure)
      generalize inZ (n : Int) (b.first - b.unsure) (b.first + b.unsure) = r at hof hin
      cases r
      all_goals
        repeat' first | ((with_reducible apply XBr.dec) <;> (intro h; first | (exfalso; omega) | ((try simp only [List.length_map] at h); first | (exfalso; omega) | (conv => whnf)))) | ((first | (with_reducible refine XInt.i64 (by omega) (by omega) ?_) | (refine XCall.ret hof ?_) | (refine XHold.mk ⟨bls_len _ _, rfl, by omega, by omega⟩ ?_) | (refine XPut.bls n (by omega) rfl (by omega) ?_)); conv => whnf) | fail
        exact XAgain.go (n + 1) (by omega) (by omega) (congrArg (fun z => [Blk.grow _ false z]) (congrArg (List.map AV.bool) (vecF_congr fun i hi => (hin i).symm))) ⟨rfl, rfl, rfl, rfl, rfl, trivial⟩
    · obtain rfl : n = (b.room + 1).toNat := by omega
      clear hin
      repeat' first | ((with_reducible apply XBr.dec) <;> (intro h; first | (exfalso; omega) | ((try simp only [List.length_map] at h); first | (exfalso; omega) | (conv => whnf)))) | fail
      refine Walk.freeze 5 0 (b.room + 1).toNat rfl rfl (bls_len _ _) ?_
      refine Walk.loopFK tab_ok [] [(1, _), (2, _)] ⟨rfl, rfl, trivial⟩ (fun q : Nat × Nat × (Nat → Bool) => q.1 ≤ b.months.length ∧ (q.2.1 : Int) ≤ b.room ∧ q.2.2 q.2.1 = true ∧ (∀ n : Nat, (n : Int) ≤ b.room → q.2.2 n = true → q.2.1 ≤ n) ∧ endP b plan (b.months.length - q.1) q.2.1 = E) (fun q => [(5, .sl false (bls (b.room + 1).toNat q.2.2)), (7, natA q.1)]) (fun _ => [.dead]) (fun q => b.months.length - q.1) (0, c0, fun q => decide (q < (b.room + 1).toNat) && inZ q (b.first - b.unsure) (b.first + b.unsure)) ⟨Nat.zero_le _, by dsimp only; omega, ?_, ?_, hE⟩ rfl ⟨rfl, rfl, trivial⟩ ?_ (fun _ _ => (show (1 : Nat) ≤ 1 from Nat.le_refl 1)) ?_
      · dsimp only; rw [decide_eq_true (by omega), inZ_iff.2 (by omega)]; rfl
      · intro n hn hh
        dsimp only at hh
        rw [Bool.and_eq_true, inZ_iff] at hh
        dsimp only; omega
      · intro q _ z hz
        rw [List.mem_singleton] at hz; subst hz; rfl
      rintro ⟨i, c, F⟩ ⟨hi, hc, hF, hF2, he⟩
      dsimp only at hi hc hF hF2 he ⊢
      conv => whnf
      by_cases hlt2 : i < b.months.length
      · have hmo := ok.mo' hlt2
        have hpm := hp _ (getD_mem (d := default) (show i < plan.length by omega))
        have hpd : plan.getD i 0 = plan.getD i default := rfl
        have hlb := lieR_b ok (j := i) (n := c) hlt2
        have hglo := fun (n : Nat) (h : c ≤ n) (sp st : Int) (q : InC b i sp st) => grC_lo ok hlt2 h q
        have hgb := fun (n : Nat) (sp st : Int) (q : InC b i sp st) => grC_b ok hlt2 (n := n) q
        have hgc : lieR b i c = grC b i c (moB b i).pl (moB b i).th := rfl
        have hgr := fun (n : Nat) (hn : (n : Int) ≤ b.room) (sp st : Int) (q : InC b i sp st) => refGross_c b (moB b i) n sp st (by omega) (by omega) hmo.1 hmo.2.1 (by omega) (by omega) (by have := q.1; omega) (by have := q.2.1; omega) (by have := q.2.2.1; omega) (by have := q.2.2.2; omega)
        change ∀ (n : Nat) (hn : (n : Int) ≤ b.room) (sp st : Int) (q : InC b i sp st), Comp Try.prog _ _ (.int .i64 (grC b i n sp st)) at hgr
        rw [endP_next hlt2, hpd] at he
        generalize hcc : lieR b i c - plan.getD i default = c' at he
        repeat' first | ((with_reducible apply XBr.dec) <;> (intro h; first | (exfalso; omega) | ((try simp only [List.length_map] at h); first | (exfalso; omega) | (conv => whnf)))) | ((with_reducible refine XInt.i64 (by omega) (by omega) ?_); conv => whnf) | ((with_reducible refine XHold.mk ?_ ?_); (first | omega | rfl | decide | exact ⟨rfl, by decide, rfl⟩ | exact wideI _ | exact widePr _ | exact wideSk _ | (unfold Room; constructor <;> ((try simp) <;> omega)) | exact ⟨rfl, by simp only [List.length_map], by unfold Room; constructor <;> ((try simp) <;> omega)⟩ | exact ⟨by omega, by omega, by unfold Room; constructor <;> ((try simp) <;> omega)⟩); conv => whnf) | (((with_reducible refine XIx.nat ?_ ?_ ?_); omega; (intro _; rfl)); conv => whnf) | fail
        refine Walk.loopK tab_ok [] [(1, _), (2, _), (5, _), (7, _), (8, _), (9, _)] ⟨rfl, rfl, rfl, rfl, rfl, rfl, trivial⟩ (fun q : Nat × (Nat → Bool) => (q.1 : Int) ≤ b.room + 1 ∧ EI c' q.2 (c < q.1)) (fun q => [(10, natA q.1)]) (fun q => [.dead, .cells (moC (moB b i)), .grow 4 false (bls (b.room + 1).toNat q.2)]) (fun q => (b.room + 1).toNat - q.1) (0, fun _ => false) ⟨by dsimp only; omega, ⟨fun k h => (by cases h), fun h => (by omega)⟩⟩ ?_ ⟨rfl, trivial⟩ ?_
        · show [Blk.dead, Blk.cells _, Blk.grow _ false (bls _ _)] = [Blk.dead, Blk.cells _, Blk.grow _ false (List.replicate _ _)]
          rw [bls0]; rfl
        rintro ⟨n, G⟩ ⟨hn, hG⟩
        dsimp only at hn hG ⊢
        conv => whnf
        by_cases hltn : (n : Int) ≤ b.room
        · skip
          repeat' first | ((with_reducible apply XBr.dec) <;> (intro h; first | (exfalso; omega) | ((try simp only [List.length_map] at h); first | (exfalso; omega) | (conv => whnf)))) | fail
          cases hFn : F n
          · have hcn : c ≠ n := fun e => by rw [e, hFn] at hF; cases hF
            refine Walk.loopK tab_ok [] [(1, _), (2, _), (5, _), (7, _), (8, _), (9, _), (10, _)] ⟨rfl, rfl, rfl, rfl, rfl, rfl, rfl, trivial⟩ (fun _ : Unit => True) (fun _ => [(11, .int .i64 (moB b i).pl)]) (fun q => [.dead, .cells (moC (moB b i)), .grow 4 false (bls (b.room + 1).toNat G)]) (fun _ => 0) () trivial rfl ⟨rfl, trivial⟩ ?_
            intro _ _
            conv => whnf
            repeat' first | ((first | (with_reducible apply XBr.ff) | (with_reducible refine XInt.i64 (by omega) (by omega) ?_) | ((refine XIx.bls n rfl (by omega) ?_); rw [hFn])); conv => whnf) | fail
            exact XAgain.go (n + 1, G) ⟨by dsimp only; omega, hG.weak fun h => by omega⟩ (by dsimp only; omega) rfl ⟨rfl, rfl, rfl, rfl, rfl, rfl, rfl, trivial⟩
          · have hcn := hF2 n hltn hFn
            refine Walk.loopK tab_ok [] [(1, _), (2, _), (5, _), (7, _), (8, _), (9, _), (10, _)] ⟨rfl, rfl, rfl, rfl, rfl, rfl, rfl, trivial⟩ (fun q : Int × (Nat → Bool) => (moB b i).pl ≤ q.1 ∧ q.1 ≤ (moB b i).ph + 1 ∧ EI c' q.2 (c < n ∨ (c = n ∧ (moB b i).pl < q.1))) (fun q => [(11, .int .i64 q.1)]) (fun q => [.dead, .cells (moC (moB b i)), .grow 4 false (bls (b.room + 1).toNat q.2)]) (fun q => ((moB b i).ph + 1 - q.1).toNat) ((moB b i).pl, G) ⟨Int.le_refl _, by dsimp only; omega, hG.weak fun h => by omega⟩ rfl ⟨rfl, trivial⟩ ?_
            rintro ⟨sp, G⟩ ⟨hs1, hs2, hG⟩
            dsimp only at hs1 hs2 hG ⊢
            conv => whnf
            by_cases hlts : sp ≤ (moB b i).ph
            · skip
              repeat' first | ((with_reducible apply XBr.tt); conv => whnf) | ((with_reducible apply XBr.dec) <;> (intro h; first | (exfalso; omega) | ((try simp only [List.length_map] at h); first | (exfalso; omega) | (conv => whnf)))) | (((refine XIx.bls n rfl (by omega) ?_); rw [hFn]); conv => whnf) | fail
              refine Walk.loopK tab_ok [] [(1, _), (2, _), (5, _), (7, _), (8, _), (9, _), (10, _), (11, _)] ⟨rfl, rfl, rfl, rfl, rfl, rfl, rfl, rfl, trivial⟩ (fun q : Int × (Nat → Bool) => (moB b i).tl ≤ q.1 ∧ q.1 ≤ (moB b i).th + 1 ∧ EI c' q.2 (c < n ∨ (c = n ∧ ((moB b i).pl < sp ∨ (moB b i).th < q.1)))) (fun q => [(12, .int .i64 q.1)]) (fun q => [.dead, .cells (moC (moB b i)), .grow 4 false (bls (b.room + 1).toNat q.2)]) (fun q => ((moB b i).th + 1 - q.1).toNat) ((moB b i).tl, G) ⟨Int.le_refl _, by dsimp only; omega, hG.weak fun h => by omega⟩ rfl ⟨rfl, trivial⟩ ?_
              rintro ⟨st, G⟩ ⟨ht1, ht2, hG⟩
              dsimp only at ht1 ht2 hG ⊢
              conv => whnf
              by_cases hltt : st ≤ (moB b i).th
              · have hin : InC b i sp st := ⟨hs1, hlts, ht1, hltt⟩
                have hg := hgr n hltn sp st hin
                have hb := hgb n sp st hin
                have hlo := hglo n hcn sp st hin
                have hcv : c = n → ¬ (moB b i).pl < sp → ¬ (moB b i).th < st → (moB b i).th < st + 1 → grC b i n sp st = lieR b i c := fun h1 h2 h3 h4 => by
                  rw [hgc, h1, show sp = (moB b i).pl by omega, show st = (moB b i).th by omega]
                generalize grC b i n sp st = v at hg hb hlo hcv
                repeat' first | ((with_reducible apply XBr.dec) <;> (intro h; first | (exfalso; omega) | ((try simp only [List.length_map] at h); first | (exfalso; omega) | (conv => whnf)))) | ((first | (with_reducible refine XInt.i64 (by omega) (by omega) ?_) | ((with_reducible refine XIx.nat ?_ ?_ ?_); omega; (intro _; rfl))); conv => whnf) | (with_reducible apply XAnd.mk) | ((first | (with_reducible apply Chk.go) | (with_reducible apply ChkA.go) | (with_reducible apply ChkF.go) | (with_reducible apply ChkB.go)); conv => whnf) | (exact XSame.mk rfl rfl) | (with_reducible exact trivial) | (apply Walk.drawN (id := 20) tab_ok mixed_ok [] [] (hsU _) [_, _, _, _, _, _, _, _, _, _, _, _, _] (by kernel_rfl) rfl) | ((first | (with_reducible apply XNext.mk) | (refine XCall.ret hg ?_) | (refine XHold.mk ⟨bls_len _ _, rfl, by omega, by omega⟩ ?_) | (refine XPut.bls (v - plan.getD i default).toNat rfl rfl (by omega) ?_)); conv => whnf) | fail
                · rename_i h
                  have h' : v - plan.getD i default < 0 := h
                  rw [if_pos (by omega)] at he
                  refine XOut.int ?_
                  unfold negR; rw [← he, if_pos (by omega)]
                · rename_i h
                  have h' : ¬ v - plan.getD i default < 0 := h
                  refine XAgain.go (st + 1, _) ⟨by dsimp only; omega, by dsimp only; omega, hG.put (by omega) fun h => ?_⟩ (by dsimp only; omega) rfl ⟨rfl, rfl, rfl, rfl, rfl, rfl, rfl, rfl, rfl, trivial⟩
                  by_cases hd : c < n ∨ c = n ∧ ((moB b i).pl < sp ∨ (moB b i).th < st)
                  · exact .inl hd
                  · right
                    have := hcv (by omega) (by omega) (by omega) (by omega)
                    omega
              · skip
                repeat' first | ((with_reducible apply XBr.dec) <;> (intro h; first | (exfalso; omega) | ((try simp only [List.length_map] at h); first | (exfalso; omega) | (conv => whnf)))) | ((with_reducible refine XInt.i64 (by omega) (by omega) ?_); conv => whnf) | fail
                exact XAgain.go (sp + 1, G) ⟨by dsimp only; omega, by dsimp only; omega, hG.weak fun h => by omega⟩ (by dsimp only; omega) rfl ⟨rfl, rfl, rfl, rfl, rfl, rfl, rfl, rfl, trivial⟩
            · skip
              repeat' first | ((with_reducible apply XBr.tt); conv => whnf) | ((with_reducible apply XBr.dec) <;> (intro h; first | (exfalso; omega) | ((try simp only [List.length_map] at h); first | (exfalso; omega) | (conv => whnf)))) | ((first | (with_reducible refine XInt.i64 (by omega) (by omega) ?_) | ((refine XIx.bls n rfl (by omega) ?_); rw [hFn])); conv => whnf) | fail
              exact XAgain.go (n + 1, G) ⟨by dsimp only; omega, hG.weak fun h => by omega⟩ (by dsimp only; omega) rfl ⟨rfl, rfl, rfl, rfl, rfl, rfl, rfl, trivial⟩
        · skip
          repeat' first | ((with_reducible apply XBr.dec) <;> (intro h; first | (exfalso; omega) | ((try simp only [List.length_map] at h); first | (exfalso; omega) | (conv => whnf)))) | ((with_reducible refine XInt.i64 (by omega) (by omega) ?_); conv => whnf) | fail
          obtain ⟨hz1, hz2⟩ := hG.dn (by omega)
          rw [if_neg (by omega)] at he
          refine XAgainF.go (i + 1, c'.toNat, G) [.cells (moC (moB b i)), .grow 4 false (bls (b.room + 1).toNat G)] ⟨by dsimp only; omega, by dsimp only; omega, hz2, fun n hn h => ?_, he⟩ (by dsimp only; omega) rfl ⟨⟨_, rfl, .same (by simp only [AV.low, lowI])⟩, ⟨_, rfl, .same (lowBd b)⟩, ⟨_, rfl, .gr (show (1 : Nat) ≤ 2 by decide) rfl (bls_len _ _) (bls_low _ _)⟩, ⟨_, rfl, .same rfl⟩, trivial⟩
          have := hG.lo n h
          dsimp only; omega
      · obtain rfl : i = b.months.length := by omega
        rw [Nat.sub_self] at he
        change (c : Int) = E at he
        have hli := refList_c false F (b.room + 1).toNat (by omega)
        have hhd := lstF_head (F := F) (c := c) hF (fun j hj => by
          cases h : F j with
          | false => rfl
          | true => have := hF2 j (by omega) h; omega) (n := (b.room + 1).toNat) (by omega)
        have hne : 0 < (lstF F (b.room + 1).toNat).length := List.length_pos_of_mem (lstF_mem.2 ⟨c, by omega, hF, rfl⟩)
        generalize lstF F (b.room + 1).toNat = ls at hli hhd hne
        have e3 : ((ints ls).length : Int) = ls.length := by rw [ints_len]
        repeat' first | ((with_reducible apply XBr.dec) <;> (intro h; first | (exfalso; omega) | ((try simp only [List.length_map] at h); first | (exfalso; omega) | (conv => whnf)))) | ((first | ((with_reducible refine XIx.map ?_ ?_ ?_ ?_); omega; omega; (intro _; rfl)) | (refine XCall.ret hli ?_)); conv => whnf) | fail
        refine XOut.int ?_
        rw [← he]
        unfold negR; rw [if_neg (by omega)]
        exact hhd
end GA
end

section
namespace GA
open Go Go.RowKit Go.Proofs
set_option pp.deepTerms true
set_option maxRecDepth 8000
set_option linter.unusedVariables false
set_option linter.unusedSimpArgs false

theorem dupC (nl : Bool) (xs : List Int) (hx : xs.length ≤ 100000) : Comp Try.prog 27 [.sl nl (ints xs)] (.sl false (ints xs)) := (dup_g nl xs hx).comp (Froz.grow rfl (ints_len _) (lowI _))
theorem great_iff {b : Bd} : great04 b = false ↔ b.months.length ≤ 14 ∧ b.surveys.length ≤ 12 := by
  unfold great04
  rw [Bool.or_eq_false_iff, decide_eq_false_iff_not, decide_eq_false_iff_not]; omega
def bzero : List AV := [.int .i64 0, .int .i64 0, .int .i64 0, .sl true [], .sl true []]
set_option maxHeartbeats 2000000 in
theorem bedKeeps_c (b : Bd) (nl : Bool) (plan : List Int) (share : Int) (_hx : plan.length < 9223372036854775808) : Comp Try.prog 4 [bedA b, .sl nl (ints plan), .int .i64 share] (.bool true) := by
  have hgr := great04_c b
  have e2 : ((ints plan).length : Int) = plan.length := by rw [ints_len]
  cases hg : great04 b
  case true =>
    refine Comp.body (T := tab) (res := [.tmp 6]) tab_ok [] Try.func4 rfl (by kernel_rfl) Try.ntmps4 rfl (by simp only [List.length_cons, List.length_nil]; decide) (by simp only [lowL, bedL, AV.low, lowI]; rfl) ?_; conv => whnf
    repeat' first | ((first | (with_reducible apply XBr.tt) | ((refine XCall.ret hgr ?_); rw [hg]) | (refine XCall.ret awake04_c ?_)); conv => whnf) | fail
    exact ⟨.low rfl⟩
  by_cases hp14 : 14 < plan.length
  · refine Comp.body (T := tab) (res := [.tmp 6]) tab_ok [] Try.func4 rfl (by kernel_rfl) Try.ntmps4 rfl (by simp only [List.length_cons, List.length_nil]; decide) (by simp only [lowL, bedL, AV.low, lowI]; rfl) ?_; conv => whnf
    repeat' first | ((with_reducible apply XBr.ff); conv => whnf) | ((with_reducible apply XBr.dec) <;> (intro h; first | (exfalso; omega) | ((try simp only [List.length_map] at h); first | (exfalso; omega) | (conv => whnf)))) | ((first | ((refine XCall.ret hgr ?_); rw [hg]) | (refine XCall.ret awake04_c ?_)); conv => whnf) | fail
    exact ⟨.low rfl⟩
  obtain ⟨g1, g2⟩ := great_iff.1 hg
  have how := own04_c b (by omega) (by omega)
  have hth := theirs04_c b (by omega) (by omega)
  have hdu := dupC nl plan (by omega)
  have hpl := refPlanned_c (thB b) nl plan (show b.months.length ≤ 100000 by omega) (show b.surveys.length ≤ 100000 by omega) (by omega)
  change Comp Try.prog _ _ (.int .i64 (planE b plan)) at hpl
  have hke := keeps_c (ownB b) false plan share (show b.months.length ≤ 100000 by omega) (show b.surveys.length ≤ 100000 by omega) (by omega)
  have hkA : keepsA (ownB b) plan share = keepsA b plan share := by unfold keepsA; rw [keepB_eq, keepB_eq, endP_congr (b := ownB b) (c := b) rfl rfl]; rfl
  rw [hkA] at hke
  have hwo := worst_all_c (ownB b) false plan (show b.months.length ≤ 100000 by omega) (show b.surveys.length ≤ 100000 by omega) (by omega)
  have hwA : worstA (ownB b) plan = worstA b plan := by unfold worstA; rw [endR_plan, endR_plan, endP_congr (b := ownB b) (c := b) rfl rfl]; rfl
  rw [hwA] at hwo
  have hsa := same04_c b (by omega) (by omega)
  have heq := eq_int false nl plan plan (by omega)
  rw [beq_self_eq_true] at heq
  by_cases hE : planE b plan = 0
  · obtain ⟨ok, hl, hpr⟩ := planE_iff.1 hE
    have hen := ends_c (thB b) ⟨ok.r1, ok.r2, ok.m1, ok.m2, ok.f1, ok.f2, ok.u1, ok.u2, ok.mo⟩ nl plan hl hpr
    rw [endP_congr (b := thB b) (c := b) rfl rfl] at hen
    change Comp Try.prog _ _ (.int .i64 (negR (endP b plan b.months.length (leastR b).toNat))) at hen
    unfold keepsA at hke
    unfold worstA at hwo
    rw [hE] at hpl
    rw [if_neg (fun h => h hE)] at hke hwo
    rw [keepB_eq] at hke
    rw [endR_plan] at hwo
    have hal := fun (nn : Bool) => along_c (thB b) ⟨ok.r1, ok.r2, ok.m1, ok.m2, ok.f1, ok.f2, ok.u1, ok.u2, ok.mo⟩ nl nn plan hl hpr (leastR b).toNat (by have := ok.f1; have := ok.f2; have := ok.u1; show ((leastR b).toNat : Int) ≤ b.room; unfold leastR; omega)
    simp only [endP_congr (b := thB b) (c := b) rfl rfl] at hal
    change ∀ nn, Comp Try.prog _ [_, _, _, .sl nn (chsA (worstL b))] (.int .i64 (negR (endP b plan b.months.length (leastR b).toNat))) at hal
    generalize endP b plan b.months.length (leastR b).toNat = e at hen hke hwo hal
    have m1 := ok.m1
    have m2 := ok.m2
    have r1 := ok.r1
    have r2 := ok.r2
    have f1 := ok.f1
    have f2 := ok.f2
    have u1 := ok.u1
    have u2 := ok.u2
    have hlr : leastR b = max 0 (b.first - b.unsure) := rfl
    have e1 : ((b.months.map moA).length : Int) = b.months.length := by rw [List.length_map]
    have hwl : (worstL b).length = b.months.length := List.length_map _
    have hwl2 : ((chsA (worstL b)).length : Int) = b.months.length := by rw [List.length_map, hwl]
    have hchd := fun nn => chanced_c nn (worstL b) (by omega)
    obtain ⟨c0, hc0⟩ : ∃ c0 : Nat, (leastR b).toNat = c0 := ⟨_, rfl⟩
    rw [hc0] at hal
    by_cases he : e < 0
    · have hng : negR e = -1 := by unfold negR; rw [if_pos he]
      rw [hng] at hen
      rw [if_pos he] at hwo
      by_cases hsh : 0 ≤ share ∧ share ≤ b.room
      · rw [if_neg (by rw [inZ_iff.2 hsh]; simp), decide_eq_false (by omega)] at hke
        have hbb : (false != decide (share ≤ -1)) = false := by rw [decide_eq_false (by omega)]; rfl
        refine Comp.body (T := tab) (res := [.tmp 6]) tab_ok [] Try.func4 rfl (by kernel_rfl) Try.ntmps4 rfl (by simp only [List.length_cons, List.length_nil]; decide) (by simp only [lowL, bedL, AV.low, lowI]; rfl) ?_; conv => whnf
        repeat' first | ((with_reducible apply XBr.ff); conv => whnf) | ((with_reducible apply XBr.dec) <;> (intro h; first | (exfalso; omega) | ((try simp only [List.length_map] at h); first | (exfalso; omega) | (conv => whnf)))) | (((refine XCall.ret hgr ?_); rw [hg]); conv => whnf) | fail
        refine Walk.place (Walk.place ?_)
        apply Walk.drawX tab_ok mixed_ok [] [6, 7, 8, 10] (fun fl => match fl with
          | [a, b', x, y] => [(bif a then .cells (bif x then bedC (ownB b) else bzero) else .free), (bif b' then .cells (bif y then bedC (thB b) else bzero) else .free)]
          | _ => []) [_, _, _, _, _, _, .ptr 0 0, .ptr 1 0, _, _, _] (by kernel_rfl) rfl
        · skip
          repeat' first | (with_reducible apply XAnd.mk) | ((first | (with_reducible apply Chk.go) | (with_reducible apply ChkA.go)); conv => whnf) | (exact XSame.mk rfl rfl) | (with_reducible exact trivial) | ((first | (refine XCall.ret how ?_) | (refine XCall.ret hth ?_) | (refine XCall.ret hdu ?_)); conv => whnf) | (first | ((refine XFree.at 0 rfl ?_); (conv => whnf); exact XSame.mk rfl rfl) | ((refine XFree.at 1 rfl ?_); (conv => whnf); exact XSame.mk rfl rfl)) | fail
        · skip
          repeat' first | (with_reducible apply XAnd.mk) | ((first | (with_reducible apply Chk.go) | (with_reducible apply ChkF.go) | (with_reducible apply ChkB.go)); conv => whnf) | (exact XSame.mk rfl rfl) | (with_reducible exact trivial) | ((first | (refine XCall.ret how ?_) | (refine XCall.ret hth ?_) | (refine XCall.ret hdu ?_)); conv => whnf) | (first | ((refine XFree.at 0 rfl ?_); (conv => whnf); exact XSame.mk rfl rfl) | ((refine XFree.at 1 rfl ?_); (conv => whnf); exact XSame.mk rfl rfl)) | fail
        conv => whnf
        repeat' first | ((with_reducible apply XBr.ff); conv => whnf) | ((with_reducible apply XBr.dec) <;> (intro h; first | (exfalso; omega) | ((try simp only [List.length_map] at h); first | (exfalso; omega) | (conv => whnf)))) | ((with_reducible apply XBr.beq) <;> (intro h; first | (exfalso; omega) | (conv => whnf))) | ((first | (refine XCall.ret hpl ?_) | (refine XCall.ret hen ?_) | (refine XCall.ret hke ?_) | (refine XCall.ret hwo ?_)); conv => whnf) | fail
        all_goals
          refine Walk.norm tab_ok [] [(1, _), (2, _), (3, _), (6, _), (7, _), (8, _), (9, _), (10, _), (11, _), (12, _), (13, _), (14, _), (15, _), (16, _), (17, _)] ⟨rfl, rfl, rfl, rfl, rfl, rfl, rfl, rfl, rfl, rfl, rfl, rfl, rfl, rfl, rfl, trivial⟩ ?_
          conv => whnf
          repeat' first | ((first | (with_reducible apply XBr.tt) | (with_reducible apply XBr.ff)); conv => whnf) | (with_reducible apply XBr.not) | ((with_reducible apply XBr.dec) <;> (intro h; first | (exfalso; omega) | ((try simp only [List.length_map] at h); first | (exfalso; omega) | (conv => whnf)))) | ((with_reducible apply XBr.beq) <;> (intro h; first | (exfalso; omega) | (conv => whnf))) | ((with_reducible apply XBr.bne) <;> (intro h; first | (exfalso; omega) | (conv => whnf))) | ((first | (refine XCall.ret hsa ?_) | (refine XCall.ret heq ?_) | (refine XCall.ret awake04_c ?_) | (with_reducible refine XBr.no hbb ?_)); conv => whnf) | fail
        all_goals first | exact ⟨.low rfl⟩ | (exfalso; simp at h; done)
      · have hsi : inZ share 0 b.room = false := Bool.eq_false_iff.2 fun h => hsh (inZ_iff.1 h)
        rw [if_pos hsi] at hke
        refine Comp.body (T := tab) (res := [.tmp 6]) tab_ok [] Try.func4 rfl (by kernel_rfl) Try.ntmps4 rfl (by simp only [List.length_cons, List.length_nil]; decide) (by simp only [lowL, bedL, AV.low, lowI]; rfl) ?_; conv => whnf
        repeat' first | ((with_reducible apply XBr.ff); conv => whnf) | ((with_reducible apply XBr.dec) <;> (intro h; first | (exfalso; omega) | ((try simp only [List.length_map] at h); first | (exfalso; omega) | (conv => whnf)))) | (((refine XCall.ret hgr ?_); rw [hg]); conv => whnf) | fail
        refine Walk.place (Walk.place ?_)
        apply Walk.drawX tab_ok mixed_ok [] [6, 7, 8, 10] (fun fl => match fl with
          | [a, b', x, y] => [(bif a then .cells (bif x then bedC (ownB b) else bzero) else .free), (bif b' then .cells (bif y then bedC (thB b) else bzero) else .free)]
          | _ => []) [_, _, _, _, _, _, .ptr 0 0, .ptr 1 0, _, _, _] (by kernel_rfl) rfl
        · skip
          repeat' first | (with_reducible apply XAnd.mk) | ((first | (with_reducible apply Chk.go) | (with_reducible apply ChkA.go)); conv => whnf) | (exact XSame.mk rfl rfl) | (with_reducible exact trivial) | ((first | (refine XCall.ret how ?_) | (refine XCall.ret hth ?_) | (refine XCall.ret hdu ?_)); conv => whnf) | (first | ((refine XFree.at 0 rfl ?_); (conv => whnf); exact XSame.mk rfl rfl) | ((refine XFree.at 1 rfl ?_); (conv => whnf); exact XSame.mk rfl rfl)) | fail
        · skip
          repeat' first | (with_reducible apply XAnd.mk) | ((first | (with_reducible apply Chk.go) | (with_reducible apply ChkF.go) | (with_reducible apply ChkB.go)); conv => whnf) | (exact XSame.mk rfl rfl) | (with_reducible exact trivial) | ((first | (refine XCall.ret how ?_) | (refine XCall.ret hth ?_) | (refine XCall.ret hdu ?_)); conv => whnf) | (first | ((refine XFree.at 0 rfl ?_); (conv => whnf); exact XSame.mk rfl rfl) | ((refine XFree.at 1 rfl ?_); (conv => whnf); exact XSame.mk rfl rfl)) | fail
        conv => whnf
        repeat' first | ((first | (with_reducible apply XBr.tt) | (with_reducible apply XBr.ff)); conv => whnf) | ((with_reducible apply XBr.dec) <;> (intro h; first | (exfalso; omega) | ((try simp only [List.length_map] at h); first | (exfalso; omega) | (conv => whnf)))) | ((with_reducible apply XBr.beq) <;> (intro h; first | (exfalso; omega) | (conv => whnf))) | ((first | (refine XCall.ret hpl ?_) | (refine XCall.ret hen ?_) | (refine XCall.ret hke ?_) | (refine XCall.ret hwo ?_)); conv => whnf) | fail
        all_goals
          refine Walk.norm tab_ok [] [(1, _), (2, _), (3, _), (6, _), (7, _), (8, _), (9, _), (10, _), (11, _), (12, _), (13, _), (14, _), (15, _), (16, _), (17, _)] ⟨rfl, rfl, rfl, rfl, rfl, rfl, rfl, rfl, rfl, rfl, rfl, rfl, rfl, rfl, rfl, trivial⟩ ?_
          conv => whnf
          repeat' first | ((first | (with_reducible apply XBr.tt) | (with_reducible apply XBr.ff)); conv => whnf) | (with_reducible apply XBr.not) | ((with_reducible apply XBr.dec) <;> (intro h; first | (exfalso; omega) | ((try simp only [List.length_map] at h); first | (exfalso; omega) | (conv => whnf)))) | ((with_reducible apply XBr.beq) <;> (intro h; first | (exfalso; omega) | (conv => whnf))) | ((with_reducible apply XBr.bne) <;> (intro h; first | (exfalso; omega) | (conv => whnf))) | ((first | (refine XCall.ret hsa ?_) | (refine XCall.ret heq ?_) | (refine XCall.ret awake04_c ?_) | (with_reducible refine XBr.no (by decide) ?_)); conv => whnf) | fail
        all_goals first | exact ⟨.low rfl⟩ | (exfalso; simp at h; done)
    · have hng : negR e = e := by unfold negR; rw [if_neg he]
      rw [hng] at hen hal
      rw [if_neg he] at hwo
      by_cases hsh : 0 ≤ share ∧ share ≤ b.room
      · rw [if_neg (by rw [inZ_iff.2 hsh]; simp)] at hke
        have hbb : (decide (share ≤ e) != decide (share ≤ e)) = false := by simp
        refine Comp.body (T := tab) (res := [.tmp 6]) tab_ok [] Try.func4 rfl (by kernel_rfl) Try.ntmps4 rfl (by simp only [List.length_cons, List.length_nil]; decide) (by simp only [lowL, bedL, AV.low, lowI]; rfl) ?_; conv => whnf
        repeat' first | ((with_reducible apply XBr.ff); conv => whnf) | ((with_reducible apply XBr.dec) <;> (intro h; first | (exfalso; omega) | ((try simp only [List.length_map] at h); first | (exfalso; omega) | (conv => whnf)))) | (((refine XCall.ret hgr ?_); rw [hg]); conv => whnf) | fail
        refine Walk.place (Walk.place ?_)
        apply Walk.drawX tab_ok mixed_ok [] [6, 7, 8, 10] (fun fl => match fl with
          | [a, b', x, y] => [(bif a then .cells (bif x then bedC (ownB b) else bzero) else .free), (bif b' then .cells (bif y then bedC (thB b) else bzero) else .free)]
          | _ => []) [_, _, _, _, _, _, .ptr 0 0, .ptr 1 0, _, _, _] (by kernel_rfl) rfl
        · skip
          repeat' first | (with_reducible apply XAnd.mk) | ((first | (with_reducible apply Chk.go) | (with_reducible apply ChkA.go)); conv => whnf) | (exact XSame.mk rfl rfl) | (with_reducible exact trivial) | ((first | (refine XCall.ret how ?_) | (refine XCall.ret hth ?_) | (refine XCall.ret hdu ?_)); conv => whnf) | (first | ((refine XFree.at 0 rfl ?_); (conv => whnf); exact XSame.mk rfl rfl) | ((refine XFree.at 1 rfl ?_); (conv => whnf); exact XSame.mk rfl rfl)) | fail
        · skip
          repeat' first | (with_reducible apply XAnd.mk) | ((first | (with_reducible apply Chk.go) | (with_reducible apply ChkF.go) | (with_reducible apply ChkB.go)); conv => whnf) | (exact XSame.mk rfl rfl) | (with_reducible exact trivial) | ((first | (refine XCall.ret how ?_) | (refine XCall.ret hth ?_) | (refine XCall.ret hdu ?_)); conv => whnf) | (first | ((refine XFree.at 0 rfl ?_); (conv => whnf); exact XSame.mk rfl rfl) | ((refine XFree.at 1 rfl ?_); (conv => whnf); exact XSame.mk rfl rfl)) | fail
        conv => whnf
        repeat' first | ((with_reducible apply XBr.ff); conv => whnf) | ((with_reducible apply XBr.dec) <;> (intro h; first | (exfalso; omega) | ((try simp only [List.length_map] at h); first | (exfalso; omega) | (conv => whnf)))) | ((with_reducible apply XBr.beq) <;> (intro h; first | (exfalso; omega) | (conv => whnf))) | ((first | (refine XCall.ret hpl ?_) | (refine XCall.ret hen ?_) | (refine XCall.ret hke ?_) | (refine XCall.ret hwo ?_)); conv => whnf) | fail
        all_goals
          refine Walk.norm tab_ok [] [(1, _), (2, _), (3, _), (6, _), (7, _), (8, _), (9, _), (10, _), (11, _), (12, _), (13, _), (14, _), (15, _), (16, _), (17, _)] ⟨rfl, rfl, rfl, rfl, rfl, rfl, rfl, rfl, rfl, rfl, rfl, rfl, rfl, rfl, rfl, trivial⟩ ?_
          conv => whnf
          repeat' first | ((first | (with_reducible apply XBr.tt) | (with_reducible apply XBr.ff)); conv => whnf) | (with_reducible apply XBr.not) | ((with_reducible apply XBr.dec) <;> (intro h; first | (exfalso; omega) | ((try simp only [List.length_map] at h); first | (exfalso; omega) | (conv => whnf)))) | ((with_reducible apply XBr.beq) <;> (intro h; first | (exfalso; omega) | (conv => whnf))) | ((with_reducible apply XBr.bne) <;> (intro h; first | (exfalso; omega) | (conv => whnf))) | ((first | (refine XCall.ret hsa ?_) | (refine XCall.ret heq ?_) | (with_reducible refine XBr.no hbb ?_)); conv => whnf) | fail
        refine Walk.loopGK tab_ok [] [(1, _), (3, _), (6, _), (9, _), (15, _), (16, _), (133, _), (134, _)] ⟨rfl, rfl, rfl, rfl, rfl, rfl, rfl, rfl, trivial⟩ (fun m : Nat => m ≤ b.months.length) (fun m => [(135, natA m)]) (fun _ => [.cells (bedC (ownB b)), .cells (bedC (thB b))]) (fun m => b.months.length - m) 0 (Nat.zero_le _) rfl ⟨rfl, trivial⟩ ?_ (fun _ _ => (show (2 : Nat) ≤ 2 from Nat.le_refl 2)) ?_
        · intro q _
          refine ⟨fun z hz => ?_, fun z hz => ?_⟩
          · simp only [List.mem_cons, List.not_mem_nil, or_false] at hz
            rcases hz with rfl | rfl <;> exact lowBd _
          · simp only [List.cons_append, List.nil_append, List.mem_cons, List.not_mem_nil, or_false] at hz
            rcases hz with rfl | rfl | rfl | rfl | rfl | rfl | rfl | rfl | rfl <;> first | rfl | exact lowI _ | exact chs_low _ | exact lowBd b
        intro m hm
        conv => whnf
        by_cases hlt : m < b.months.length
        · have hmo := ok.mo' hlt
          simp only [moB] at hmo
          have hw : (worstL b).getD m default = ((b.months.getD m default).pl, (b.months.getD m default).th) := by
            unfold worstL
            rw [List.getD_eq_getElem?_getD, List.getElem?_map, List.getElem?_eq_getElem hlt, List.getD_eq_getElem?_getD, List.getElem?_eq_getElem hlt]; rfl
          have hw1 : ((worstL b).getD m default).1 = (b.months.getD m default).pl := by rw [hw]
          have hw2 : ((worstL b).getD m default).2 = (b.months.getD m default).th := by rw [hw]
          repeat' first | ((with_reducible apply XBr.dec) <;> (intro h; first | (exfalso; omega) | ((try simp only [List.length_map] at h); first | (exfalso; omega) | (conv => whnf)))) | (((with_reducible refine XIx.nat ?_ ?_ ?_); omega; (intro _; rfl)); conv => whnf) | fail
          refine Walk.norm tab_ok [] [(1, _), (3, _), (6, _), (9, _), (15, _), (16, _), (18, _), (19, _), (20, _), (133, _), (134, _), (135, _)] ⟨rfl, rfl, rfl, rfl, rfl, rfl, rfl, rfl, rfl, rfl, rfl, rfl, trivial⟩ ?_
          conv => whnf
          repeat' first | ((with_reducible apply XBr.ff); conv => whnf) | ((with_reducible apply XBr.dec) <;> (intro h; first | (exfalso; omega) | ((try simp only [List.length_map] at h); first | (exfalso; omega) | (conv => whnf)))) | ((with_reducible refine XInt.i64 (by omega) (by omega) ?_); conv => whnf) | fail
          exact XAgainG.go (m + 1) [.cells [.int .i64 ((worstL b).getD m default).1, .int .i64 ((worstL b).getD m default).2], .cells (moC (b.months.getD m default))] (by omega) (by omega) rfl ⟨rfl, rfl, rfl, rfl, rfl, rfl, rfl, rfl, rfl, trivial⟩
        obtain rfl : m = b.months.length := by omega
        repeat' first | ((with_reducible apply XBr.dec) <;> (intro h; first | (exfalso; omega) | ((try simp only [List.length_map] at h); first | (exfalso; omega) | (conv => whnf)))) | ((with_reducible refine XInt.i64 (by omega) (by omega) ?_); conv => whnf) | fail
        refine Walk.loopK tab_ok [] [(1, _), (3, _), (6, _), (9, _), (15, _), (16, _)] ⟨rfl, rfl, rfl, rfl, rfl, rfl, trivial⟩ (fun q : Nat × Bool => c0 ≤ q.1 ∧ (q.1 : Int) ≤ min b.room (b.first + b.unsure) + 1 ∧ (c0 < q.1 → q.2 = true)) (fun q => [(21, .bool q.2), (22, natA q.1)]) (fun _ => [.cells (bedC (ownB b)), .cells (bedC (thB b))]) (fun q => (min b.room (b.first + b.unsure) + 1).toNat - q.1) (c0, false) ⟨Nat.le_refl _, by dsimp only; omega, fun h => absurd h (Nat.lt_irrefl _)⟩ rfl ⟨rfl, congrArg (fun z => some (AV.int .i64 z)) (show max 0 (b.first - b.unsure) = (c0 : Int) by omega), trivial⟩ ?_
        rintro ⟨n, met⟩ ⟨hn1, hn2, hn3⟩
        dsimp only at hn1 hn2 hn3 ⊢
        conv => whnf
        by_cases hltn : (n : Int) ≤ min b.room (b.first + b.unsure)
        · cases met
          · have hnc : n = c0 := by
              by_cases h : c0 < n
              · cases hn3 h
              · omega
            subst hnc
            repeat' first | ((with_reducible apply XBr.ff); conv => whnf) | ((with_reducible apply XBr.dec) <;> (intro h; first | (exfalso; omega) | ((try simp only [List.length_map] at h); first | (exfalso; omega) | (conv => whnf)))) | ((with_reducible refine XInt.i64 (by omega) (by omega) ?_); conv => whnf) | (with_reducible apply XAnd.mk) | ((first | (with_reducible apply Chk.go) | (with_reducible apply ChkA.go) | (with_reducible apply ChkF.go) | (with_reducible apply ChkB.go)); conv => whnf) | (exact XSame.mk rfl rfl) | (with_reducible exact trivial) | (apply Walk.drawN (id := 31) tab_ok mixed_ok [] [] (hsU _) [_, _, _, _, _, _, _, _, _, _, _, _] (by kernel_rfl) rfl) | ((first | (with_reducible apply XNext.mk) | (refine XCall.ret (hchd _) ?_) | (refine XCall.ret (hal _) ?_)); conv => whnf) | fail
            exact XAgain.go (n + 1, true) ⟨by dsimp only; omega, by dsimp only; omega, fun _ => rfl⟩ (by dsimp only; omega) rfl ⟨rfl, rfl, rfl, rfl, rfl, rfl, congrArg (fun z => some (AV.bool z)) (beq_self_eq_true e), rfl, trivial⟩
          · skip
            repeat' first | ((with_reducible apply XBr.tt); conv => whnf) | ((with_reducible apply XBr.dec) <;> (intro h; first | (exfalso; omega) | ((try simp only [List.length_map] at h); first | (exfalso; omega) | (conv => whnf)))) | ((with_reducible refine XInt.i64 (by omega) (by omega) ?_); conv => whnf) | (with_reducible apply XAnd.mk) | ((first | (with_reducible apply Chk.go) | (with_reducible apply ChkA.go) | (with_reducible apply ChkF.go) | (with_reducible apply ChkB.go)); conv => whnf) | (exact XSame.mk rfl rfl) | (with_reducible exact trivial) | (apply Walk.drawN (id := 31) tab_ok mixed_ok [] [] (hsU _) [_, _, _, _, _, _, _, _, _, _, _, _] (by kernel_rfl) rfl) | ((with_reducible apply XNext.mk); conv => whnf) | fail
            exact XAgain.go (n + 1, true) ⟨by dsimp only; omega, by dsimp only; omega, fun _ => rfl⟩ (by dsimp only; omega) rfl ⟨rfl, rfl, rfl, rfl, rfl, rfl, rfl, rfl, trivial⟩
        · obtain rfl : met = true := hn3 (by omega)
          repeat' first | ((with_reducible apply XBr.tt); conv => whnf) | ((with_reducible apply XBr.dec) <;> (intro h; first | (exfalso; omega) | ((try simp only [List.length_map] at h); first | (exfalso; omega) | (conv => whnf)))) | ((first | (with_reducible refine XInt.i64 (by omega) (by omega) ?_) | (refine XCall.ret awake04_c ?_)); conv => whnf) | fail
          exact ⟨.low rfl⟩
      · have hsi : inZ share 0 b.room = false := Bool.eq_false_iff.2 fun h => hsh (inZ_iff.1 h)
        rw [if_pos hsi] at hke
        refine Comp.body (T := tab) (res := [.tmp 6]) tab_ok [] Try.func4 rfl (by kernel_rfl) Try.ntmps4 rfl (by simp only [List.length_cons, List.length_nil]; decide) (by simp only [lowL, bedL, AV.low, lowI]; rfl) ?_; conv => whnf
        repeat' first | ((with_reducible apply XBr.ff); conv => whnf) | ((with_reducible apply XBr.dec) <;> (intro h; first | (exfalso; omega) | ((try simp only [List.length_map] at h); first | (exfalso; omega) | (conv => whnf)))) | (((refine XCall.ret hgr ?_); rw [hg]); conv => whnf) | fail
        refine Walk.place (Walk.place ?_)
        apply Walk.drawX tab_ok mixed_ok [] [6, 7, 8, 10] (fun fl => match fl with
          | [a, b', x, y] => [(bif a then .cells (bif x then bedC (ownB b) else bzero) else .free), (bif b' then .cells (bif y then bedC (thB b) else bzero) else .free)]
          | _ => []) [_, _, _, _, _, _, .ptr 0 0, .ptr 1 0, _, _, _] (by kernel_rfl) rfl
        · skip
          repeat' first | (with_reducible apply XAnd.mk) | ((first | (with_reducible apply Chk.go) | (with_reducible apply ChkA.go)); conv => whnf) | (exact XSame.mk rfl rfl) | (with_reducible exact trivial) | ((first | (refine XCall.ret how ?_) | (refine XCall.ret hth ?_) | (refine XCall.ret hdu ?_)); conv => whnf) | (first | ((refine XFree.at 0 rfl ?_); (conv => whnf); exact XSame.mk rfl rfl) | ((refine XFree.at 1 rfl ?_); (conv => whnf); exact XSame.mk rfl rfl)) | fail
        · skip
          repeat' first | (with_reducible apply XAnd.mk) | ((first | (with_reducible apply Chk.go) | (with_reducible apply ChkF.go) | (with_reducible apply ChkB.go)); conv => whnf) | (exact XSame.mk rfl rfl) | (with_reducible exact trivial) | ((first | (refine XCall.ret how ?_) | (refine XCall.ret hth ?_) | (refine XCall.ret hdu ?_)); conv => whnf) | (first | ((refine XFree.at 0 rfl ?_); (conv => whnf); exact XSame.mk rfl rfl) | ((refine XFree.at 1 rfl ?_); (conv => whnf); exact XSame.mk rfl rfl)) | fail
        conv => whnf
        repeat' first | ((first | (with_reducible apply XBr.tt) | (with_reducible apply XBr.ff)); conv => whnf) | ((with_reducible apply XBr.dec) <;> (intro h; first | (exfalso; omega) | ((try simp only [List.length_map] at h); first | (exfalso; omega) | (conv => whnf)))) | ((with_reducible apply XBr.beq) <;> (intro h; first | (exfalso; omega) | (conv => whnf))) | ((first | (refine XCall.ret hpl ?_) | (refine XCall.ret hen ?_) | (refine XCall.ret hke ?_) | (refine XCall.ret hwo ?_)); conv => whnf) | fail
        all_goals
          refine Walk.norm tab_ok [] [(1, _), (2, _), (3, _), (6, _), (7, _), (8, _), (9, _), (10, _), (11, _), (12, _), (13, _), (14, _), (15, _), (16, _), (17, _)] ⟨rfl, rfl, rfl, rfl, rfl, rfl, rfl, rfl, rfl, rfl, rfl, rfl, rfl, rfl, rfl, trivial⟩ ?_
          conv => whnf
          repeat' first | ((first | (with_reducible apply XBr.tt) | (with_reducible apply XBr.ff)); conv => whnf) | (with_reducible apply XBr.not) | ((with_reducible apply XBr.dec) <;> (intro h; first | (exfalso; omega) | ((try simp only [List.length_map] at h); first | (exfalso; omega) | (conv => whnf)))) | ((with_reducible apply XBr.beq) <;> (intro h; first | (exfalso; omega) | (conv => whnf))) | ((with_reducible apply XBr.bne) <;> (intro h; first | (exfalso; omega) | (conv => whnf))) | ((first | (refine XCall.ret hsa ?_) | (refine XCall.ret heq ?_) | (with_reducible refine XBr.no (by decide) ?_)); conv => whnf) | fail
        all_goals
          refine Walk.loopGK tab_ok [] [(1, _), (3, _), (6, _), (9, _), (15, _), (16, _), (133, _), (134, _)] ⟨rfl, rfl, rfl, rfl, rfl, rfl, rfl, rfl, trivial⟩ (fun m : Nat => m ≤ b.months.length) (fun m => [(135, natA m)]) (fun _ => [.cells (bedC (ownB b)), .cells (bedC (thB b))]) (fun m => b.months.length - m) 0 (Nat.zero_le _) rfl ⟨rfl, trivial⟩ ?_ (fun _ _ => (show (2 : Nat) ≤ 2 from Nat.le_refl 2)) ?_
          · intro q _
            refine ⟨fun z hz => ?_, fun z hz => ?_⟩
            · simp only [List.mem_cons, List.not_mem_nil, or_false] at hz
              rcases hz with rfl | rfl <;> exact lowBd _
            · simp only [List.cons_append, List.nil_append, List.mem_cons, List.not_mem_nil, or_false] at hz
              rcases hz with rfl | rfl | rfl | rfl | rfl | rfl | rfl | rfl | rfl <;> first | rfl | exact lowI _ | exact chs_low _ | exact lowBd b
          intro m hm
          conv => whnf
          by_cases hlt : m < b.months.length
          · have hmo := ok.mo' hlt
            simp only [moB] at hmo
            have hw : (worstL b).getD m default = ((b.months.getD m default).pl, (b.months.getD m default).th) := by
              unfold worstL
              rw [List.getD_eq_getElem?_getD, List.getElem?_map, List.getElem?_eq_getElem hlt, List.getD_eq_getElem?_getD, List.getElem?_eq_getElem hlt]; rfl
            have hw1 : ((worstL b).getD m default).1 = (b.months.getD m default).pl := by rw [hw]
            have hw2 : ((worstL b).getD m default).2 = (b.months.getD m default).th := by rw [hw]
            repeat' first | ((with_reducible apply XBr.dec) <;> (intro h; first | (exfalso; omega) | ((try simp only [List.length_map] at h); first | (exfalso; omega) | (conv => whnf)))) | (((with_reducible refine XIx.nat ?_ ?_ ?_); omega; (intro _; rfl)); conv => whnf) | fail
            refine Walk.norm tab_ok [] [(1, _), (3, _), (6, _), (9, _), (15, _), (16, _), (18, _), (19, _), (20, _), (133, _), (134, _), (135, _)] ⟨rfl, rfl, rfl, rfl, rfl, rfl, rfl, rfl, rfl, rfl, rfl, rfl, trivial⟩ ?_
            conv => whnf
            repeat' first | ((with_reducible apply XBr.ff); conv => whnf) | ((with_reducible apply XBr.dec) <;> (intro h; first | (exfalso; omega) | ((try simp only [List.length_map] at h); first | (exfalso; omega) | (conv => whnf)))) | ((with_reducible refine XInt.i64 (by omega) (by omega) ?_); conv => whnf) | fail
            exact XAgainG.go (m + 1) [.cells [.int .i64 ((worstL b).getD m default).1, .int .i64 ((worstL b).getD m default).2], .cells (moC (b.months.getD m default))] (by omega) (by omega) rfl ⟨rfl, rfl, rfl, rfl, rfl, rfl, rfl, rfl, rfl, trivial⟩
          obtain rfl : m = b.months.length := by omega
          repeat' first | ((with_reducible apply XBr.dec) <;> (intro h; first | (exfalso; omega) | ((try simp only [List.length_map] at h); first | (exfalso; omega) | (conv => whnf)))) | ((with_reducible refine XInt.i64 (by omega) (by omega) ?_); conv => whnf) | fail
          refine Walk.loopK tab_ok [] [(1, _), (3, _), (6, _), (9, _), (15, _), (16, _)] ⟨rfl, rfl, rfl, rfl, rfl, rfl, trivial⟩ (fun q : Nat × Bool => c0 ≤ q.1 ∧ (q.1 : Int) ≤ min b.room (b.first + b.unsure) + 1 ∧ (c0 < q.1 → q.2 = true)) (fun q => [(21, .bool q.2), (22, natA q.1)]) (fun _ => [.cells (bedC (ownB b)), .cells (bedC (thB b))]) (fun q => (min b.room (b.first + b.unsure) + 1).toNat - q.1) (c0, false) ⟨Nat.le_refl _, by dsimp only; omega, fun h => absurd h (Nat.lt_irrefl _)⟩ rfl ⟨rfl, congrArg (fun z => some (AV.int .i64 z)) (show max 0 (b.first - b.unsure) = (c0 : Int) by omega), trivial⟩ ?_
          rintro ⟨n, met⟩ ⟨hn1, hn2, hn3⟩
          dsimp only at hn1 hn2 hn3 ⊢
          conv => whnf
          by_cases hltn : (n : Int) ≤ min b.room (b.first + b.unsure)
          · cases met
            · have hnc : n = c0 := by
                by_cases h : c0 < n
                · cases hn3 h
                · omega
              subst hnc
              repeat' first | ((with_reducible apply XBr.ff); conv => whnf) | ((with_reducible apply XBr.dec) <;> (intro h; first | (exfalso; omega) | ((try simp only [List.length_map] at h); first | (exfalso; omega) | (conv => whnf)))) | ((with_reducible refine XInt.i64 (by omega) (by omega) ?_); conv => whnf) | (with_reducible apply XAnd.mk) | ((first | (with_reducible apply Chk.go) | (with_reducible apply ChkA.go) | (with_reducible apply ChkF.go) | (with_reducible apply ChkB.go)); conv => whnf) | (exact XSame.mk rfl rfl) | (with_reducible exact trivial) | (apply Walk.drawN (id := 31) tab_ok mixed_ok [] [] (hsU _) [_, _, _, _, _, _, _, _, _, _, _, _] (by kernel_rfl) rfl) | ((first | (with_reducible apply XNext.mk) | (refine XCall.ret (hchd _) ?_) | (refine XCall.ret (hal _) ?_)); conv => whnf) | fail
              exact XAgain.go (n + 1, true) ⟨by dsimp only; omega, by dsimp only; omega, fun _ => rfl⟩ (by dsimp only; omega) rfl ⟨rfl, rfl, rfl, rfl, rfl, rfl, congrArg (fun z => some (AV.bool z)) (beq_self_eq_true e), rfl, trivial⟩
            · skip
              repeat' first | ((with_reducible apply XBr.tt); conv => whnf) | ((with_reducible apply XBr.dec) <;> (intro h; first | (exfalso; omega) | ((try simp only [List.length_map] at h); first | (exfalso; omega) | (conv => whnf)))) | ((with_reducible refine XInt.i64 (by omega) (by omega) ?_); conv => whnf) | (with_reducible apply XAnd.mk) | ((first | (with_reducible apply Chk.go) | (with_reducible apply ChkA.go) | (with_reducible apply ChkF.go) | (with_reducible apply ChkB.go)); conv => whnf) | (exact XSame.mk rfl rfl) | (with_reducible exact trivial) | (apply Walk.drawN (id := 31) tab_ok mixed_ok [] [] (hsU _) [_, _, _, _, _, _, _, _, _, _, _, _] (by kernel_rfl) rfl) | ((with_reducible apply XNext.mk); conv => whnf) | fail
              exact XAgain.go (n + 1, true) ⟨by dsimp only; omega, by dsimp only; omega, fun _ => rfl⟩ (by dsimp only; omega) rfl ⟨rfl, rfl, rfl, rfl, rfl, rfl, rfl, rfl, trivial⟩
          · obtain rfl : met = true := hn3 (by omega)
            repeat' first | ((with_reducible apply XBr.tt); conv => whnf) | ((with_reducible apply XBr.dec) <;> (intro h; first | (exfalso; omega) | ((try simp only [List.length_map] at h); first | (exfalso; omega) | (conv => whnf)))) | ((first | (with_reducible refine XInt.i64 (by omega) (by omega) ?_) | (refine XCall.ret awake04_c ?_)); conv => whnf) | fail
            exact ⟨.low rfl⟩
  · unfold keepsA at hke
    unfold worstA at hwo
    rw [if_pos hE] at hke hwo
    generalize planE b plan = E at hE hke hwo hpl
    refine Comp.body (T := tab) (res := [.tmp 6]) tab_ok [] Try.func4 rfl (by kernel_rfl) Try.ntmps4 rfl (by simp only [List.length_cons, List.length_nil]; decide) (by simp only [lowL, bedL, AV.low, lowI]; rfl) ?_; conv => whnf
    repeat' first | ((with_reducible apply XBr.ff); conv => whnf) | ((with_reducible apply XBr.dec) <;> (intro h; first | (exfalso; omega) | ((try simp only [List.length_map] at h); first | (exfalso; omega) | (conv => whnf)))) | (((refine XCall.ret hgr ?_); rw [hg]); conv => whnf) | fail
    refine Walk.place (Walk.place ?_)
    apply Walk.drawX tab_ok mixed_ok [] [6, 7, 8, 10] (fun fl => match fl with
      | [a, b', x, y] => [(bif a then .cells (bif x then bedC (ownB b) else bzero) else .free), (bif b' then .cells (bif y then bedC (thB b) else bzero) else .free)]
      | _ => []) [_, _, _, _, _, _, .ptr 0 0, .ptr 1 0, _, _, _] (by kernel_rfl) rfl
    · skip
      repeat' first | (with_reducible apply XAnd.mk) | ((first | (with_reducible apply Chk.go) | (with_reducible apply ChkA.go)); conv => whnf) | (exact XSame.mk rfl rfl) | (with_reducible exact trivial) | ((first | (refine XCall.ret how ?_) | (refine XCall.ret hth ?_) | (refine XCall.ret hdu ?_)); conv => whnf) | (first | ((refine XFree.at 0 rfl ?_); (conv => whnf); exact XSame.mk rfl rfl) | ((refine XFree.at 1 rfl ?_); (conv => whnf); exact XSame.mk rfl rfl)) | fail
    · skip
      repeat' first | (with_reducible apply XAnd.mk) | ((first | (with_reducible apply Chk.go) | (with_reducible apply ChkF.go) | (with_reducible apply ChkB.go)); conv => whnf) | (exact XSame.mk rfl rfl) | (with_reducible exact trivial) | ((first | (refine XCall.ret how ?_) | (refine XCall.ret hth ?_) | (refine XCall.ret hdu ?_)); conv => whnf) | (first | ((refine XFree.at 0 rfl ?_); (conv => whnf); exact XSame.mk rfl rfl) | ((refine XFree.at 1 rfl ?_); (conv => whnf); exact XSame.mk rfl rfl)) | fail
    conv => whnf
    repeat' first | ((with_reducible apply XBr.beq) <;> (intro h; first | (exfalso; omega) | (conv => whnf))) | ((first | (refine XCall.ret hpl ?_) | (refine XCall.ret hke ?_) | (refine XCall.ret hwo ?_)); conv => whnf) | fail
    all_goals
      refine Walk.norm tab_ok [] [(1, _), (2, _), (3, _), (6, _), (7, _), (8, _), (9, _), (10, _), (11, _), (12, _), (13, _), (14, _), (15, _), (16, _), (17, _)] ⟨rfl, rfl, rfl, rfl, rfl, rfl, rfl, rfl, rfl, rfl, rfl, rfl, rfl, rfl, rfl, trivial⟩ ?_
      conv => whnf
      repeat' first | ((first | (with_reducible apply XBr.tt) | (with_reducible apply XBr.ff)); conv => whnf) | (with_reducible apply XBr.not) | ((with_reducible apply XBr.beq) <;> (intro h; first | (exfalso; omega) | (conv => whnf))) | ((with_reducible apply XBr.bne) <;> (intro h; first | (exfalso; omega) | (conv => whnf))) | ((first | (refine XCall.ret hsa ?_) | (refine XCall.ret heq ?_) | (refine XCall.ret awake04_c ?_) | (with_reducible refine XBr.no (by decide) ?_)); conv => whnf) | fail
    all_goals first | exact ⟨.low rfl⟩ | (exfalso; simp at h; done)
end GA
end
