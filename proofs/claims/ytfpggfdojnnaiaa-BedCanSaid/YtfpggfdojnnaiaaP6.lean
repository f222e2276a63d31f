/- Part 6 of a proof: D32, D33, D34, D35, D52, D49, D51, D53, D41, Abs38, D36, D45, Abs39, D55, D50, D64, D38, D46, D37. -/
import Derived.Test.YtfpggfdojnnaiaaP5
section
namespace GA
open Go Go.RowKit Go.Proofs
set_option pp.deepTerms true
set_option maxRecDepth 8000
set_option linter.unusedVariables false
set_option linter.unusedSimpArgs false

theorem bedE_1 {b : Bd} (h : inZ b.room 1 120 = false) : bedE b = 3 := by unfold bedE; rw [if_pos h]
theorem bedE_2 {b : Bd} (h : inZ b.room 1 120 = true) (h2 : inZ b.months.length 1 10 = false ∨ (8 : Int) < b.surveys.length) : bedE b = 2 := by unfold bedE; rw [if_neg (by rw [h]; simp), if_pos h2]
theorem bedE_3 {b : Bd} (h : inZ b.room 1 120 = true) (h2 : ¬ (inZ b.months.length 1 10 = false ∨ (8 : Int) < b.surveys.length)) (h3 : inZ b.first 0 b.room = false ∨ inZ b.unsure 0 40 = false ∨ b.months.all (moR b) = false) : bedE b = 3 := by unfold bedE; rw [if_neg (by rw [h]; simp), if_neg h2, if_pos h3]
theorem bedE_4 {b : Bd} (h : inZ b.room 1 120 = true) (h2 : ¬ (inZ b.months.length 1 10 = false ∨ (8 : Int) < b.surveys.length)) (h3 : ¬ (inZ b.first 0 b.room = false ∨ inZ b.unsure 0 40 = false ∨ b.months.all (moR b) = false)) (h4 : b.surveys.all (suR1 b) = false) : bedE b = 3 := by unfold bedE; rw [if_neg (by rw [h]; simp), if_neg h2, if_neg h3, if_pos h4]
theorem bedE_5 {b : Bd} (h : inZ b.room 1 120 = true) (h2 : ¬ (inZ b.months.length 1 10 = false ∨ (8 : Int) < b.surveys.length)) (h3 : ¬ (inZ b.first 0 b.room = false ∨ inZ b.unsure 0 40 = false ∨ b.months.all (moR b) = false)) (h4 : b.surveys.all (suR1 b) = true) (h5 : b.surveys.all (suR2 b) = false) : bedE b = 1 := by unfold bedE; rw [if_neg (by rw [h]; simp), if_neg h2, if_neg h3, if_neg (by rw [h4]; simp), if_pos h5]
theorem bedE_6 {b : Bd} (h : inZ b.room 1 120 = true) (h2 : ¬ (inZ b.months.length 1 10 = false ∨ (8 : Int) < b.surveys.length)) (h3 : ¬ (inZ b.first 0 b.room = false ∨ inZ b.unsure 0 40 = false ∨ b.months.all (moR b) = false)) (h4 : b.surveys.all (suR1 b) = true) (h5 : b.surveys.all (suR2 b) = true) : bedE b = 0 := by unfold bedE; rw [if_neg (by rw [h]; simp), if_neg h2, if_neg h3, if_neg (by rw [h4]; simp), if_neg (by rw [h5]; simp)]
theorem allG_false {α : Type} {p : α → Bool} {xs : List α} {d : α} {i : Nat} (hi : i < xs.length) (h : p (xs.getD i d) = false) : xs.all p = false := by
  rw [List.all_eq_false]; exact ⟨_, getD_mem hi, by rw [h]; simp⟩
theorem allG_true {α : Type} {p : α → Bool} {xs : List α} {d : α} (h : ∀ j, j < xs.length → p (xs.getD j d) = true) : xs.all p = true := by
  rw [List.all_eq_true]; intro x hx
  obtain ⟨j, hj, rfl⟩ := List.mem_iff_getElem.1 hx
  have := h j hj
  rwa [List.getD_eq_getElem?_getD, List.getElem?_eq_getElem hj] at this
theorem upto_next {P : Nat → Prop} {k : Nat} (h : ∀ j, j < k → P j) (hk : P k) : ∀ j, j < k + 1 → P j := fun j hj => by
  by_cases e : j = k
  · exact e ▸ hk
  · exact h j (by omega)
theorem refCheck04_c (b : Bd) (h1 : b.months.length ≤ 100000) (h2 : b.surveys.length ≤ 100000) : Comp Try.prog 36 [bedA b] (.int .i64 (bedE b)) := by
  have e1 : ((b.months.map moA).length : Int) = b.months.length := by rw [List.length_map]
  have e2 : ((b.surveys.map suA).length : Int) = b.surveys.length := by rw [List.length_map]
  refine Comp.body (T := tab) (res := [.tmp 2]) tab_ok [] Try.func36 rfl (by kernel_rfl) Try.ntmps36 rfl (by simp only [List.length_cons, List.length_nil]; decide) (by simp only [lowL, bedL]; rfl) ?_; conv => whnf
  cases hA : inZ b.room 1 120
  · skip
    repeat' first | ((with_reducible apply XBr.ff); conv => whnf) | (with_reducible apply XBr.not) | (((refine XCall.ret (off04_c _ _ _) ?_); rw [hA]); conv => whnf) | fail
    exact XOut.int (bedE_1 hA).symm
  repeat' first | ((with_reducible apply XBr.tt); conv => whnf) | (with_reducible apply XBr.not) | (((refine XCall.ret (off04_c _ _ _) ?_); rw [hA]); conv => whnf) | fail
  by_cases hB : inZ b.months.length 1 10 = false ∨ (8 : Int) < b.surveys.length
  · skip
    repeat' first | ((first | (with_reducible apply XBr.tt) | (with_reducible apply XBr.ff)); conv => whnf) | (with_reducible apply XBr.not) | ((with_reducible apply XBr.dec) <;> (intro h; first | (exfalso; omega) | ((try simp only [List.length_map] at h); first | (exfalso; omega) | (conv => whnf)))) | ((refine XCall.ret (off04_c _ _ _) ?_); conv => whnf) | ((with_reducible apply XBr.mk') <;> (intro h; conv => whnf)) | fail
    all_goals first | exact XOut.int (bedE_2 hA hB).symm | skip
    all_goals (exfalso; simp [e1] at *; rcases hB with hB | hB <;> first | omega | (simp_all; done))
  have hB1 : inZ ((b.months.map moA).length : Int) 1 10 = true := by rw [e1]; cases h : inZ b.months.length 1 10 with | true => rfl | false => exact absurd (.inl h) hB
  have hB2 : ¬ (8 : Int) < b.surveys.length := fun h => hB (.inr h)
  repeat' first | ((first | (with_reducible apply XBr.tt) | (with_reducible apply XBr.ff)); conv => whnf) | (with_reducible apply XBr.not) | ((with_reducible apply XBr.dec) <;> (intro h; first | (exfalso; omega) | ((try simp only [List.length_map] at h); first | (exfalso; omega) | (conv => whnf)))) | (((refine XCall.ret (off04_c _ _ _) ?_); rw [hB1]); conv => whnf) | fail
  cases hC1 : inZ b.first 0 b.room
  · skip
    repeat' first | ((first | (with_reducible apply XBr.tt) | (with_reducible apply XBr.ff)); conv => whnf) | (with_reducible apply XBr.not) | (((refine XCall.ret (off04_c _ _ _) ?_); rw [hC1]); conv => whnf) | fail
    exact XOut.int (bedE_3 hA hB (.inl hC1)).symm
  cases hC2 : inZ b.unsure 0 40
  · skip
    repeat' first | ((first | (with_reducible apply XBr.tt) | (with_reducible apply XBr.ff)); conv => whnf) | (with_reducible apply XBr.not) | (((refine XCall.ret (off04_c _ _ _) ?_); (first | rw [hC1] | rw [hC2])); conv => whnf) | fail
    exact XOut.int (bedE_3 hA hB (.inr (.inl hC2))).symm
  repeat' first | ((first | (with_reducible apply XBr.tt) | (with_reducible apply XBr.ff)); conv => whnf) | (with_reducible apply XBr.not) | (((refine XCall.ret (off04_c _ _ _) ?_); (first | rw [hC1] | rw [hC2])); conv => whnf) | fail
  refine Walk.loopGK tab_ok [] [(1, _)] ⟨rfl, trivial⟩ (fun k : Nat => k ≤ b.months.length ∧ ∀ j, j < k → moR b (b.months.getD j default) = true) (fun k => [(3, natA k)]) (fun _ => []) (fun k => b.months.length - k) 0 ⟨Nat.zero_le _, fun j hj => by omega⟩ rfl ⟨rfl, trivial⟩ ?_ (fun _ _ => Nat.le_refl _) ?_
  · intro k _
    refine ⟨by simp, fun z hz => ?_⟩
    simp only [List.cons_append, List.nil_append, List.mem_cons, List.not_mem_nil, or_false] at hz
    rcases hz with rfl | rfl <;> first | rfl | exact lowBd b
  rintro k ⟨hk, hks⟩
  conv => whnf
  by_cases hlt : k < b.months.length
  · have hC3 : ∀ h : moR b (b.months.getD k default) = false, bedE b = 3 := fun h => bedE_3 hA hB (.inr (.inr (allG_false hlt h)))
    have hmr : moR b (b.months.getD k default) = (inZ (b.months.getD k default).g 0 100 && inZ (b.months.getD k default).r 0 b.room && withinB (b.months.getD k default).pl (b.months.getD k default).ph 0 60 && withinB (b.months.getD k default).tl (b.months.getD k default).th 0 60) := rfl
    rw [hmr] at hC3
    have hgo : (inZ (b.months.getD k default).g 0 100 && inZ (b.months.getD k default).r 0 b.room && withinB (b.months.getD k default).pl (b.months.getD k default).ph 0 60 && withinB (b.months.getD k default).tl (b.months.getD k default).th 0 60) = true → ∀ j, j < k + 1 → moR b (b.months.getD j default) = true := fun h => upto_next hks (by rw [hmr]; exact h)
    clear hmr
    repeat' first | ((first | (with_reducible apply XBr.tt) | (with_reducible apply XBr.ff)); conv => whnf) | (with_reducible apply XBr.not) | ((with_reducible apply XBr.dec) <;> (intro h; first | (exfalso; omega) | ((try simp only [List.length_map] at h); first | (exfalso; omega) | (conv => whnf)))) | ((first | (with_reducible refine XInt.i64 (by omega) (by omega) ?_) | ((with_reducible refine XIx.nat ?_ ?_ ?_); omega; (intro _; rfl)) | (refine XCall.ret (off04_c _ _ _) ?_) | (refine XCall.ret (bad04_c _ _ _) ?_)); conv => whnf) | ((with_reducible apply XBr.mk') <;> (intro h; conv => whnf)) | fail
    all_goals first | exact XOut.int (hC3 (by simp_all)).symm | exact XAgainG.go (k + 1) [.cells (moC (moB b k))] ⟨by omega, hgo (by simp_all)⟩ (by omega) rfl ⟨rfl, rfl, trivial⟩
  obtain rfl : k = b.months.length := by omega
  have hC : ¬ (inZ b.first 0 b.room = false ∨ inZ b.unsure 0 40 = false ∨ b.months.all (moR b) = false) := by
    rw [hC1, hC2, allG_true (d := default) hks]; simp
  clear hks
  repeat' first | ((with_reducible apply XBr.dec) <;> (intro h; first | (exfalso; omega) | ((try simp only [List.length_map] at h); first | (exfalso; omega) | (conv => whnf)))) | fail
  refine Walk.loopK tab_ok [] [(1, _)] ⟨rfl, trivial⟩ (fun k : Nat => k ≤ b.surveys.length ∧ ∀ j, j < k → suR1 b (b.surveys.getD j default) = true) (fun k => [(5, natA k)]) (fun _ => []) (fun k => b.surveys.length - k) 0 ⟨Nat.zero_le _, fun j hj => by omega⟩ rfl ⟨rfl, trivial⟩ ?_
  rintro k ⟨hk2, hks⟩
  conv => whnf
  by_cases hlt2 : k < b.surveys.length
  · have hD : ∀ h : suR1 b (b.surveys.getD k default) = false, bedE b = 3 := fun h => bedE_4 hA hB hC (allG_false hlt2 h)
    have hgo : suR1 b (b.surveys.getD k default) = true → ∀ j, j < k + 1 → suR1 b (b.surveys.getD j default) = true := fun h => upto_next hks h
    have hs : suR1 b (b.surveys.getD k default) = withinB (b.surveys.getD k default).lo (b.surveys.getD k default).hi 0 b.room := rfl
    rw [hs] at hD hgo
    clear hs
    have hbad := bad04_c (b.surveys.getD k default).lo (b.surveys.getD k default).hi b.room
    generalize withinB (b.surveys.getD k default).lo (b.surveys.getD k default).hi 0 b.room = r at hD hgo hbad
    repeat' first | (with_reducible apply XBr.not) | ((with_reducible apply XBr.dec) <;> (intro h; first | (exfalso; omega) | ((try simp only [List.length_map] at h); first | (exfalso; omega) | (conv => whnf)))) | ((first | (with_reducible refine XInt.i64 (by omega) (by omega) ?_) | ((with_reducible refine XIx.nat ?_ ?_ ?_); omega; (intro _; rfl))); conv => whnf) | (with_reducible apply XAnd.mk) | ((first | (with_reducible apply Chk.go) | (with_reducible apply ChkA.go) | (with_reducible apply ChkF.go) | (with_reducible apply ChkB.go)); conv => whnf) | (exact XSame.mk rfl rfl) | (with_reducible exact trivial) | (apply Walk.drawN (id := 16) tab_ok mixed_ok [] [] (hsU _) [_, _, _, _, _, _, _, _, _] (by kernel_rfl) rfl) | ((first | (with_reducible apply XNext.mk) | (refine XCall.ret hbad ?_)); conv => whnf) | ((with_reducible apply XBr.mk') <;> (intro h; conv => whnf)) | fail
    · exact XAgain.go (k + 1) ⟨by omega, hgo h⟩ (by omega) rfl ⟨rfl, rfl, trivial⟩
    · exact XOut.int (hD h).symm
  obtain rfl : k = b.surveys.length := by omega
  have hD := allG_true (d := default) hks
  clear hks
  repeat' first | ((with_reducible apply XBr.dec) <;> (intro h; first | (exfalso; omega) | ((try simp only [List.length_map] at h); first | (exfalso; omega) | (conv => whnf)))) | fail
  refine Walk.loopK tab_ok [] [(1, _)] ⟨rfl, trivial⟩ (fun k : Nat => k ≤ b.surveys.length ∧ ∀ j, j < k → suR2 b (b.surveys.getD j default) = true) (fun k => [(6, natA k)]) (fun _ => []) (fun k => b.surveys.length - k) 0 ⟨Nat.zero_le _, fun j hj => by omega⟩ rfl ⟨rfl, trivial⟩ ?_
  rintro k ⟨hk3, hks⟩
  conv => whnf
  by_cases hlt3 : k < b.surveys.length
  · have hF : ∀ h : suR2 b (b.surveys.getD k default) = false, bedE b = 1 := fun h => bedE_5 hA hB hC hD (allG_false hlt3 h)
    have hgo : suR2 b (b.surveys.getD k default) = true → ∀ j, j < k + 1 → suR2 b (b.surveys.getD j default) = true := fun h => upto_next hks h
    have hs : suR2 b (b.surveys.getD k default) = inZ (b.surveys.getD k default).m 0 ((b.months.map moA).length : Int) := by rw [e1]; rfl
    rw [hs] at hF hgo
    clear hs
    have hbad := off04_c (b.surveys.getD k default).m 0 ((b.months.map moA).length : Int)
    generalize inZ (b.surveys.getD k default).m 0 ((b.months.map moA).length : Int) = r at hF hgo hbad
    repeat' first | (with_reducible apply XBr.not) | ((with_reducible apply XBr.dec) <;> (intro h; first | (exfalso; omega) | ((try simp only [List.length_map] at h); first | (exfalso; omega) | (conv => whnf)))) | ((first | (with_reducible refine XInt.i64 (by omega) (by omega) ?_) | ((with_reducible refine XIx.nat ?_ ?_ ?_); omega; (intro _; rfl))); conv => whnf) | (with_reducible apply XAnd.mk) | ((first | (with_reducible apply Chk.go) | (with_reducible apply ChkA.go) | (with_reducible apply ChkF.go) | (with_reducible apply ChkB.go)); conv => whnf) | (exact XSame.mk rfl rfl) | (with_reducible exact trivial) | (apply Walk.drawN (id := 21) tab_ok mixed_ok [] [] (hsU _) [_, _, _, _, _, _, _, _, _, _] (by kernel_rfl) rfl) | ((first | (with_reducible apply XNext.mk) | (refine XCall.ret hbad ?_)); conv => whnf) | ((with_reducible apply XBr.mk') <;> (intro h; conv => whnf)) | fail
    · exact XAgain.go (k + 1) ⟨by omega, hgo h⟩ (by omega) rfl ⟨rfl, rfl, trivial⟩
    · exact XOut.int (hF h).symm
  obtain rfl : k = b.surveys.length := by omega
  repeat' first | ((with_reducible apply XBr.dec) <;> (intro h; first | (exfalso; omega) | ((try simp only [List.length_map] at h); first | (exfalso; omega) | (conv => whnf)))) | fail
  exact XOut.int (bedE_6 hA hB hC hD (allG_true (d := default) hks)).symm
end GA
end

section
namespace GA
open Go Go.RowKit Go.Proofs
set_option pp.deepTerms true
set_option maxRecDepth 8000
set_option linter.unusedVariables false
set_option linter.unusedSimpArgs false

def bls (W : Nat) (F : Nat → Bool) : List AV := (vecF W F).map .bool
theorem bls_len (W : Nat) (F : Nat → Bool) : (bls W F).length = W := by rw [bls, List.length_map, vecF_len]
theorem bls_low {n : Nat} (W : Nat) (F : Nat → Bool) : lowL n (bls W F) = true := vec_low fun _ => rfl
theorem bls0 (W : Nat) : List.replicate W (AV.bool false) = bls W fun _ => false := by unfold bls; rw [vecF_replicate, List.map_replicate]
theorem XIx.bls {W : Nat} {F : Nat → Bool} {n : Int} {k : AV → Prop} (i : Nat) (hn : n = i) (h2 : i < W) (h : k (.pim [.bool (F i)])) : XIx (bls W F) n 1 k := by
  subst hn
  have e : nth (GA.bls W F) (i : Int) = .bool (F i) := by
    unfold nth
    rw [Int.toNat_natCast, List.getD_eq_getElem?_getD]; unfold GA.bls; rw [vec_at h2]; rfl
  refine ⟨by omega, by rw [bls_len]; omega, by rw [e]; rfl, ?_⟩
  rw [e]; exact h
theorem XGet.bls {W : Nat} {F : Nat → Bool} {n e : Nat} {k : List AV → Prop} (h1 : n = W) (h2 : e < W) (h : k [.bool (F e)]) : XGet (bls W F) n e k := by
  subst h1
  refine XGet.mapF (f := AV.bool) true (by rw [vecF_len]) h2 ?_
  rw [vecF_get _ h2]; exact h
theorem XPut.bls {W : Nat} {F : Nat → Bool} {n e : Nat} {v : Bool} {k : List AV → Prop} (j : Nat) (he : e = j) (h1 : n = W) (h2 : j < W) (h : k (bls W (updV F j v))) : XPut (bls W F) n e (.bool v) k := by
  subst he; subst h1
  refine XPut.map (f := AV.bool) v rfl (by rw [vecF_len]) h2 ?_
  rw [vecF_set]; exact h
theorem refList_c (nl : Bool) (F : Nat → Bool) (W : Nat) (hW : W ≤ 100000) : Comp Try.prog 103 [.sl nl (bls W F)] (slA (lstF F W)) := by
  have e1 : ((bls W F).length : Int) = W := by rw [bls_len]
  refine Comp.body (T := tab) (res := [.tmp 2]) tab_ok [] Try.func103 rfl (by kernel_rfl) Try.ntmps103 rfl (by simp only [List.length_cons, List.length_nil]; decide) (by simp only [lowL, AV.low, bls_low]; rfl) ?_; conv => whnf
  skip
  refine Walk.nilgr 3 3 rfl ?_
  refine Walk.loopK tab_ok [] [(0, _), (2, _)] ⟨rfl, rfl, trivial⟩ (fun n : Nat => n ≤ W) (fun n => [(3, .gr 0 (lstF F n).length), (4, natA n)]) (fun n => [.grow 3 (lstF F n).isEmpty (ints (lstF F n))]) (fun n => W - n) 0 (Nat.zero_le _) rfl ⟨rfl, rfl, trivial⟩ ?_
  intro n hn
  have hs := lstF_succ F n
  have hl := lstF_len F n
  have hl2 : (ints (lstF F n)).length = (lstF F n).length := ints_len _
  generalize hc : F n = s at hs
  conv => whnf
  repeat' first | ((with_reducible apply XBr.dec) <;> (intro h; first | (exfalso; omega) | ((try simp only [List.length_map] at h); first | (exfalso; omega) | (conv => whnf)))) | ((with_reducible refine XInt.i64 (by omega) (by omega) ?_); conv => whnf) | ((with_reducible refine XHold.mk ?_ ?_); (first | omega | rfl | decide | exact ⟨rfl, by decide, rfl⟩ | exact wideI _ | exact widePr _ | exact wideSk _ | (unfold Room; constructor <;> ((try simp) <;> omega)) | exact ⟨rfl, by simp only [List.length_map], by unfold Room; constructor <;> ((try simp) <;> omega)⟩ | exact ⟨by omega, by omega, by unfold Room; constructor <;> ((try simp) <;> omega)⟩); conv => whnf) | (((refine XIx.bls n rfl (by omega) ?_); rw [hc]); conv => whnf) | ((with_reducible apply XBr.mk') <;> (intro h; conv => whnf)) | fail
  · rename_i h
    subst h
    rw [if_pos rfl] at hs
    refine XAgain.go (n + 1) (by omega) (by omega) ?_ ⟨rfl, rfl, ?_, rfl, trivial⟩
    · rw [hs]
      show [Blk.grow _ (lstF F n ++ [(n : Int)]).isEmpty ((lstF F n ++ [(n : Int)]).map (AV.int .i64))] = _
      rw [isEmpty_app, List.map_append]; rfl
    · show some (AV.gr 0 ((lstF F n).length + 1)) = _
      rw [hs, List.length_append]; rfl
  · rename_i h
    subst h
    rw [if_neg (by simp)] at hs
    exact XAgain.go (n + 1) (by omega) (by omega) (by rw [hs]) ⟨rfl, rfl, by rw [hs]; rfl, rfl, trivial⟩
  · obtain rfl : n = W := by omega
    exact ⟨Froz.grow rfl hl2 (lowI _)⟩
theorem lstF_nil {F : Nat → Bool} : ∀ {n : Nat}, (∀ i, i < n → F i = false) → lstF F n = []
  | 0, _ => rfl
  | n + 1, h => by rw [lstF_succ, if_neg (by rw [h n (by omega)]; simp), lstF_nil fun i hi => h i (by omega)]
end GA
end

section
namespace GA
open Go Go.RowKit Go.Proofs
set_option pp.deepTerms true
set_option maxRecDepth 8000
set_option linter.unusedVariables false
set_option linter.unusedSimpArgs false

structure EI (c : Int) (G : Nat → Bool) (d : Prop) : Prop where
  lo : ∀ k : Nat, G k = true → c ≤ k
  dn : d → 0 ≤ c ∧ G c.toNat = true
theorem EI.put {c : Int} {G : Nat → Bool} {d d' : Prop} (h : EI c G d) {v : Nat} (hv : c ≤ v) (hd : d' → d ∨ (v : Int) = c) : EI c (updV G v true) d' := by
  refine ⟨fun k hk => ?_, fun x => ?_⟩
  · unfold updV at hk
    split at hk
    · rename_i e; subst e; exact hv
    · exact h.lo k hk
  · unfold updV
    rcases hd x with h1 | h1
    · obtain ⟨h2, h3⟩ := h.dn h1
      refine ⟨h2, ?_⟩
      split <;> first | rfl | exact h3
    · exact ⟨by omega, by rw [if_pos (by omega)]⟩
end GA
end

section
namespace GA
open Go Go.RowKit Go.Proofs
set_option pp.deepTerms true
set_option maxRecDepth 8000
set_option linter.unusedVariables false
set_option linter.unusedSimpArgs false

theorem great_iff {b : Bd} : great04 b = false ↔ b.months.length ≤ 14 ∧ b.surveys.length ≤ 12 := by
  unfold great04
  rw [Bool.or_eq_false_iff, decide_eq_false_iff_not, decide_eq_false_iff_not]; omega
def bzero : List AV := [.int .i64 0, .int .i64 0, .int .i64 0, .sl true [], .sl true []]
end GA
end

section
namespace GA
open Go Go.RowKit Go.Proofs
set_option pp.deepTerms true
set_option maxRecDepth 8000
set_option linter.unusedVariables false
set_option linter.unusedSimpArgs false

def sus (l : List Su) : List AV := l.map suA
theorem sus_low {n : Nat} (l : List Su) : lowL n (sus l) = true := lowSu l
end GA
end

section
namespace GA
open Go Go.RowKit Go.Proofs
set_option maxRecDepth 8000
set_option linter.unusedVariables false
set_option linter.unusedSimpArgs false

def moreF (q : List Int → Bool) (S : Nat) : Nat → List Int → Nat → Option (List Int)
  | 0, l, _ => if q l = true then some l else none
  | k + 1, l, f => (List.range' f (S - f)).findSome? fun i : Nat => moreF q S k (l ++ [(i : Int)]) (i + 1)
structure Pck (S f : Nat) (t : List Int) : Prop where
  lt : t.Pairwise (· < ·)
  b : ∀ x ∈ t, (f : Int) ≤ x ∧ x < S
theorem Pck.cons {S f i : Nat} {t : List Int} (h : Pck S (i + 1) t) (hf : f ≤ i) (hi : i < S) : Pck S f ((i : Int) :: t) :=
  ⟨List.pairwise_cons.2 ⟨fun x hx => by have := h.b x hx; omega, h.lt⟩, fun x hx => by
    rcases List.mem_cons.1 hx with rfl | hx
    · omega
    · have := h.b x hx; omega⟩
end GA
end

section
namespace GA
open Go Go.RowKit Go.Proofs
set_option pp.deepTerms true
set_option maxRecDepth 8000
set_option linter.unusedVariables false
set_option linter.unusedSimpArgs false

def canRs (b : Bd) : List (List Int) := vecF (b.months.length + 1) (canL b)
theorem canRs_get {b : Bd} {m : Nat} (h : m ≤ b.months.length) : (canRs b).getD m default = canL b m := vecF_get _ (by omega)
theorem canRs_len (b : Bd) : (canRs b).length = b.months.length + 1 := vecF_len _ _
def canV (b : Bd) : AV := if possE b ≠ 0 then .tup [.sl true [], .int .i64 (possE b)] else .tup [.sl false (rowsA (canRs b)), .int .i64 0]
def canS (b : Bd) (i : Nat) : List AV := rowsA (vecF i (canL b))
theorem canS_len (b : Bd) (i : Nat) : (canS b i).length = i := by unfold canS rowsA; rw [List.length_map, vecF_len]
theorem rowsA_low {n : Nat} (l : List (List Int)) : lowL n (rowsA l) = true := lowRw l
theorem can_all_c (b : Bd) (hm : b.months.length ≤ 100000) (hs : b.surveys.length ≤ 100000) : Comp Try.prog 64 [bedA b] (canV b) := by
  have hp := possible_c b hm hs
  unfold possA at hp
  unfold canV
  by_cases hE : possE b = 0
  · obtain ⟨ok, _⟩ := possE_iff.1 hE
    have m2 := ok.m2
    rw [if_neg (fun h => h hE)] at hp ⊢
    have e2 : (((matF (b.months.length + 1) 121 (cnB b alwP)).map (arrF AV.bool)).length : Int) = b.months.length + 1 := by rw [List.length_map, matF, vecF_len]; omega
    refine Comp.body (T := tab) (res := [.tmp 2, .tmp 3]) tab_ok [] Try.func64 rfl (by kernel_rfl) Try.ntmps64 rfl (by simp only [List.length_cons, List.length_nil]; decide) (by simp only [lowL, bedL]; rfl) ?_; conv => whnf
    repeat' first | ((refine XCall.ret hp ?_); conv => whnf) | fail
    refine Walk.nilgr 7 27 rfl ?_
    refine Walk.loopGK tab_ok [] [(2, _), (3, _), (6, _), (16, _), (17, _)] ⟨rfl, rfl, rfl, rfl, rfl, trivial⟩ (fun i : Nat => i ≤ b.months.length + 1) (fun i => [(7, .gr 0 i), (18, natA i)]) (fun i => [.grow 27 (decide (i = 0)) (canS b i)]) (fun i => b.months.length + 1 - i) 0 (Nat.zero_le _) ?_ ⟨rfl, rfl, trivial⟩ ?_ (fun _ _ => (show (1 : Nat) ≤ 1 from Nat.le_refl 1)) ?_
    · have e0 : canS b 0 = [] := List.length_eq_zero_iff.1 (canS_len b 0)
      rw [e0]; rfl
    · intro i _
      refine ⟨fun z hz => ?_, fun z hz => ?_⟩
      · rw [List.mem_singleton] at hz; subst hz; exact rowsA_low _
      · simp only [List.cons_append, List.nil_append, List.mem_cons, List.not_mem_nil, or_false] at hz
        rcases hz with rfl | rfl | rfl | rfl | rfl | rfl | rfl <;> first | rfl | exact canA_low b
    intro i hi
    have hli := canS_len b i
    have hls := amList_c (cnB b alwP i)
    change Comp Try.prog _ _ (slA (canL b i)) at hls
    conv => whnf
    by_cases hlt : i < b.months.length + 1
    · have hcl := canL_ne hE (m := i) (by omega)
      repeat' first | ((with_reducible apply XBr.dec) <;> (intro h; first | (exfalso; omega) | ((try simp only [List.length_map] at h); first | (exfalso; omega) | (conv => whnf)))) | ((with_reducible refine XInt.i64 (by omega) (by omega) ?_); conv => whnf) | ((with_reducible refine XHold.mk ?_ ?_); (first | omega | rfl | decide | exact ⟨rfl, by decide, rfl⟩ | exact wideI _ | exact widePr _ | exact wideSk _ | (unfold Room; constructor <;> ((try simp) <;> omega)) | exact ⟨rfl, by simp only [List.length_map], by unfold Room; constructor <;> ((try simp) <;> omega)⟩ | exact ⟨by omega, by omega, by unfold Room; constructor <;> ((try simp) <;> omega)⟩); conv => whnf) | ((first | (refine XIx.mat i rfl (by omega) rfl ?_) | (refine xtk_vec rfl ?_) | (refine xn_vec rfl ?_) | (refine xspl_am ?_) | (refine XCall.ret hls ?_)); conv => whnf) | fail
      refine XAgainG.go (i + 1) [.cells ((vecF 121 (cnB b alwP i)).map .bool)] (by omega) (by omega) ?_ ⟨rfl, rfl, rfl, rfl, rfl, rfl, rfl, trivial⟩
      show [Blk.grow _ (decide (i + 1 = 0)) (canS b (i + 1))] ++ _ = [Blk.grow _ (decide (i = 0) && false) (canS b i ++ [_]), _]
      have e : canS b (i + 1) = canS b i ++ [slA (canL b i)] := by
        unfold canS rowsA
        rw [vecF, dif_neg (by omega), Nat.add_sub_cancel, List.map_append]; rfl
      rw [e, Bool.and_false]; rfl
    · obtain rfl : i = b.months.length + 1 := by omega
      repeat' first | ((with_reducible apply XBr.dec) <;> (intro h; first | (exfalso; omega) | ((try simp only [List.length_map] at h); first | (exfalso; omega) | (conv => whnf)))) | fail
      exact ⟨Froz.tup (.cons (Froz.grow rfl hli (rowsA_low _)) (.cons (.low rfl) .nil))⟩
  · rw [if_pos hE] at hp ⊢
    generalize possE b = e at hp hE
    refine Comp.body (T := tab) (res := [.tmp 2, .tmp 3]) tab_ok [] Try.func64 rfl (by kernel_rfl) Try.ntmps64 rfl (by simp only [List.length_cons, List.length_nil]; decide) (by simp only [lowL, bedL]; rfl) ?_; conv => whnf
    repeat' first | ((refine XCall.ret hp ?_); conv => whnf) | fail
    refine Walk.loopK tab_ok [] [(2, _), (3, _), (6, _), (16, _), (17, _)] ⟨rfl, rfl, rfl, rfl, rfl, trivial⟩ (fun _ : Unit => True) (fun _ => [(7, .sl true []), (18, .int .i64 0)]) (fun _ => []) (fun _ => 0) () trivial rfl ⟨rfl, rfl, trivial⟩ ?_
    intro _ _
    conv => whnf
    repeat' first | ((with_reducible apply XBr.dec) <;> (intro h; first | (exfalso; omega) | ((try simp only [List.length_map] at h); first | (exfalso; omega) | (conv => whnf)))) | fail
    · rename_i h; simp at h
    · exact ⟨.low rfl⟩
def lkF (F : Nat → Nat) : Nat → Nat × Nat
  | 0 => (0, 0)
  | i + 1 => if (lkF F i).2 < F i then (i, F i) else lkF F i
theorem lkF_le {F : Nat → Nat} {N : Nat} (h : ∀ i, F i ≤ N) : ∀ i, (lkF F i).2 ≤ N ∧ (lkF F i).1 ≤ i
  | 0 => ⟨Nat.zero_le _, Nat.le_refl _⟩
  | i + 1 => by
    have := lkF_le h i
    have := h i
    unfold lkF
    split
    · exact ⟨this, Nat.le_succ _⟩
    · omega
def lkB (b : Bd) : Nat × Nat := lkF (fun m => (canL b m).length) (b.months.length + 1)
def lookA (b : Bd) : AV := if possE b ≠ 0 then .tup [.int .i64 0, .int .i64 0, .int .i64 (possE b)] else .tup [natA (lkB b).1, natA (lkB b).2, .int .i64 0]
theorem look_c (b : Bd) (hm : b.months.length ≤ 100000) (hs : b.surveys.length ≤ 100000) : Comp Try.prog 66 [bedA b] (lookA b) := by
  have hp := possible_c b hm hs
  unfold possA at hp
  unfold lookA lkB
  by_cases hE : possE b = 0
  · obtain ⟨ok, _⟩ := possE_iff.1 hE
    have m2 := ok.m2
    rw [if_neg (fun h => h hE)] at hp ⊢
    have e2 : (((matF (b.months.length + 1) 121 (cnB b alwP)).map (arrF AV.bool)).length : Int) = b.months.length + 1 := by rw [List.length_map, matF, vecF_len]; omega
    have hlk := lkF_le (F := fun m => (canL b m).length) (N := 121) fun i => lstF_len _ _
    have hls := fun i => amList_c (cnB b alwP i)
    change ∀ i, Comp Try.prog _ _ (slA (canL b i)) at hls
    have hcl : ∀ i, ((ints (canL b i)).length : Int) = (canL b i).length := fun i => by rw [ints_len]
    have hc2 : ∀ i, (canL b i).length ≤ 121 := fun i => lstF_len _ _
    have hnx : ∀ i, lkF (fun m => (canL b m).length) (i + 1) = if (lkF (fun m => (canL b m).length) i).2 < (canL b i).length then (i, (canL b i).length) else lkF (fun m => (canL b m).length) i := fun i => rfl
    refine Comp.body (T := tab) (res := [.tmp 2, .tmp 3, .tmp 4]) tab_ok [] Try.func66 rfl (by kernel_rfl) Try.ntmps66 rfl (by simp only [List.length_cons, List.length_nil]; decide) (by simp only [lowL, bedL]; rfl) ?_; conv => whnf
    repeat' first | ((refine XCall.ret hp ?_); conv => whnf) | fail
    refine Walk.loopGK tab_ok [] [(2, _), (3, _), (4, _), (7, _), (19, _), (20, _)] ⟨rfl, rfl, rfl, rfl, rfl, rfl, trivial⟩ (fun i : Nat => i ≤ b.months.length + 1) (fun i => [(8, natA (lkF (fun m => (canL b m).length) i).1), (9, natA (lkF (fun m => (canL b m).length) i).2), (21, natA i)]) (fun i => []) (fun i => b.months.length + 1 - i) 0 (Nat.zero_le _) rfl ⟨rfl, rfl, rfl, trivial⟩ ?_ (fun _ _ => Nat.le_refl _) ?_
    · intro i _
      refine ⟨fun z hz => (by cases hz), fun z hz => ?_⟩
      simp only [List.cons_append, List.nil_append, List.mem_cons, List.not_mem_nil, or_false] at hz
      rcases hz with rfl | rfl | rfl | rfl | rfl | rfl | rfl | rfl | rfl <;> first | rfl | exact canA_low b
    intro i hi
    have hls := hls i
    have hcl := hcl i
    have hc2 := hc2 i
    have hnx := hnx i
    have hlk := hlk i
    unfold slA at hls
    generalize hqe : lkF (fun m => (canL b m).length) i = q at hnx hlk
    obtain ⟨at', many⟩ := q
    dsimp only at hnx hlk ⊢
    conv => whnf
    by_cases hlt : i < b.months.length + 1
    · skip
      repeat' first | ((with_reducible apply XBr.dec) <;> (intro h; first | (exfalso; omega) | ((try simp only [List.length_map] at h); first | (exfalso; omega) | (conv => whnf)))) | ((first | (with_reducible refine XInt.i64 (by omega) (by omega) ?_) | (refine XIx.mat i rfl (by omega) rfl ?_) | (refine xtk_vec rfl ?_) | (refine xn_vec rfl ?_) | (refine xspl_am ?_) | (refine XCall.ret hls ?_)); conv => whnf) | fail
      · rw [if_pos (by omega)] at hnx
        refine XAgainG.go (i + 1) [.cells ((vecF 121 (cnB b alwP i)).map .bool)] (by omega) (by omega) rfl ⟨rfl, rfl, rfl, rfl, rfl, rfl, ?_, ?_, rfl, trivial⟩
        · rw [hnx]; rfl
        · rw [hnx]; exact congrArg (fun z => some (AV.int .i64 z)) hcl
      · rw [if_neg (by omega)] at hnx
        refine XAgainG.go (i + 1) [.cells ((vecF 121 (cnB b alwP i)).map .bool)] (by omega) (by omega) rfl ⟨rfl, rfl, rfl, rfl, rfl, rfl, ?_, ?_, rfl, trivial⟩
        · rw [hnx]; rfl
        · rw [hnx]; rfl
    · obtain rfl : i = b.months.length + 1 := by omega
      repeat' first | ((with_reducible apply XBr.dec) <;> (intro h; first | (exfalso; omega) | ((try simp only [List.length_map] at h); first | (exfalso; omega) | (conv => whnf)))) | fail
      rw [hqe]
      exact ⟨.low rfl⟩
  · rw [if_pos hE] at hp ⊢
    generalize possE b = e at hp hE
    refine Comp.body (T := tab) (res := [.tmp 2, .tmp 3, .tmp 4]) tab_ok [] Try.func66 rfl (by kernel_rfl) Try.ntmps66 rfl (by simp only [List.length_cons, List.length_nil]; decide) (by simp only [lowL, bedL]; rfl) ?_; conv => whnf
    repeat' first | ((refine XCall.ret hp ?_); conv => whnf) | fail
    refine Walk.loopK tab_ok [] [(2, _), (3, _), (4, _), (7, _), (19, _), (20, _)] ⟨rfl, rfl, rfl, rfl, rfl, rfl, trivial⟩ (fun _ : Unit => True) (fun _ => [(8, .int .i64 0), (9, .int .i64 0), (21, .int .i64 0)]) (fun _ => []) (fun _ => 0) () trivial rfl ⟨rfl, rfl, rfl, trivial⟩ ?_
    intro _ _
    conv => whnf
    repeat' first | ((with_reducible apply XBr.dec) <;> (intro h; first | (exfalso; omega) | ((try simp only [List.length_map] at h); first | (exfalso; omega) | (conv => whnf)))) | fail
    · rename_i h; simp at h
    · exact ⟨.low rfl⟩
end GA
end

section
namespace GA
open Go Go.RowKit Go.Proofs
set_option pp.deepTerms true
set_option maxRecDepth 8000
set_option linter.unusedVariables false
set_option linter.unusedSimpArgs false

def conP (L : List Int) : Nat → Bool := fun i => L.contains (i : Int)
def clB (b : Bd) (L : List Int) : Bool := noneB b (conP L)
def clH (b : Bd) (d c o m : Nat) (out : AV) : List Blk := [.cells [dskA b], .cells [.fn 136 [.ptr d 0]], .cells [out], .cells [.fn 139 [.ptr o 0, .ptr c 0, .pim (bedC b), .ptr m 0]]]
theorem clH_low (b : Bd) (l : List Int) : ∀ x ∈ clH b 0 1 2 3 (slA l), x.low 4 = true := by
  intro x hx
  simp only [clH, List.mem_cons, List.not_mem_nil, or_false] at hx
  rcases hx with rfl | rfl | rfl | rfl
  · simp only [Blk.low, lowL, dskL]; rfl
  · rfl
  · simp only [Blk.low, lowL, slA_low]; rfl
  · simp only [Blk.low, lowL, AV.low, show lowL 4 (bedC b) = true from lowBd b]; rfl
def outL (o : Option (List Int)) : List Int := o.getD []
def MoreOk (b : Bd) (k : Nat) (l : List Int) (f : Nat) : Prop :=
  ACall Try.prog 139 [slA l, natA f, natA k, .ptr 2 0, .ptr 1 0, .pim (bedC b), .ptr 3 0] (clH b 0 1 2 3 (slA [])) fun r H' => r = .bool (moreF (clB b) b.surveys.length k l f).isSome ∧ H' = clH b 0 1 2 3 (slA (outL (moreF (clB b) b.surveys.length k l f)))
def rho4 (d c o m : Nat) : Nat → Nat
  | 0 => d
  | 1 => c
  | 2 => o
  | _ => m
theorem XCall.more {b : Bd} {k : Nat} {l : List Int} {f : Nat} (x : MoreOk b k l f) {v : AV} (hv : v = slA l) {H : List Blk} {K : AV → List Blk → Prop} (d c o m : Nat) (hd : d < c ∧ c < o ∧ o < m) (h0 : lget H d = some (.cells [dskA b])) (h1 : lget H c = some (.cells [.fn 136 [.ptr d 0]])) (h2 : lget H o = some (.cells [slA []]))
    (h3 : lget H m = some (.cells [.fn 139 [.ptr o 0, .ptr c 0, .pim (bedC b), .ptr m 0]])) (hk : K (.bool (moreF (clB b) b.surveys.length k l f).isSome) (H.set o (.cells [slA (outL (moreF (clB b) b.surveys.length k l f))]))) :
    XCall Try.prog 139 [v, natA f, natA k, .ptr o 0, .ptr c 0, .pim (bedC b), .ptr m 0] H K := by
  subst hv
  have hb : renL (rho4 d c o m) (bedC b) = bedC b := renL_low0 (lowBd b)
  have hD : renL (rho4 d c o m) (dskC b) = dskC b := renL_low0 (lowDk1 b)
  have hL : ∀ xs : List Int, renL (rho4 d c o m) (ints xs) = ints xs := fun xs => renL_low0 (lowI xs)
  rw [lget_eq] at h0 h1 h2 h3
  constructor
  have e := ACall.frame (ρ := rho4 d c o m) (H := H) (k := K) x ?_ ?_ (clH_low b []) ?_ ?_
  · simp only [List.map_cons, List.map_nil, slA, natA, AV.ren, hb, hL] at e
    exact e
  · intro i j hi hj he
    simp only [clH, List.length_cons, List.length_nil] at hi hj
    rcases i with _ | _ | _ | _ | i <;> rcases j with _ | _ | _ | _ | j <;> simp only [rho4] at he <;> omega
  · intro i x1 hi
    rcases i with _ | _ | _ | _ | i
    · simp only [clH, List.getElem?_cons_zero, Option.some.injEq] at hi; subst hi
      simp only [Blk.ren, renL, dskA, AV.ren, hD]; exact h0
    · simp only [clH, List.getElem?_cons_succ, List.getElem?_cons_zero, Option.some.injEq] at hi; subst hi
      exact h1
    · simp only [clH, List.getElem?_cons_succ, List.getElem?_cons_zero, Option.some.injEq] at hi; subst hi
      exact h2
    · simp only [clH, List.getElem?_cons_succ, List.getElem?_cons_zero, Option.some.injEq] at hi; subst hi
      simp only [Blk.ren, renL, AV.ren, hb]; exact h3
    · simp [clH] at hi
  · simp only [clH, List.length_cons, List.length_nil, lowL, AV.low, natA, slA, lowI, show lowL 4 (bedC b) = true from lowBd b]; rfl
  · rintro r1 H1' ⟨rfl, rfl⟩
    have ho := (List.getElem?_eq_some_iff.1 h2).1
    refine ⟨rfl, H.set o (.cells [slA (outL (moreF (clB b) b.surveys.length k l f))]), by simp, fun i x1 hi => ?_, fun q hq => ?_, hk⟩
    · rcases i with _ | _ | _ | _ | i
      · simp only [clH, List.getElem?_cons_zero, Option.some.injEq] at hi; subst hi
        simp only [Blk.ren, renL, dskA, AV.ren, hD]
        rw [List.getElem?_set_ne (by simp only [rho4]; omega)]; exact h0
      · simp only [clH, List.getElem?_cons_succ, List.getElem?_cons_zero, Option.some.injEq] at hi; subst hi
        rw [List.getElem?_set_ne (by simp only [rho4]; omega)]; exact h1
      · simp only [clH, List.getElem?_cons_succ, List.getElem?_cons_zero, Option.some.injEq] at hi; subst hi
        simp only [Blk.ren, renL, slA, AV.ren, hL]
        exact List.getElem?_set_self ho
      · simp only [clH, List.getElem?_cons_succ, List.getElem?_cons_zero, Option.some.injEq] at hi; subst hi
        simp only [Blk.ren, renL, AV.ren, hb]
        rw [List.getElem?_set_ne (by simp only [rho4]; omega)]; exact h3
      · simp [clH] at hi
    · exact List.getElem?_set_ne (by have := hq 2 (by simp [clH]); simpa [rho4] using this)
end GA
end

section
namespace GA
open Go Go.RowKit Go.Proofs
set_option pp.deepTerms true
set_option maxRecDepth 8000
set_option linter.unusedVariables false
set_option linter.unusedSimpArgs false

def lsA (xs : List Int) : AV := .sl false (ints xs)
theorem wide04_c (b : Bd) (r m s : Int) : Comp Try.prog 47 [bedA b, .int .i64 r, .int .i64 m, .int .i64 s] (.bool (decide (r < b.room ∧ b.room ≤ 120 ∨ m < b.months.length ∧ (b.months.length : Int) ≤ 10 ∨ s < b.surveys.length ∧ (b.surveys.length : Int) ≤ 8))) := by
  have e1 : ((b.months.map moA).length : Int) = b.months.length := by rw [List.length_map]
  have e2 : ((b.surveys.map suA).length : Int) = b.surveys.length := by rw [List.length_map]
  refine Comp.body (T := tab) (res := [.tmp 8]) tab_ok [] Try.func47 rfl (by kernel_rfl) Try.ntmps47 rfl (by simp only [List.length_cons, List.length_nil]; decide) (by simp only [lowL, bedL, AV.low]; rfl) ?_; conv => whnf
  refine Walk.norm tab_ok [] [(1, _), (2, _), (3, _), (4, _), (8, _)] ⟨rfl, rfl, rfl, rfl, rfl, trivial⟩ ?_
  conv => whnf
  repeat' first | ((first | (with_reducible apply XBr.tt) | (with_reducible apply XBr.ff)); conv => whnf) | ((with_reducible apply XBr.dec) <;> (intro h; first | (exfalso; omega) | ((try simp only [List.length_map] at h); first | (exfalso; omega) | (conv => whnf)))) | fail
  all_goals
    refine XOut.bool ?_
    rw [Bool.eq_iff_iff]
    simp only [decide_eq_true_eq, Bool.true_eq_false, Bool.false_eq_true, true_iff, false_iff, iff_true, iff_false]
    omega
end GA
end

section
namespace GA
open Go Go.RowKit
set_option linter.unusedVariables false
section
variable {P : Program} {N : Nat} {ρ : Option Nat} {H : List Blk} {σ : St} {D : List Nat} {Q : Post}

structure XFrz (u i n : Nat) (σ : St) (H : List Blk) (k : St → List Blk → Prop) : Prop where
  o : ∃ t nl els, σ u = some (.gr i n) ∧ lget H i = some (.grow t nl els) ∧ els.length = n ∧ k (updX σ u (.sl nl els)) (H.set i .dead)
theorem XFrz.go {u i n : Nat} {k : St → List Blk → Prop} {t : TypeId} {nl : Bool} {els : List AV} (hu : σ u = some (.gr i n)) (hi : lget H i = some (.grow t nl els)) (hn : els.length = n) (x : k (updX σ u (.sl nl els)) (H.set i .dead)) : XFrz u i n σ H k := ⟨t, nl, els, hu, hi, hn, x⟩
def frzQ (u i n : Nat) (Q : Post) : Post
  | .exit id, D, σ, H => XFrz u i n σ H (Q (.exit id) D)
  | e, D, σ, H => Q e D σ H
theorem Walk.thenFreeze {c : Code} (u i n : Nat) (x : Walk P N ρ c (frzQ u i n Q) D σ H) : Walk P N ρ c Q D σ H := by
  constructor
  intro E h β a w s
  refine wpIn_mono (x.o E h β a w s) fun e a' w' hc => ?_
  obtain ⟨D', σ', H', h', β', q, X, s'⟩ := hc
  cases e with
  | exit id =>
    obtain ⟨t, nl, els, hu, hi, hn, q⟩ := q.o
    rw [lget_eq] at hi
    obtain ⟨h'', s1, X1, hfz⟩ := s'.sr.freeze hi
    refine ⟨D', _, _, h'', β', q, X.trans X1, ⟨s1, fun t' r e => ?_, s'.size, s'.df.ext X1⟩⟩
    rw [updX_eq] at e; unfold upd at e
    split at e
    · rename_i hh; subst hh; cases e
      obtain ⟨v, h1, h2⟩ := s'.fits _ _ hu
      exact ⟨v, h1, gr_frz s'.sr hi hn h2 X1 hfz⟩
    · obtain ⟨v, h1, h2⟩ := s'.fits t' r e
      exact ⟨v, h1, X1.rep h2⟩
  | _ => exact ⟨D', σ', H', h', β', q, X, s'⟩
end
end GA
end

section
namespace GA
open Go Go.RowKit Go.Proofs
set_option pp.deepTerms true
set_option maxRecDepth 8000
set_option linter.unusedVariables false
set_option linter.unusedSimpArgs false

theorem vecF_succ {α : Type} (F : Nat → α) (n : Nat) : vecF (n + 1) F = vecF n F ++ [F n] := by rw [vecF_eq, vecF_eq, List.range_succ, List.map_append]; rfl
theorem vecF_low {n W : Nat} {F : Nat → AV} (h : ∀ i, i < W → (F i).low n = true) : lowL n (vecF W F) = true := by
  rw [lowL_iff]; intro x hx
  obtain ⟨i, hi, rfl⟩ := vecF_mem.1 hx
  exact h i hi
structure NI (b : Bd) (m n : Nat) (G : Nat → Bool) (D : Int → Int → Prop) : Prop where
  o : ∀ k : Nat, G k = true ↔ ∃ sp st, InC b m sp st ∧ D sp st ∧ grC b m n sp st - (moB b m).r = k
theorem NI.to {b : Bd} {m n : Nat} {G : Nat → Bool} {D D' : Int → Int → Prop} (h : NI b m n G D) (hd : ∀ x y, InC b m x y → (D' x y ↔ D x y)) : NI b m n G D' :=
  ⟨fun k => (h.o k).trans ⟨fun ⟨x, y, h1, h2, h3⟩ => ⟨x, y, h1, (hd x y h1).2 h2, h3⟩, fun ⟨x, y, h1, h2, h3⟩ => ⟨x, y, h1, (hd x y h1).1 h2, h3⟩⟩⟩
theorem NI.skip {b : Bd} {m n : Nat} {G : Nat → Bool} {D D' : Int → Int → Prop} {sp st : Int} (h : NI b m n G D) (hd : ∀ x y, InC b m x y → (D' x y ↔ D x y ∨ (x = sp ∧ y = st))) (hv : grC b m n sp st - (moB b m).r < 0) : NI b m n G D' := by
  refine ⟨fun k => (h.o k).trans ⟨fun ⟨x, y, h1, h2, h3⟩ => ⟨x, y, h1, (hd x y h1).2 (.inl h2), h3⟩, fun ⟨x, y, h1, h2, h3⟩ => ⟨x, y, h1, ?_, h3⟩⟩⟩
  rcases (hd x y h1).1 h2 with h4 | ⟨rfl, rfl⟩
  · exact h4
  · omega
theorem NI.put {b : Bd} {m n : Nat} {G : Nat → Bool} {D D' : Int → Int → Prop} {sp st : Int} (h : NI b m n G D) (hin : InC b m sp st) (hd : ∀ x y, InC b m x y → (D' x y ↔ D x y ∨ (x = sp ∧ y = st))) (hv : 0 ≤ grC b m n sp st - (moB b m).r) : NI b m n (updV G (grC b m n sp st - (moB b m).r).toNat true) D' := by
  refine ⟨fun k => ?_⟩
  unfold updV
  by_cases e : k = (grC b m n sp st - (moB b m).r).toNat
  · rw [if_pos e]
    exact ⟨fun _ => ⟨sp, st, hin, (hd sp st hin).2 (.inr ⟨rfl, rfl⟩), by omega⟩, fun _ => rfl⟩
  · rw [if_neg e]
    refine (h.o k).trans ⟨fun ⟨x, y, h1, h2, h3⟩ => ⟨x, y, h1, (hd x y h1).2 (.inl h2), h3⟩, fun ⟨x, y, h1, h2, h3⟩ => ⟨x, y, h1, ?_, h3⟩⟩
    rcases (hd x y h1).1 h2 with h4 | ⟨rfl, rfl⟩
    · exact h4
    · omega
def nxF (b : Bd) (m n k : Nat) : Bool := befF b m k n
theorem NI.all {b : Bd} (ok : BedOk b) {m n : Nat} (hm : m < b.months.length) {G : Nat → Bool} {D : Int → Int → Prop} (h : NI b m n G D) (hd : ∀ x y, InC b m x y → D x y) (k : Nat) : G k = nxF b m n k := by
  unfold nxF befF
  rw [Bool.eq_iff_iff, decide_eq_true_iff, h.o k, mem_lv ok hm]
  exact ⟨fun ⟨x, y, h1, h2, h3⟩ => ⟨x, y, h1, h3⟩, fun ⟨x, y, h1, h3⟩ => ⟨x, y, h1, hd x y h1, h3⟩⟩
def nxRow (b : Bd) (m n : Nat) : AV := .sl false (bls (b.room + 1).toNat (nxF b m n))
def nxMo (b : Bd) (m : Nat) : AV := .sl false (vecF (b.room + 1).toNat (nxRow b m))
def nextA (b : Bd) : AV := .sl false (vecF b.months.length (nxMo b))
theorem nxRow_low {k : Nat} (b : Bd) (m n : Nat) : (nxRow b m n).low k = true := bls_low _ _
theorem nxMo_low {k : Nat} (b : Bd) (m : Nat) : (nxMo b m).low k = true := vecF_low fun _ _ => nxRow_low _ _ _
theorem nextA_low {k : Nat} (b : Bd) : (nextA b).low k = true := vecF_low fun _ _ => nxMo_low _ _
set_option maxHeartbeats 1000000 in
theorem next_c (b : Bd) (ok : BedOk b) : Comp Try.prog 41 [bedA b] (nextA b) := by
  have m1 := ok.m1
  have m2 := ok.m2
  have r1 := ok.r1
  have r2 := ok.r2
  have e1 : ((b.months.map moA).length : Int) = b.months.length := by rw [List.length_map]
  refine Comp.body (T := tab) (res := [.tmp 2]) tab_ok [] Try.func41 rfl (by kernel_rfl) Try.ntmps41 rfl (by simp only [List.length_cons, List.length_nil]; decide) (by simp only [lowL, bedL]; rfl) ?_; conv => whnf
  skip
  refine Walk.nilgr 3 72 rfl ?_
  refine Walk.loopGK tab_ok [] [(1, _), (2, _)] ⟨rfl, rfl, trivial⟩ (fun m : Nat => m ≤ b.months.length) (fun m => [(3, .gr 0 m), (4, natA m)]) (fun m => [.grow 72 (decide (m = 0)) (vecF m (nxMo b))]) (fun m => b.months.length - m) 0 (Nat.zero_le _) (by rw [vecF_eq]; rfl) ⟨rfl, rfl, trivial⟩ ?_ (fun _ _ => (show (1 : Nat) ≤ 1 from Nat.le_refl 1)) ?_
  · intro m _
    refine ⟨fun z hz => ?_, fun z hz => ?_⟩
    · rw [List.mem_singleton] at hz; subst hz; exact vecF_low fun _ _ => nxMo_low _ _
    · simp only [List.cons_append, List.nil_append, List.mem_cons, List.not_mem_nil, or_false] at hz
      rcases hz with rfl | rfl | rfl | rfl <;> first | rfl | exact lowBd b
  intro m hm
  conv => whnf
  by_cases hlt : m < b.months.length
  · have hmo := ok.mo' hlt
    have hgb := fun (n : Nat) (sp st : Int) (q : InC b m sp st) => grC_b ok hlt (n := n) q
    have hgr := fun (n : Nat) (hn : (n : Int) ≤ b.room) (sp st : Int) (q : InC b m sp st) => refGross_c b (moB b m) n sp st (by omega) (by omega) hmo.1 hmo.2.1 (by omega) (by omega) (by have := q.1; omega) (by have := q.2.1; omega) (by have := q.2.2.1; omega) (by have := q.2.2.2; omega)
    change ∀ (n : Nat) (hn : (n : Int) ≤ b.room) (sp st : Int) (q : InC b m sp st), Comp Try.prog _ _ (.int .i64 (grC b m n sp st)) at hgr
    have hml : (vecF m (nxMo b)).length = m := vecF_len _ _
    repeat' first | ((with_reducible apply XBr.dec) <;> (intro h; first | (exfalso; omega) | ((try simp only [List.length_map] at h); first | (exfalso; omega) | (conv => whnf)))) | (((with_reducible refine XIx.nat ?_ ?_ ?_); omega; (intro _; rfl)); conv => whnf) | fail
    refine Walk.nilgr 6 75 rfl ?_
    refine Walk.thenFreeze 6 2 (b.room + 1).toNat ?_
    refine Walk.loopGK tab_ok [] [(1, _), (2, _), (3, _), (4, _), (5, _)] ⟨rfl, rfl, rfl, rfl, rfl, trivial⟩ (fun n : Nat => (n : Int) ≤ b.room + 1) (fun n => [(6, .gr 2 n), (7, natA n)]) (fun n => [.grow 72 (decide (m = 0)) (vecF m (nxMo b)), .cells (moC (moB b m)), .grow 75 (decide (n = 0)) (vecF n (nxRow b m))]) (fun n => (b.room + 1).toNat - n) 0 (by omega) (by rw [vecF_eq (nxRow b m)]; rfl) ⟨rfl, rfl, trivial⟩ ?_ (fun _ _ => (show (3 : Nat) ≤ 3 from Nat.le_refl 3)) ?_
    · intro n _
      refine ⟨fun z hz => ?_, fun z hz => ?_⟩
      · simp only [List.mem_cons, List.not_mem_nil, or_false] at hz
        rcases hz with rfl | rfl | rfl
        · exact vecF_low fun _ _ => nxMo_low _ _
        · rfl
        · exact vecF_low fun _ _ => nxRow_low _ _ _
      · simp only [List.cons_append, List.nil_append, List.mem_cons, List.not_mem_nil, or_false] at hz
        rcases hz with rfl | rfl | rfl | rfl | rfl | rfl | rfl <;> first | rfl | exact lowBd b
    intro n hn
    have hnl : (vecF n (nxRow b m)).length = n := vecF_len _ _
    conv => whnf
    by_cases hltn : (n : Int) ≤ b.room
    · skip
      repeat' first | ((with_reducible apply XBr.dec) <;> (intro h; first | (exfalso; omega) | ((try simp only [List.length_map] at h); first | (exfalso; omega) | (conv => whnf)))) | ((with_reducible refine XInt.i64 (by omega) (by omega) ?_); conv => whnf) | ((with_reducible refine XHold.mk ?_ ?_); (first | omega | rfl | decide | exact ⟨rfl, by decide, rfl⟩ | exact wideI _ | exact widePr _ | exact wideSk _ | (unfold Room; constructor <;> ((try simp) <;> omega)) | exact ⟨rfl, by simp only [List.length_map], by unfold Room; constructor <;> ((try simp) <;> omega)⟩ | exact ⟨by omega, by omega, by unfold Room; constructor <;> ((try simp) <;> omega)⟩); conv => whnf) | fail
      refine Walk.thenFreeze 8 3 (b.room + 1).toNat ?_
      refine Walk.loopK tab_ok [] [(1, _), (2, _), (3, _), (4, _), (5, _), (6, _), (7, _), (8, _)] ⟨rfl, rfl, rfl, rfl, rfl, rfl, rfl, rfl, trivial⟩ (fun q : Int × (Nat → Bool) => (moB b m).pl ≤ q.1 ∧ q.1 ≤ (moB b m).ph + 1 ∧ NI b m n q.2 fun x _ => x < q.1) (fun q => [(9, .int .i64 q.1)]) (fun q => [.grow 72 (decide (m = 0)) (vecF m (nxMo b)), .cells (moC (moB b m)), .grow 75 (decide (n = 0)) (vecF n (nxRow b m)), .grow 4 false (bls (b.room + 1).toNat q.2)]) (fun q => ((moB b m).ph + 1 - q.1).toNat) ((moB b m).pl, fun _ => false) ⟨Int.le_refl _, by dsimp only; omega, ⟨fun k => ⟨fun h => (by cases h), fun ⟨x, y, h1, h2, _⟩ => absurd h1.1 (by dsimp only at h2; omega)⟩⟩⟩ ?_ ⟨rfl, trivial⟩ ?_
      · show [_, _, _, Blk.grow _ false (bls _ _)] = [_, _, _, Blk.grow _ false (List.replicate _ _)]
        rw [bls0]
      rintro ⟨sp, G⟩ ⟨hs1, hs2, hG⟩
      dsimp only at hs1 hs2 hG ⊢
      conv => whnf
      by_cases hlts : sp ≤ (moB b m).ph
      · skip
        repeat' first | ((with_reducible apply XBr.dec) <;> (intro h; first | (exfalso; omega) | ((try simp only [List.length_map] at h); first | (exfalso; omega) | (conv => whnf)))) | fail
        refine Walk.loopK tab_ok [] [(1, _), (2, _), (3, _), (4, _), (5, _), (6, _), (7, _), (8, _), (9, _)] ⟨rfl, rfl, rfl, rfl, rfl, rfl, rfl, rfl, rfl, trivial⟩ (fun q : Int × (Nat → Bool) => (moB b m).tl ≤ q.1 ∧ q.1 ≤ (moB b m).th + 1 ∧ NI b m n q.2 fun x y => x < sp ∨ (x = sp ∧ y < q.1)) (fun q => [(10, .int .i64 q.1)]) (fun q => [.grow 72 (decide (m = 0)) (vecF m (nxMo b)), .cells (moC (moB b m)), .grow 75 (decide (n = 0)) (vecF n (nxRow b m)), .grow 4 false (bls (b.room + 1).toNat q.2)]) (fun q => ((moB b m).th + 1 - q.1).toNat) ((moB b m).tl, G) ⟨Int.le_refl _, by dsimp only; omega, hG.to fun x y h => by have := h.2.2.1; dsimp only; omega⟩ rfl ⟨rfl, trivial⟩ ?_
        rintro ⟨st, G⟩ ⟨ht1, ht2, hG⟩
        dsimp only at ht1 ht2 hG ⊢
        conv => whnf
        by_cases hltt : st ≤ (moB b m).th
        · have hin : InC b m sp st := ⟨hs1, hlts, ht1, hltt⟩
          have hg := hgr n hltn sp st hin
          have hb := hgb n sp st hin
          have hput := hG.put (D' := fun x y => x < sp ∨ (x = sp ∧ y < st + 1)) hin (fun x y _ => by omega)
          have hskip := hG.skip (D' := fun x y => x < sp ∨ (x = sp ∧ y < st + 1)) (sp := sp) (st := st) (fun x y _ => by omega)
          generalize grC b m n sp st = v at hg hb hput hskip
          repeat' first | ((with_reducible apply XBr.dec) <;> (intro h; first | (exfalso; omega) | ((try simp only [List.length_map] at h); first | (exfalso; omega) | (conv => whnf)))) | ((with_reducible refine XInt.i64 (by omega) (by omega) ?_); conv => whnf) | (with_reducible apply XAnd.mk) | ((first | (with_reducible apply Chk.go) | (with_reducible apply ChkA.go) | (with_reducible apply ChkF.go) | (with_reducible apply ChkB.go)); conv => whnf) | (exact XSame.mk rfl rfl) | (with_reducible exact trivial) | (apply Walk.drawN (id := 17) tab_ok mixed_ok [] [] (hsU _) [_, _, _, _, _, _, _, _, _, _, _] (by kernel_rfl) rfl) | ((first | (with_reducible apply XNext.mk) | (refine XCall.ret hg ?_) | (refine XHold.mk ⟨bls_len _ _, rfl, by omega, by omega⟩ ?_) | (refine XPut.bls (v - (moB b m).r).toNat rfl rfl (by omega) ?_)); conv => whnf) | fail
          · rename_i h
            exact XAgain.go (st + 1, _) ⟨by dsimp only; omega, by dsimp only; omega, hput h⟩ (by dsimp only; omega) rfl ⟨rfl, rfl, rfl, rfl, rfl, rfl, rfl, rfl, rfl, rfl, trivial⟩
          · rename_i h
            exact XAgain.go (st + 1, G) ⟨by dsimp only; omega, by dsimp only; omega, hskip (Int.not_le.1 h)⟩ (by dsimp only; omega) rfl ⟨rfl, rfl, rfl, rfl, rfl, rfl, rfl, rfl, rfl, rfl, trivial⟩
        · skip
          repeat' first | ((with_reducible apply XBr.dec) <;> (intro h; first | (exfalso; omega) | ((try simp only [List.length_map] at h); first | (exfalso; omega) | (conv => whnf)))) | ((with_reducible refine XInt.i64 (by omega) (by omega) ?_); conv => whnf) | fail
          exact XAgain.go (sp + 1, G) ⟨by dsimp only; omega, by dsimp only; omega, hG.to fun x y h => by have := h.2.2.2; dsimp only; omega⟩ (by dsimp only; omega) rfl ⟨rfl, rfl, rfl, rfl, rfl, rfl, rfl, rfl, rfl, trivial⟩
      · have hrow : bls (b.room + 1).toNat G = bls (b.room + 1).toNat (nxF b m n) := congrArg (List.map AV.bool) (vecF_congr fun k _ => hG.all ok hlt (fun x y h => by have := h.2.1; omega) k)
        rw [hrow]
        repeat' first | ((with_reducible apply XBr.dec) <;> (intro h; first | (exfalso; omega) | ((try simp only [List.length_map] at h); first | (exfalso; omega) | (conv => whnf)))) | ((with_reducible refine XInt.i64 (by omega) (by omega) ?_); conv => whnf) | ((with_reducible refine XHold.mk ?_ ?_); (first | omega | rfl | decide | exact ⟨rfl, by decide, rfl⟩ | exact wideI _ | exact widePr _ | exact wideSk _ | (unfold Room; constructor <;> ((try simp) <;> omega)) | exact ⟨rfl, by simp only [List.length_map], by unfold Room; constructor <;> ((try simp) <;> omega)⟩ | exact ⟨by omega, by omega, by unfold Room; constructor <;> ((try simp) <;> omega)⟩); conv => whnf) | ((refine XFrz.go rfl rfl (bls_len _ _) ?_); conv => whnf) | fail
        refine XAgainG.go (n + 1) [.dead] (by omega) (by omega) ?_ ⟨rfl, rfl, rfl, rfl, rfl, rfl, rfl, trivial⟩
        rw [vecF_succ (nxRow b m), show decide (n + 1 = 0) = (decide (n = 0) && false) by simp]; rfl
    · obtain rfl : n = (b.room + 1).toNat := by omega
      repeat' first | ((with_reducible apply XBr.dec) <;> (intro h; first | (exfalso; omega) | ((try simp only [List.length_map] at h); first | (exfalso; omega) | (conv => whnf)))) | ((with_reducible refine XInt.i64 (by omega) (by omega) ?_); conv => whnf) | ((with_reducible refine XHold.mk ?_ ?_); (first | omega | rfl | decide | exact ⟨rfl, by decide, rfl⟩ | exact wideI _ | exact widePr _ | exact wideSk _ | (unfold Room; constructor <;> ((try simp) <;> omega)) | exact ⟨rfl, by simp only [List.length_map], by unfold Room; constructor <;> ((try simp) <;> omega)⟩ | exact ⟨by omega, by omega, by unfold Room; constructor <;> ((try simp) <;> omega)⟩); conv => whnf) | ((refine XFrz.go rfl rfl (vecF_len _ _) ?_); conv => whnf) | fail
      refine XAgainG.go (m + 1) [.cells (moC (moB b m)), .dead] (by omega) (by omega) ?_ ⟨rfl, rfl, rfl, rfl, trivial⟩
      rw [vecF_succ (nxMo b), show decide (m + 1 = 0) = (decide (m = 0) && false) by simp]
      have e4 : decide ((b.room + 1).toNat = 0) = false := decide_eq_false (by omega)
      rw [e4]; rfl
  · obtain rfl : m = b.months.length := by omega
    repeat' first | ((with_reducible apply XBr.dec) <;> (intro h; first | (exfalso; omega) | ((try simp only [List.length_map] at h); first | (exfalso; omega) | (conv => whnf)))) | fail
    have e3 : decide (b.months.length = 0) = false := decide_eq_false (by omega)
    have hz := Froz.grow (P := Try.prog) (H := [.grow 72 (decide (b.months.length = 0)) (vecF b.months.length (nxMo b))]) (i := 0) (n := b.months.length) rfl (vecF_len _ _) (vecF_low fun _ _ => nxMo_low _ _)
    rw [e3] at hz ⊢
    exact ⟨hz⟩
end GA
end

section
namespace GA
open Go Go.RowKit Go.Proofs
set_option pp.deepTerms true
set_option maxRecDepth 8000
set_option linter.unusedVariables false
set_option linter.unusedSimpArgs false

theorem updV_same {α : Type} (F : Nat → α) (j : Nat) (v : α) : updV F j v j = v := by unfold updV; rw [if_pos rfl]
theorem updV_updV {α : Type} (F : Nat → α) (j : Nat) (v w : α) : updV (updV F j v) j w = updV F j w := by
  funext i; unfold updV; split <;> rfl
end GA
end

section
namespace GA
open Go Go.RowKit
set_option linter.unusedVariables false
section
variable {P : Program} {N : Nat} {ρ : Option Nat} {H : List Blk} {σ : St} {D : List Nat} {Q : Post} {E : Env} {h : Nat → Option Obj} {β : Nat → Value} {a : Act} {w : World}

theorem keep_stands (H1 l : List Blk) (L : List (Nat × AV)) (hlow : ∀ x ∈ H1, x.low H1.length = true) (hs : SubF P H1.length (H1 ++ l) L σ) (s : Stands P E N h β D σ (H1 ++ l) a w) :
    ∃ h', Ext h β (H1 ++ l) h' β (H1 ++ l.map fun _ => .dead) ∧ Stands P E N h' β D (stX L) (H1 ++ l.map fun _ => .dead) a w := by
  have hd : ∀ (l : List Blk) (i : Nat) x, (l.map fun _ => Blk.dead)[i]? = some x → x = .dead := fun l i x e => by
    rw [List.getElem?_map] at e
    cases hx : l[i]? with
    | none => rw [hx] at e; cases e
    | some y => rw [hx] at e; cases e; rfl
  have X : Ext h β (H1 ++ l) (hallN H1.length h β (H1 ++ l) w) β (H1 ++ l.map fun _ => .dead) := by
    refine ⟨fun b o e => hallN_imm s.sr e, by simp, fun i x x' e e' => ?_⟩
    by_cases hi : i < H1.length
    · rw [List.getElem?_append_left hi] at e e'
      rw [e] at e'; cases e'; exact Blk.to_refl _ _ _
    · rw [List.getElem?_append_right (by omega)] at e'
      have := hd _ _ _ e'
      subst this
      cases x <;> first | rfl | trivial | exact .inl rfl
  have s1 := s.sr.allN hlow
  have X1 : Ext (hallN H1.length h β (H1 ++ l) w) β H1 (hallN H1.length h β (H1 ++ l) w) β (H1 ++ l.map fun _ => .dead) :=
    ⟨fun _ _ e => e, by simp, fun i x x' e e' => by rw [List.getElem?_append_left (List.getElem?_eq_some_iff.1 e).1, e] at e'; cases e'; exact Blk.to_refl _ _ _⟩
  have hbo : ∀ i b, blkOf β (H1 ++ l.map fun _ => .dead) i = some b → blkOf β H1 i = some b := fun i b e => by
    have hlt := (blkOf_some e).1
    by_cases hi : i < H1.length
    · rw [← e]; exact (blkOf_congr rfl (List.getElem?_append_left hi)).symm
    · exfalso
      unfold blkOf at e
      cases hx : (H1 ++ l.map fun _ => Blk.dead)[i]? with
      | none => rw [hx] at e; cases e
      | some x =>
        rw [hx] at e
        rw [List.getElem?_append_right (by omega)] at hx
        have := hd _ _ _ hx
        subst this; cases e
  have s2 : SR P E (hallN H1.length h β (H1 ++ l) w) β (H1 ++ l.map fun _ => .dead) w := by
    refine s1.grown X1 s1.env s1.imm (fun i x e => ?_) (fun i j b e1 e2 => s1.own i j b (hbo _ _ e1) (hbo _ _ e2)) (fun i b e => s1.fresh i b (hbo _ _ e)) s1.frm (fun i b e => s1.fro i b (hbo _ _ e))
    by_cases hi : i < H1.length
    · rw [List.getElem?_append_left hi] at e; exact .inl ⟨e, rfl, fun _ _ => rfl⟩
    · rw [List.getElem?_append_right (by omega)] at e
      have := hd _ _ _ e
      subst this; exact .inr trivial
  refine ⟨_, X, ⟨s2, fun t r e => ?_, s.size, s.df.ext X⟩⟩
  obtain ⟨r0, e1, e2⟩ := stX_subF hs t r e
  obtain ⟨v, h1, h2⟩ := s.fits t r0 e1
  rcases e2 with e2 | ⟨rfl, e2⟩
  · exact ⟨v, h1, e2 E h β w s.sr v h2 _⟩
  · refine ⟨v, h1, X1.rep (Rep.cut (l := l) ?_ e2)⟩
    have XA : Ext h β (H1 ++ l) (hallN H1.length h β (H1 ++ l) w) β (H1 ++ l) := ⟨fun b o e => hallN_imm s.sr e, Nat.le_refl _, fun i x x' e e' => by rw [e] at e'; cases e'; exact Blk.to_refl _ _ _⟩
    exact XA.rep h2
structure XKeepE (P : Program) (σ : St) (H : List Blk) (k : St → List Blk → Prop) : Prop where
  o : ∃ (H1 l : List Blk) (L : List (Nat × AV)), H1 ++ l = H ∧ (∀ x ∈ H1, x.low H1.length = true) ∧ SubF P H1.length H L σ ∧ k (stX L) (H1 ++ l.map fun _ => .dead)
theorem XKeepE.go {k : St → List Blk → Prop} (H1 l : List Blk) (L : List (Nat × AV)) (hH : H1 ++ l = H) (hlow : ∀ x ∈ H1, x.low H1.length = true) (hs : SubF P H1.length H L σ) (x : k (stX L) (H1 ++ l.map fun _ => .dead)) : XKeepE P σ H k := ⟨H1, l, L, hH, hlow, hs, x⟩
def keepQ (P : Program) (Q : Post) : Post
  | .exit id, D, σ, H => XKeepE P σ H (Q (.exit id) D)
  | e, D, σ, H => Q e D σ H
theorem Walk.thenKeep {c : Code} (x : Walk P N ρ c (keepQ P Q) D σ H) : Walk P N ρ c Q D σ H := by
  constructor
  intro E h β a w s
  refine wpIn_mono (x.o E h β a w s) fun e a' w' hc => ?_
  obtain ⟨D', σ', H', h', β', q, X, s'⟩ := hc
  cases e with
  | exit id =>
    obtain ⟨H1, l, L, rfl, hlow, hs, q⟩ := q.o
    obtain ⟨h'', X1, s1⟩ := keep_stands H1 l L hlow hs s'
    exact ⟨D', _, _, h'', β', q, X.trans X1, s1⟩
  | _ => exact ⟨D', σ', H', h', β', q, X, s'⟩
theorem hallN_zero {h : Nat → Option Obj} {β : Nat → Value} {H : List Blk} {w : World} : hallN 0 h β H w = hall h β H w := by
  funext b
  by_cases hx : ∃ i, blkOf β H i = some b
  · obtain ⟨i, hi⟩ := hx
    rw [hallN_own (Nat.zero_le i) hi]
    unfold hall; rw [if_pos ⟨i, hi⟩]
  · unfold hallN hall
    rw [if_neg hx, if_neg (fun ⟨i, _, h⟩ => hx ⟨i, h⟩)]
theorem Froz.n0 {r r' : AV} (f : Froz P H r r') : FrozN P 0 H r r' := fun E h β w s v hr H1 => by
  rw [hallN_zero]
  exact (f E h β w s v hr).none
theorem XKeep.all {r r' : AV} (f : Froz P H r r') : XKeep P 0 H r r' := .inl f.n0
theorem Walk.truncCell {c : Code} (j o i m n : Nat) {cs : List AV} {te : TypeId} {nl : Bool} {els : List AV} (hj : lget H j = some (.cells cs)) (hc : lget cs o = some (.os i m 0 n)) (hi : lget H i = some (.grow te nl els)) (hm : els.length = m) (m0 : 0 < m)
    (x : Walk P N ρ c Q D σ ((H.set i .dead).set j (.cells (cs.set o (.gr H.length n))) ++ [.grow te false (els.take n)])) : Walk P N ρ c Q D σ H := by
  constructor
  intro E h β a w s
  rw [lget_eq] at hj hc hi
  have hlt := (List.getElem?_eq_some_iff.1 hj).1
  have hlo := (List.getElem?_eq_some_iff.1 hc).1
  have hij : i ≠ j := fun e => by subst e; rw [hi] at hj; cases hj
  obtain ⟨b, c', t, h1, h2, h3, h4, us, h5, h6⟩ := s.sr.blk j _ hj
  obtain ⟨β1, s1, X1, hr⟩ := trunc_sr s.sr hi hm m0 (h6 o _ hc)
  have hlen : (H.set i .dead).length = H.length := List.length_set
  have hj1 : (H.set i .dead ++ [Blk.grow te false (els.take n)])[j]? = some (.cells cs) := by
    rw [List.getElem?_append_left (by omega), List.getElem?_set_ne hij]; exact hj
  have hβ : β1 j = β j := by
    rcases X1.to j _ _ hj hj1 with h | ⟨_, _, h⟩
    · cases h
    · exact h
  obtain ⟨s2, X2⟩ := s1.modify (β' := β1) (w' := w) (x' := .cells (cs.set o (.gr H.length n))) hj1 (fun _ _ => rfl) (.inr ⟨_, rfl, rfl⟩) s1.env (fun _ _ _ => rfl) (fun b e => .inl (by unfold blkOf; rw [hj1]; exact e)) (fun X => by
    refine ⟨b, c', t, hβ.trans h1, h2, by rw [List.length_set]; exact h3, fun y hy => ?_, us, fun i y e => ?_, fun i y e => ?_⟩
    · rcases List.mem_or_eq_of_mem_set hy with hy | rfl
      · exact h4 y hy
      · rfl
    · by_cases hio : o = i
      · subst hio; exact h5 o _ hc
      · rw [List.getElem?_set_ne hio] at e; exact h5 i y e
    · by_cases hio : o = i
      · subst hio
        rw [List.getElem?_set_self hlo] at e; cases e
        exact X.rep hr
      · rw [List.getElem?_set_ne hio] at e; exact X.rep (X1.rep (h6 i y e)))
  rw [List.set_append_left _ _ (by omega)] at s2 X2
  exact wpIn_mono (x.o E h _ a w ⟨s2, fun u r e => let ⟨v, h1, h2⟩ := s.fits u r e; ⟨v, h1, (X1.trans X2).rep h2⟩, s.size, s.df.ext (X1.trans X2)⟩) fun _ _ _ => Conc.ext (X1.trans X2)
end
end GA
end

section
namespace GA
open Go Go.RowKit Go.Proofs
set_option pp.deepTerms true
set_option maxRecDepth 8000
set_option linter.unusedVariables false
set_option linter.unusedSimpArgs false

def bedG (b : Bd) (i n : Nat) : List AV := [.int .i64 b.room, .int .i64 b.first, .int .i64 b.unsure, .sl b.nlm (b.months.map moA), .gr i n]
end GA
end

section
namespace GA
open Go Go.RowKit Go.Proofs
set_option maxRecDepth 8000
set_option linter.unusedVariables false
set_option linter.unusedSimpArgs false

def addS (b : Bd) (m : Nat) (n : Nat) : Bd := { b with nls := false, surveys := b.surveys ++ [⟨m, n, n⟩] }
theorem addS_ok {b : Bd} (ok : BedOk b) (m n : Nat) : BedOk (addS b m n) := ⟨ok.r1, ok.r2, ok.m1, ok.m2, ok.f1, ok.f2, ok.u1, ok.u2, ok.mo⟩
def cr (b : Bd) : Nat → Nat
  | 0 => ((List.range 121).find? (cnB b alwP 0)).getD 0
  | m + 1 => ((lvL b m (cr b m)).find? (cnB b alwP (m + 1))).getD 0
theorem find_ex {α : Type} {f : α → Bool} {l : List α} {x d : α} (hx : x ∈ l) (hf : f x = true) : (l.find? f).getD d ∈ l ∧ f ((l.find? f).getD d) = true := by
  cases h : l.find? f with
  | none => exact absurd hf (List.find?_eq_none.1 h x hx)
  | some y => exact ⟨List.mem_of_find?_eq_some h, List.find?_some h⟩
theorem cr_cn {b : Bd} (ok : BedOk b) (h : noneB b alwP = false) : ∀ m, m ≤ b.months.length → cnB b alwP m (cr b m) = true
  | 0, _ => by
    obtain ⟨n, h1, h2⟩ := cn_some ok h 0 (Nat.zero_le _)
    exact (find_ex (List.mem_range.2 h1) h2).2
  | m + 1, hm => by
    obtain ⟨k, h1, h2⟩ := cn_next ok (by omega) (cr_cn ok h m (by omega))
    exact (find_ex h1 h2).2
theorem cr_nx {b : Bd} (ok : BedOk b) (h : noneB b alwP = false) {m : Nat} (hm : m < b.months.length) : cr b (m + 1) ∈ lvL b m (cr b m) := by
  obtain ⟨k, h1, h2⟩ := cn_next ok hm (cr_cn ok h m (by omega))
  exact (find_ex h1 h2).1
def crL (b : Bd) (k : Nat) : List Int := vecF k fun m => (cr b m : Int)
end GA
end

section
namespace GA
open Go Go.RowKit Go.Proofs
set_option pp.deepTerms true
set_option maxRecDepth 8000
set_option linter.unusedVariables false
set_option linter.unusedSimpArgs false

theorem amList_g (F : Nat → Bool) : Gives Try.prog 144 [amA F] (.gr 0 (lstF F 121).length) [.grow 3 (lstF F 121).isEmpty (ints (lstF F 121))] := by
  refine Gives.body (T := tab) (res := [.tmp 2]) tab_ok [] Try.func144 rfl (by kernel_rfl) Try.ntmps144 rfl (by simp only [List.length_cons, List.length_nil]; decide) (by simp only [lowL, amL]; rfl) rfl (fun x hx => by simp only [List.mem_cons, List.not_mem_nil, or_false] at hx; subst hx; exact lowI _) ?_; conv => whnf
  repeat' first | ((refine xtk_vec rfl ?_); conv => whnf) | fail
  refine Walk.nilgr 3 3 rfl ?_
  refine Walk.loopK tab_ok [] [(2, _), (6, _)] ⟨rfl, rfl, trivial⟩ (fun n : Nat => n ≤ 121) (fun n => [(3, .gr 0 (lstF F n).length), (7, natA n)]) (fun n => [.grow 3 (lstF F n).isEmpty (ints (lstF F n))]) (fun n => 121 - n) 0 (Nat.zero_le _) rfl ⟨rfl, rfl, trivial⟩ ?_
  intro n hn
  have hs := lstF_succ F n
  have hl := lstF_len F n
  have hl2 : (ints (lstF F n)).length = (lstF F n).length := ints_len _
  generalize hc : F n = s at hs
  conv => whnf
  repeat' first | ((with_reducible apply XBr.dec) <;> (intro h; first | (exfalso; omega) | ((try simp only [List.length_map] at h); first | (exfalso; omega) | (conv => whnf)))) | ((with_reducible refine XInt.i64 (by omega) (by omega) ?_); conv => whnf) | ((with_reducible refine XHold.mk ?_ ?_); (first | omega | rfl | decide | exact ⟨rfl, by decide, rfl⟩ | exact wideI _ | exact widePr _ | exact wideSk _ | (unfold Room; constructor <;> ((try simp) <;> omega)) | exact ⟨rfl, by simp only [List.length_map], by unfold Room; constructor <;> ((try simp) <;> omega)⟩ | exact ⟨by omega, by omega, by unfold Room; constructor <;> ((try simp) <;> omega)⟩); conv => whnf) | (((refine xdrop_vec n (by omega) (by omega) ?_); rw [hc]); conv => whnf) | ((with_reducible apply XBr.mk') <;> (intro h; conv => whnf)) | fail
  all_goals try subst h
  · rw [if_pos rfl] at hs
    refine XAgain.go (n + 1) (by omega) (by omega) ?_ ⟨rfl, rfl, ?_, rfl, trivial⟩
    · rw [hs]
      show [Blk.grow _ (lstF F n ++ [(n : Int)]).isEmpty ((lstF F n ++ [(n : Int)]).map (AV.int .i64))] = _
      rw [isEmpty_app, List.map_append]; rfl
    · show some (AV.gr 0 ((lstF F n).length + 1)) = _
      rw [hs, List.length_append]; rfl
  · rw [if_neg (by simp)] at hs
    exact XAgain.go (n + 1) (by omega) (by omega) (by rw [hs]) ⟨rfl, rfl, by rw [hs]; rfl, rfl, trivial⟩
  · obtain rfl : n = 121 := by omega
    exact XGive.mk' [0] rfl (by decide) ⟨congrArg some (ren_grow _ _ _ _).symm, trivial⟩ rfl
theorem XCall.amList {F : Nat → Bool} {H : List Blk} {k : AV → List Blk → Prop} (hk : k (.gr H.length (lstF F 121).length) (H ++ [.grow 3 (lstF F 121).isEmpty (ints (lstF F 121))])) : XCall Try.prog 144 [amA F] H k := by
  refine XCall.give (amList_g F) ?_
  rw [List.map_cons, ren_grow, List.map_nil]; exact hk
def esT (g : Nat) (b : Bd) : Nat → List (Int × AV)
  | 0 => []
  | j + 1 => mput (b.surveys.getD j default).m (.gr (g + (b.surveys.getD j default).m.toNat) (rowS b (j + 1) (b.surveys.getD j default).m.toNat).length) (esT g b j)
theorem esT_get (g : Nat) (b : Bd) (hm : ∀ s ∈ b.surveys, 0 ≤ s.m) : ∀ j, j ≤ b.surveys.length → ∀ k : Nat, mget (k : Int) (esT g b j) = if (rowS b j k).isEmpty = true then none else some (.gr (g + k) (rowS b j k).length)
  | 0, _, k => rfl
  | j + 1, hj, k => by
    have h0 := hm _ (getD_mem (xs := b.surveys) (i := j) (d := default) (by omega))
    show mget (k : Int) (mput _ _ (esT g b j)) = _
    rw [mget_mput, esT_get g b hm j (by omega) k]
    have hr := rowS_next b j k
    generalize hmm : (b.surveys.getD j default).m = m at h0 hr
    by_cases h : (k : Int) = m
    · have e : m.toNat = k := by omega
      rw [if_pos h, e, hr, if_pos h.symm, if_neg (by simp)]
    · rw [if_neg (fun e => h e.symm)] at hr
      rw [if_neg h, hr]
theorem esT_low (g : Nat) (b : Bd) (hm : ∀ s ∈ b.surveys, 0 ≤ s.m ∧ s.m ≤ 10) : ∀ j, j ≤ b.surveys.length → lowL (g + 11) ((esT g b j).map (·.2)) = true
  | 0, _ => rfl
  | j + 1, hj => by
    have h0 := hm _ (getD_mem (xs := b.surveys) (i := j) (d := default) (by omega))
    refine mput_low _ _ ?_ _ (esT_low g b hm j (by omega))
    simp only [AV.low, decide_eq_true_eq]; omega
theorem mput_keyC (q : Int) (v u : AV) : ∀ {es es' : List (Int × AV)}, es.map (·.1) = es'.map (·.1) → (mput q v es).map (·.1) = (mput q u es').map (·.1)
  | [], [], _ => rfl
  | [], _ :: _, h => by cases h
  | _ :: _, [], h => by cases h
  | (m, x) :: l, (m', x') :: l', h => by
    have h1 : m = m' := (List.cons.inj h).1
    have h2 : l.map (·.1) = l'.map (·.1) := (List.cons.inj h).2
    subst h1
    show ((if m = q then (m, v) :: l else (m, x) :: mput q v l).map (·.1)) = ((if m = q then (m, u) :: l' else (m, x') :: mput q u l').map (·.1))
    split
    · exact congrArg (List.cons m) h2
    · exact congrArg (List.cons m) (mput_keyC q v u h2)
theorem esT_keys (g : Nat) (b : Bd) : ∀ j, (esT g b j).map (·.1) = (esS b j).map (·.1)
  | 0 => rfl
  | j + 1 => mput_keyC _ _ _ (esT_keys g b j)
theorem esT_vals (g : Nat) (b : Bd) (hm : ∀ s ∈ b.surveys, 0 ≤ s.m ∧ s.m ≤ 10) : ∀ j, j ≤ b.surveys.length → ∀ p ∈ esT g b j, 0 ≤ p.1 ∧ p.1 ≤ 10 ∧ p.2 = .gr (g + p.1.toNat) (rowS b j p.1.toNat).length
  | 0, _, p, hp => by cases hp
  | j + 1, hj, p, hp => by
    have h0 := hm _ (getD_mem (xs := b.surveys) (i := j) (d := default) (by omega))
    have hnd : ((esT g b j).map (·.1)).Nodup := by rw [esT_keys]; exact esS_nd b j
    rcases mput_mem hnd p hp with rfl | ⟨h1, h2⟩
    · exact ⟨h0.1, h0.2, rfl⟩
    · obtain ⟨h3, h4, h5⟩ := esT_vals g b hm j (by omega) p h1
      refine ⟨h3, h4, ?_⟩
      rw [h5, rowS_next, if_neg (by omega)]
theorem addS_k {b : Bd} (ok : BdOk b) {m n : Nat} (hm : m ≤ b.months.length) (hn : (n : Int) ≤ b.room) : BdK (addS b m n) := by
  refine ⟨addS_ok ok.toBedOk m n, ?_, fun s hs => ?_⟩
  · show (b.surveys ++ [_]).length ≤ 9
    rw [List.length_append]; have := ok.s1; simp; omega
  · have hs' : s ∈ b.surveys ++ [⟨m, n, n⟩] := hs
    rw [List.mem_append, List.mem_singleton] at hs'
    rcases hs' with h | rfl
    · exact ok.su s h
    · show (0 : Int) ≤ m ∧ (m : Int) ≤ (b.months.length : Int) ∧ (0 : Int) ≤ n ∧ (n : Int) ≤ n ∧ (n : Int) ≤ b.room
      omega
def courseA (b : Bd) (month amount : Int) : AV :=
  if bedE b ≠ 0 then .tup [.sl true [], .int .i64 (bedE b)]
  else if inZ month 0 b.months.length = false then .tup [.sl true [], .int .i64 1]
  else if inZ amount 0 b.room = false then .tup [.sl true [], .int .i64 3]
  else if noneB (addS b month.toNat amount.toNat) alwP = true then .tup [.sl true [], .int .i64 6]
  else .tup [.sl false (ints (crL (addS b month.toNat amount.toNat) (b.months.length + 1))), .int .i64 0]
end GA
end

section
namespace GA
open Go Go.RowKit Go.Proofs
set_option pp.deepTerms true
set_option maxRecDepth 8000
set_option linter.unusedVariables false
set_option linter.unusedSimpArgs false

theorem counts_c (b : Bd) (v : Bool) (hs : b.surveys.length ≤ 100000) : Comp Try.prog 134 [bedA b, .bool v] (.sl false (bls b.surveys.length fun _ => v)) := by
  have e1 : ((b.surveys.map suA).length : Int) = b.surveys.length := by rw [List.length_map]
  have e3 : (((b.surveys.map suA).length : Int)).toNat = b.surveys.length := by rw [e1, Int.toNat_natCast]
  refine Comp.body (T := tab) (res := [.tmp 4]) tab_ok [] Try.func134 rfl (by kernel_rfl) Try.ntmps134 rfl (by simp only [List.length_cons, List.length_nil]; decide) (by simp only [lowL, bedL, AV.low]; rfl) ?_; conv => whnf
  repeat' first | ((with_reducible refine XHold.mk ?_ ?_); (first | omega | rfl | decide | exact ⟨rfl, by decide, rfl⟩ | exact wideI _ | exact widePr _ | exact wideSk _ | (unfold Room; constructor <;> ((try simp) <;> omega)) | exact ⟨rfl, by simp only [List.length_map], by unfold Room; constructor <;> ((try simp) <;> omega)⟩ | exact ⟨by omega, by omega, by unfold Room; constructor <;> ((try simp) <;> omega)⟩); conv => whnf) | fail
  refine Walk.loopK tab_ok [] [(1, _), (4, _), (5, .gr 0 b.surveys.length)] ⟨rfl, rfl, by rw [← e3]; rfl, trivial⟩ (fun k : Nat => k ≤ b.surveys.length) (fun k => [(6, natA k)]) (fun k => [.grow 4 false (bls b.surveys.length fun i => decide (i < k) && v)]) (fun k => b.surveys.length - k) 0 (Nat.zero_le _) ?_ ⟨rfl, trivial⟩ ?_
  · show [Blk.grow _ false (bls _ _)] = [Blk.grow _ false (List.replicate _ _)]
    rw [e3, bls0]
    refine congrArg (fun z => [Blk.grow _ false z]) (congrArg (List.map AV.bool) (vecF_congr fun i hi => ?_))
    rw [decide_eq_false (by omega)]; rfl
  intro k hk
  have hin := fun (i : Nat) => show updV (fun i : Nat => decide (i < k) && v) k v i = (decide (i < k + 1) && v) by
    unfold updV
    split
    · rename_i e; subst e; rw [decide_eq_true (by omega)]; rfl
    · rw [show decide (i < k + 1) = decide (i < k) by rw [decide_eq_decide]; omega]
  conv => whnf
  by_cases hlt : k < b.surveys.length
  · skip
    repeat' first | ((with_reducible apply XBr.dec) <;> (intro h; first | (exfalso; omega) | ((try simp only [List.length_map] at h); first | (exfalso; omega) | (conv => whnf)))) | ((first | (with_reducible refine XInt.i64 (by omega) (by omega) ?_) | (refine XHold.mk (bls_len _ _) ?_) | (refine XHold.mk ⟨bls_len _ _, rfl, by omega, by omega⟩ ?_) | (refine XPut.bls k (by omega) rfl (by omega) ?_)); conv => whnf) | fail
    exact XAgain.go (k + 1) (by omega) (by omega) (congrArg (fun z => [Blk.grow _ false z]) (congrArg (List.map AV.bool) (vecF_congr fun i hi => (hin i).symm))) ⟨rfl, rfl, rfl, rfl, trivial⟩
  · obtain rfl : k = b.surveys.length := by omega
    repeat' first | ((with_reducible apply XBr.dec) <;> (intro h; first | (exfalso; omega) | ((try simp only [List.length_map] at h); first | (exfalso; omega) | (conv => whnf)))) | ((refine XHold.mk (bls_len _ _) ?_); conv => whnf) | fail
    have hv : bls b.surveys.length (fun _ => v) = bls b.surveys.length fun i => decide (i < b.surveys.length) && v := congrArg (List.map AV.bool) (vecF_congr fun i hi => by rw [decide_eq_true hi]; rfl)
    rw [hv]
    exact ⟨Froz.grow rfl (bls_len _ _) (bls_low _ _)⟩
theorem refAgrees1_c (b : Bd) (nl : Bool) (p : Nat → Bool) (m n : Nat) (hs : b.surveys.length ≤ 100000) : Comp Try.prog 133 [bedA b, .sl nl (bls b.surveys.length p), natA m, natA n] (.bool (agB b p m n)) := by
  have e1 : ((b.surveys.map suA).length : Int) = b.surveys.length := by rw [List.length_map]
  refine Comp.body (T := tab) (res := [.tmp 8]) tab_ok [] Try.func133 rfl (by kernel_rfl) Try.ntmps133 rfl (by simp only [List.length_cons, List.length_nil]; decide) (by simp only [lowL, bedL, AV.low, bls_low]; rfl) ?_; conv => whnf
  skip
  refine Walk.loopGK tab_ok [] [(1, _), (2, _), (3, _), (4, _)] ⟨rfl, rfl, rfl, rfl, trivial⟩ (fun k : Nat => k ≤ b.surveys.length ∧ ∀ j, j < k → (suB b j).m = m → p j = true → (suB b j).lo ≤ n ∧ (n : Int) ≤ (suB b j).hi) (fun k => [(9, natA k)]) (fun _ => []) (fun k => b.surveys.length - k) 0 ⟨Nat.zero_le _, fun j hj => by omega⟩ rfl ⟨rfl, trivial⟩ ?_ (fun _ _ => Nat.le_refl _) ?_
  · intro k _
    refine ⟨by simp, fun z hz => ?_⟩
    simp only [List.cons_append, List.nil_append, List.mem_cons, List.not_mem_nil, or_false] at hz
    rcases hz with rfl | rfl | rfl | rfl | rfl <;> first | rfl | exact bls_low _ _ | exact lowBd b
  rintro k ⟨hk, hks⟩
  conv => whnf
  by_cases hlt : k < b.surveys.length
  · have hno : (suB b k).m = m → p k = true → ¬ ((suB b k).lo ≤ n ∧ (n : Int) ≤ (suB b k).hi) → agB b p m n = false := fun h1 h2 h3 => by
      cases h : agB b p m n with
      | false => rfl
      | true => exact absurd (agB_iff.1 h k hlt h1 h2) h3
    have hgo : ((suB b k).m = m → p k = true → (suB b k).lo ≤ n ∧ (n : Int) ≤ (suB b k).hi) → ∀ j, j < k + 1 → (suB b j).m = m → p j = true → (suB b j).lo ≤ n ∧ (n : Int) ≤ (suB b j).hi := fun h => upto_next hks h
    have hsu : b.surveys.getD k default = suB b k := rfl
    have hof := off04_c n (suB b k).lo (suB b k).hi
    have hi := inZ_iff (n := n) (lo := (suB b k).lo) (hi := (suB b k).hi)
    generalize inZ (n : Int) (suB b k).lo (suB b k).hi = r at hof hi
    generalize hp : p k = q at hno hgo
    cases q <;> cases r
    all_goals
      repeat' first | ((with_reducible apply XBr.dec) <;> (intro h; first | (exfalso; omega) | ((try simp only [List.length_map] at h); first | (exfalso; omega) | (conv => whnf)))) | (((with_reducible refine XIx.nat ?_ ?_ ?_); omega; (intro _; rfl)); conv => whnf) | fail
      refine Walk.norm tab_ok [] [(1, _), (2, _), (3, _), (4, _), (9, _), (10, _)] ⟨rfl, rfl, rfl, rfl, rfl, rfl, trivial⟩ ?_
      conv => whnf
      repeat' first | ((first | (with_reducible apply XBr.tt) | (with_reducible apply XBr.ff)); conv => whnf) | (with_reducible apply XBr.not) | ((with_reducible apply XBr.beq) <;> (intro h; first | (exfalso; omega) | (conv => whnf))) | ((first | (with_reducible refine XInt.i64 (by omega) (by omega) ?_) | ((refine XIx.bls k rfl (by omega) ?_); rw [hp]) | (refine XCall.ret hof ?_)); conv => whnf) | fail
      all_goals first | (rw [hno h rfl (fun h' => by have := hi.2 h'; cases this)]; exact ⟨.low rfl⟩) | (refine XAgainG.go (k + 1) [.cells (suA (suB b k)).cells] ⟨by omega, hgo fun h1 h2 => ?_⟩ (by omega) rfl ⟨rfl, rfl, rfl, rfl, rfl, trivial⟩; first | exact absurd h2 (by decide) | exact hi.1 rfl | exact absurd h1 h)
  · obtain rfl : k = b.surveys.length := by omega
    repeat' first | ((with_reducible apply XBr.dec) <;> (intro h; first | (exfalso; omega) | ((try simp only [List.length_map] at h); first | (exfalso; omega) | (conv => whnf)))) | fail
    rw [agB_iff.2 hks]; exact ⟨.low rfl⟩
end GA
end

section
namespace GA
open Go Go.RowKit Go.Proofs
set_option pp.deepTerms true
set_option maxRecDepth 8000
set_option linter.unusedVariables false
set_option linter.unusedSimpArgs false

theorem mnP_at {F : Nat → Int} {lo : Nat} : ∀ c, lo < c → (∀ q, lo ≤ q → q < c → 0 ≤ F q) → ∃ q, lo ≤ q ∧ q < c ∧ mnP F lo c = F q
  | 0, h, _ => by omega
  | c + 1, h, hF => by
    rw [mnP_succ (by omega)]
    unfold mnS
    split
    · exact ⟨c, by omega, by omega, rfl⟩
    · rename_i hn
      by_cases hlo : lo = c
      · subst hlo
        rw [mnP_nil] at hn; omega
      · obtain ⟨q, h1, h2, h3⟩ := mnP_at c (by omega) fun q a b => hF q a (by omega)
        exact ⟨q, h1, by omega, h3⟩
def valC (b : Bd) (l : List Int) (m k n : Nat) (x y : Int) : Int := rkR b l m n + smF b l k (grC b m n x y - rkR b l m n).toNat
structure MI (b : Bd) (l : List Int) (m k n : Nat) (D : Int → Int → Prop) (first : Bool) (v : Int) : Prop where
  a : first = true → ∀ x y, InC b m x y → ¬ D x y
  c : first = false → (∀ x y, InC b m x y → D x y → v ≤ valC b l m k n x y) ∧ ∃ x y, InC b m x y ∧ v = valC b l m k n x y
theorem MI.to {b : Bd} {l : List Int} {m k n : Nat} {D D' : Int → Int → Prop} {first : Bool} {v : Int} (h : MI b l m k n D first v) (hd : ∀ x y, InC b m x y → (D' x y ↔ D x y)) : MI b l m k n D' first v :=
  ⟨fun h1 x y h2 h3 => h.a h1 x y h2 ((hd x y h2).1 h3), fun h1 => ⟨fun x y h2 h3 => (h.c h1).1 x y h2 ((hd x y h2).1 h3), (h.c h1).2⟩⟩
theorem MI.put {b : Bd} {l : List Int} {m k n : Nat} {D D' : Int → Int → Prop} {first : Bool} {v sp st : Int} (h : MI b l m k n D first v) (hin : InC b m sp st) (hd : ∀ x y, InC b m x y → (D' x y ↔ D x y ∨ (x = sp ∧ y = st))) (hv : first = true ∨ valC b l m k n sp st < v) : MI b l m k n D' false (valC b l m k n sp st) := by
  refine ⟨fun h1 => (by cases h1), fun _ => ⟨fun x y h2 h3 => ?_, sp, st, hin, rfl⟩⟩
  rcases (hd x y h2).1 h3 with h4 | ⟨rfl, rfl⟩
  · cases first with
    | true => exact absurd h4 (h.a rfl x y h2)
    | false =>
      have := (h.c rfl).1 x y h2 h4
      rcases hv with hv | hv
      · cases hv
      · omega
  · exact Int.le_refl _
theorem MI.skip {b : Bd} {l : List Int} {m k n : Nat} {D D' : Int → Int → Prop} {v sp st : Int} (h : MI b l m k n D false v) (hd : ∀ x y, InC b m x y → (D' x y ↔ D x y ∨ (x = sp ∧ y = st))) (hv : ¬ valC b l m k n sp st < v) : MI b l m k n D' false v := by
  refine ⟨fun h1 => (by cases h1), fun _ => ⟨fun x y h2 h3 => ?_, (h.c rfl).2⟩⟩
  rcases (hd x y h2).1 h3 with h4 | ⟨rfl, rfl⟩
  · exact (h.c rfl).1 x y h2 h4
  · omega
theorem MI.all {b : Bd} (ok : BedOk b) {l : List Int} (hl : ∀ j, j ≤ b.months.length → 0 ≤ l.getD j default ∧ l.getD j default ≤ b.room) {m k n : Nat} (hm : b.months.length = m + (k + 1)) (hn : l.getD m default ≤ n) (hr : (n : Int) ≤ b.room) {D : Int → Int → Prop} {first : Bool} {v : Int} (h : MI b l m k n D first v) (hd : ∀ x y, InC b m x y → D x y) : v = smF b l (k + 1) n := by
  have hmM : m < b.months.length := by omega
  have hin := inC_worst ok hmM
  cases first with
  | true => exact absurd (hd _ _ hin) (h.a rfl _ _ hin)
  | false =>
    obtain ⟨h1, x0, y0, h2, h3⟩ := h.c rfl
    have hmo := ok.mo' hmM
    have hsb := smF_b ok hl k (by omega)
    have hrk := rkR_b ok hl (n := n) hmM
    have hgb := gbR_b ok (n := n) hmM
    have hgx := fun x y (q : InC b m x y) => grC_b ok hmM (n := n) q
    have hhi : hiR b m n + (moB b m).r = gbR b m n := by unfold hiR gbR; omega
    have hb := mnP_b (F := smF b l k) (B := 120 * (k : Int)) (by omega) (lo := (lieR b m n - rkR b l m n).toNat) (gbR b m n - rkR b l m n + 1).toNat (by omega) fun q _ _ => hsb q
    obtain ⟨q0, q1, q2, q3⟩ := mnP_at (F := smF b l k) (lo := (lieR b m n - rkR b l m n).toNat) (gbR b m n - rkR b l m n + 1).toNat (by omega) fun q _ _ => (hsb q).1
    rw [smF, show b.months.length - (k + 1) = m by omega, if_pos ⟨hn, hr⟩]
    have hx0 := hgx x0 y0 h2
    have e1 := hb.2.2.2 (grC b m n x0 y0 - rkR b l m n).toNat (by omega) (by omega)
    obtain ⟨x, y, p1, p2, p3, p4, p5⟩ := boxR (room := b.room) (g := (moB b m).g) (a := n) (v := q0 + rkR b l m n) (show (moB b m).pl ≤ (moB b m).ph by omega) (show (moB b m).tl ≤ (moB b m).th by omega) (by show lieR b m n ≤ _; omega) (by show _ ≤ gbR b m n; omega)
    have e2 := h1 x y ⟨p1, p2, p3, p4⟩ (hd x y ⟨p1, p2, p3, p4⟩)
    have e3 : grC b m n x y = q0 + rkR b l m n := p5
    unfold valC at e2 h3
    rw [e3, show ((q0 : Int) + rkR b l m n - rkR b l m n).toNat = q0 by omega] at e2
    omega
theorem XGet.vecV {W : Nat} {R : Nat → AV} {n e : Nat} {k : List AV → Prop} (j : Nat) (he : e = j) (h1 : n = W) (h2 : j < W) (h : k (R j).cells) : XGet (vecF W R) n e k := by
  subst he; subst h1
  exact ⟨(vecF_len _ _).symm, h2, by rw [vecF_get _ h2]; exact h⟩
theorem XPut.vecV {W : Nat} {R : Nat → AV} {n e : Nat} {v : AV} {k : List AV → Prop} (j : Nat) (he : e = j) (h1 : n = W) (h2 : j < W) (h : k (vecF W (updV R j v))) : XPut (vecF W R) n e v k := by
  subst he; subst h1
  exact ⟨(vecF_len _ _).symm, h2, by rw [vecF_set]; exact h⟩
end GA
end

section
namespace GA
open Go Go.RowKit Go.Proofs
set_option pp.deepTerms true
set_option maxRecDepth 8000
set_option linter.unusedVariables false
set_option linter.unusedSimpArgs false

theorem XIx.vecV {W : Nat} {F : Nat → AV} {n : Int} {k : AV → Prop} (i : Nat) (hn : n = i) (h2 : i < W) (h1 : (F i).cells = [F i]) (h : k (.pim [F i])) : XIx (vecF W F) n 1 k := by
  subst hn
  have e : nth (vecF W F) (i : Int) = F i := by
    unfold nth
    rw [Int.toNat_natCast]; exact vecF_get _ h2
  refine ⟨by omega, by rw [vecF_len]; omega, by rw [e, h1]; rfl, ?_⟩
  rw [e, h1]; exact h
end GA
end
