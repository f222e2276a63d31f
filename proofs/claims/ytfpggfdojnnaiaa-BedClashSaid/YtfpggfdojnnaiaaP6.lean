/- Part 6 of a proof: D32, D33, D34, D35, D38, D41, Abs38, D36, D13, D45, D46, D37. -/
import Derived.Test.YtfpggfdojnnaiaaP5
section
namespace GA
open Go Go.RowKit Go.Proofs
set_option pp.deepTerms true
set_option maxRecDepth 8000
set_option linter.unusedVariables false
set_option linter.unusedSimpArgs false

theorem bedE_1 {b : Bd} (h : inZ b.room 1 120 = false) : bedE b = 3 := by unfold bedE; rw [if_pos h]
theorem bedE_2 {b : Bd} (h : inZ b.room 1 120 = true) (h2 : inZ b.months.length 1 10 = false ∨ (8 : Int) < b.surveys.length) : bedE b = 2 := by unfold bedE; rw [if_neg (by rw [h]; simp), if_pos h2]
theorem bedE_3 {b : Bd} (h : inZ b.room 1 120 = true) (h2 : ¬ (inZ b.months.length 1 10 = false ∨ (8 : Int) < b.surveys.length)) (h3 : inZ b.first 0 b.room = false ∨ inZ b.unsure 0 40 = false ∨ b.months.all (moR b) = false) : bedE b = 3 := by unfold bedE; rw [if_neg (by rw [h]; simp), if_neg h2, if_pos h3]
theorem bedE_4 {b : Bd} (h : inZ b.room 1 120 = true) (h2 : ¬ (inZ b.months.length 1 10 = false ∨ (8 : Int) < b.surveys.length)) (h3 : ¬ (inZ b.first 0 b.room = false ∨ inZ b.unsure 0 40 = false ∨ b.months.all (moR b) = false)) (h4 : b.surveys.all (suR1 b) = false) : bedE b = 3 := by unfold bedE; rw [if_neg (by rw [h]; simp), if_neg h2, if_neg h3, if_pos h4]
theorem bedE_5 {b : Bd} (h : inZ b.room 1 120 = true) (h2 : ¬ (inZ b.months.length 1 10 = false ∨ (8 : Int) < b.surveys.length)) (h3 : ¬ (inZ b.first 0 b.room = false ∨ inZ b.unsure 0 40 = false ∨ b.months.all (moR b) = false)) (h4 : b.surveys.all (suR1 b) = true) (h5 : b.surveys.all (suR2 b) = false) : bedE b = 1 := by unfold bedE; rw [if_neg (by rw [h]; simp), if_neg h2, if_neg h3, if_neg (by rw [h4]; simp), if_pos h5]
theorem bedE_6 {b : Bd} (h : inZ b.room 1 120 = true) (h2 : ¬ (inZ b.months.length 1 10 = false ∨ (8 : Int) < b.surveys.length)) (h3 : ¬ (inZ b.first 0 b.room = false ∨ inZ b.unsure 0 40 = false ∨ b.months.all (moR b) = false)) (h4 : b.surveys.all (suR1 b) = true) (h5 : b.surveys.all (suR2 b) = true) : bedE b = 0 := by unfold bedE; rw [if_neg (by rw [h]; simp), if_neg h2, if_neg h3, if_neg (by rw [h4]; simp), if_neg (by rw [h5]; simp)]
theorem allG_false {α : Type} {p : α → Bool} {xs : List α} {d : α} {i : Nat} (hi : i < xs.length) (h : p (xs.getD i d) = false) : xs.all p = false := by
  rw [List.all_eq_false]; exact ⟨_, getD_mem hi, by rw [h]; simp⟩
theorem allG_true {α : Type} {p : α → Bool} {xs : List α} {d : α} (h : ∀ j, j < xs.length → p (xs.getD j d) = true) : xs.all p = true := by
  rw [List.all_eq_true]; intro x hx
  obtain ⟨j, hj, rfl⟩ := List.mem_iff_getElem.1 hx
  have := h j hj
  rwa [List.getD_eq_getElem?_getD, List.getElem?_eq_getElem hj] at this
theorem upto_next {P : Nat → Prop} {k : Nat} (h : ∀ j, j < k → P j) (hk : P k) : ∀ j, j < k + 1 → P j := fun j hj => by
  by_cases e : j = k
  · exact e ▸ hk
  · exact h j (by omega)
theorem refCheck04_c (b : Bd) (h1 : b.months.length ≤ 100000) (h2 : b.surveys.length ≤ 100000) : Comp Try.prog 36 [bedA b] (.int .i64 (bedE b)) := by
  have e1 : ((b.months.map moA).length : Int) = b.months.length := by rw [List.length_map]
  have e2 : ((b.surveys.map suA).length : Int) = b.surveys.length := by rw [List.length_map]
  refine Comp.body (T := tab) (res := [.tmp 2]) tab_ok [] Try.func36 rfl (by kernel_rfl) Try.ntmps36 rfl (by simp only [List.length_cons, List.length_nil]; decide) (by simp only [lowL, bedL]; rfl) ?_; conv => whnf
  cases hA : inZ b.room 1 120
  · skip
    repeat' first | ((with_reducible apply XBr.ff); conv => whnf) | (with_reducible apply XBr.not) | (((refine XCall.ret (off04_c _ _ _) ?_); rw [hA]); conv => whnf) | fail
    exact XOut.int (bedE_1 hA).symm
  repeat' first | ((with_reducible apply XBr.tt); conv => whnf) | (with_reducible apply XBr.not) | (((refine XCall.ret (off04_c _ _ _) ?_); rw [hA]); conv => whnf) | fail
  by_cases hB : inZ b.months.length 1 10 = false ∨ (8 : Int) < b.surveys.length
  · skip
    repeat' first | ((first | (with_reducible apply XBr.tt) | (with_reducible apply XBr.ff)); conv => whnf) | (with_reducible apply XBr.not) | ((with_reducible apply XBr.dec) <;> (intro h; first | (exfalso; omega) | ((try simp only [List.length_map] at h); first | (exfalso; omega) | (conv => whnf)))) | ((refine XCall.ret (off04_c _ _ _) ?_); conv => whnf) | ((with_reducible apply XBr.mk') <;> (intro h; conv => whnf)) | fail
    all_goals first | exact XOut.int (bedE_2 hA hB).symm | skip
    all_goals (exfalso; simp [e1] at *; rcases hB with hB | hB <;> first | omega | (simp_all; done))
  have hB1 : inZ ((b.months.map moA).length : Int) 1 10 = true := by rw [e1]; cases h : inZ b.months.length 1 10 with | true => rfl | false => exact absurd (.inl h) hB
  have hB2 : ¬ (8 : Int) < b.surveys.length := fun h => hB (.inr h)
  repeat' first | ((first | (with_reducible apply XBr.tt) | (with_reducible apply XBr.ff)); conv => whnf) | (with_reducible apply XBr.not) | ((with_reducible apply XBr.dec) <;> (intro h; first | (exfalso; omega) | ((try simp only [List.length_map] at h); first | (exfalso; omega) | (conv => whnf)))) | (((refine XCall.ret (off04_c _ _ _) ?_); rw [hB1]); conv => whnf) | fail
  cases hC1 : inZ b.first 0 b.room
  · skip
    repeat' first | ((first | (with_reducible apply XBr.tt) | (with_reducible apply XBr.ff)); conv => whnf) | (with_reducible apply XBr.not) | (((refine XCall.ret (off04_c _ _ _) ?_); rw [hC1]); conv => whnf) | fail
    exact XOut.int (bedE_3 hA hB (.inl hC1)).symm
  cases hC2 : inZ b.unsure 0 40
  · skip
    repeat' first | ((first | (with_reducible apply XBr.tt) | (with_reducible apply XBr.ff)); conv => whnf) | (with_reducible apply XBr.not) | (((refine XCall.ret (off04_c _ _ _) ?_); (first | rw [hC1] | rw [hC2])); conv => whnf) | fail
    exact XOut.int (bedE_3 hA hB (.inr (.inl hC2))).symm
  repeat' first | ((first | (with_reducible apply XBr.tt) | (with_reducible apply XBr.ff)); conv => whnf) | (with_reducible apply XBr.not) | (((refine XCall.ret (off04_c _ _ _) ?_); (first | rw [hC1] | rw [hC2])); conv => whnf) | fail
  refine Walk.loopGK tab_ok [] [(1, _)] ⟨rfl, trivial⟩ (fun k : Nat => k ≤ b.months.length ∧ ∀ j, j < k → moR b (b.months.getD j default) = true) (fun k => [(3, natA k)]) (fun _ => []) (fun k => b.months.length - k) 0 ⟨Nat.zero_le _, fun j hj => by omega⟩ rfl ⟨rfl, trivial⟩ ?_ (fun _ _ => Nat.le_refl _) ?_
  · intro k _
    refine ⟨by simp, fun z hz => ?_⟩
    simp only [List.cons_append, List.nil_append, List.mem_cons, List.not_mem_nil, or_false] at hz
    rcases hz with rfl | rfl <;> first | rfl | exact lowBd b
  rintro k ⟨hk, hks⟩
  conv => whnf
  by_cases hlt : k < b.months.length
  · have hC3 : ∀ h : moR b (b.months.getD k default) = false, bedE b = 3 := fun h => bedE_3 hA hB (.inr (.inr (allG_false hlt h)))
    have hmr : moR b (b.months.getD k default) = (inZ (b.months.getD k default).g 0 100 && inZ (b.months.getD k default).r 0 b.room && withinB (b.months.getD k default).pl (b.months.getD k default).ph 0 60 && withinB (b.months.getD k default).tl (b.months.getD k default).th 0 60) := rfl
    rw [hmr] at hC3
    have hgo : (inZ (b.months.getD k default).g 0 100 && inZ (b.months.getD k default).r 0 b.room && withinB (b.months.getD k default).pl (b.months.getD k default).ph 0 60 && withinB (b.months.getD k default).tl (b.months.getD k default).th 0 60) = true → ∀ j, j < k + 1 → moR b (b.months.getD j default) = true := fun h => upto_next hks (by rw [hmr]; exact h)
    clear hmr
    repeat' first | ((first | (with_reducible apply XBr.tt) | (with_reducible apply XBr.ff)); conv => whnf) | (with_reducible apply XBr.not) | ((with_reducible apply XBr.dec) <;> (intro h; first | (exfalso; omega) | ((try simp only [List.length_map] at h); first | (exfalso; omega) | (conv => whnf)))) | ((first | (with_reducible refine XInt.i64 (by omega) (by omega) ?_) | ((with_reducible refine XIx.nat ?_ ?_ ?_); omega; (intro _; rfl)) | (refine XCall.ret (off04_c _ _ _) ?_) | (refine XCall.ret (bad04_c _ _ _) ?_)); conv => whnf) | ((with_reducible apply XBr.mk') <;> (intro h; conv => whnf)) | fail
    all_goals first | exact XOut.int (hC3 (by simp_all)).symm | exact XAgainG.go (k + 1) [.cells (moC (moB b k))] ⟨by omega, hgo (by simp_all)⟩ (by omega) rfl ⟨rfl, rfl, trivial⟩
  obtain rfl : k = b.months.length := by omega
  have hC : ¬ (inZ b.first 0 b.room = false ∨ inZ b.unsure 0 40 = false ∨ b.months.all (moR b) = false) := by
    rw [hC1, hC2, allG_true (d := default) hks]; simp
  clear hks
  repeat' first | ((with_reducible apply XBr.dec) <;> (intro h; first | (exfalso; omega) | ((try simp only [List.length_map] at h); first | (exfalso; omega) | (conv => whnf)))) | fail
  refine Walk.loopK tab_ok [] [(1, _)] ⟨rfl, trivial⟩ (fun k : Nat => k ≤ b.surveys.length ∧ ∀ j, j < k → suR1 b (b.surveys.getD j default) = true) (fun k => [(5, natA k)]) (fun _ => []) (fun k => b.surveys.length - k) 0 ⟨Nat.zero_le _, fun j hj => by omega⟩ rfl ⟨rfl, trivial⟩ ?_
  rintro k ⟨hk2, hks⟩
  conv => whnf
  by_cases hlt2 : k < b.surveys.length
  · have hD : ∀ h : suR1 b (b.surveys.getD k default) = false, bedE b = 3 := fun h => bedE_4 hA hB hC (allG_false hlt2 h)
    have hgo : suR1 b (b.surveys.getD k default) = true → ∀ j, j < k + 1 → suR1 b (b.surveys.getD j default) = true := fun h => upto_next hks h
    have hs : suR1 b (b.surveys.getD k default) = withinB (b.surveys.getD k default).lo (b.surveys.getD k default).hi 0 b.room := rfl
    rw [hs] at hD hgo
    clear hs
    have hbad := bad04_c (b.surveys.getD k default).lo (b.surveys.getD k default).hi b.room
    generalize withinB (b.surveys.getD k default).lo (b.surveys.getD k default).hi 0 b.room = r at hD hgo hbad
    repeat' first | (with_reducible apply XBr.not) | ((with_reducible apply XBr.dec) <;> (intro h; first | (exfalso; omega) | ((try simp only [List.length_map] at h); first | (exfalso; omega) | (conv => whnf)))) | ((first | (with_reducible refine XInt.i64 (by omega) (by omega) ?_) | ((with_reducible refine XIx.nat ?_ ?_ ?_); omega; (intro _; rfl))); conv => whnf) | (with_reducible apply XAnd.mk) | ((first | (with_reducible apply Chk.go) | (with_reducible apply ChkA.go) | (with_reducible apply ChkF.go) | (with_reducible apply ChkB.go)); conv => whnf) | (exact XSame.mk rfl rfl) | (with_reducible exact trivial) | (apply Walk.drawN (id := 16) tab_ok mixed_ok [] [] (hsU _) [_, _, _, _, _, _, _, _, _] (by kernel_rfl) rfl) | ((first | (with_reducible apply XNext.mk) | (refine XCall.ret hbad ?_)); conv => whnf) | ((with_reducible apply XBr.mk') <;> (intro h; conv => whnf)) | fail
    · exact XAgain.go (k + 1) ⟨by omega, hgo h⟩ (by omega) rfl ⟨rfl, rfl, trivial⟩
    · exact XOut.int (hD h).symm
  obtain rfl : k = b.surveys.length := by omega
  have hD := allG_true (d := default) hks
  clear hks
  repeat' first | ((with_reducible apply XBr.dec) <;> (intro h; first | (exfalso; omega) | ((try simp only [List.length_map] at h); first | (exfalso; omega) | (conv => whnf)))) | fail
  refine Walk.loopK tab_ok [] [(1, _)] ⟨rfl, trivial⟩ (fun k : Nat => k ≤ b.surveys.length ∧ ∀ j, j < k → suR2 b (b.surveys.getD j default) = true) (fun k => [(6, natA k)]) (fun _ => []) (fun k => b.surveys.length - k) 0 ⟨Nat.zero_le _, fun j hj => by omega⟩ rfl ⟨rfl, trivial⟩ ?_
  rintro k ⟨hk3, hks⟩
  conv => whnf
  by_cases hlt3 : k < b.surveys.length
  · have hF : ∀ h : suR2 b (b.surveys.getD k default) = false, bedE b = 1 := fun h => bedE_5 hA hB hC hD (allG_false hlt3 h)
    have hgo : suR2 b (b.surveys.getD k default) = true → ∀ j, j < k + 1 → suR2 b (b.surveys.getD j default) = true := fun h => upto_next hks h
    have hs : suR2 b (b.surveys.getD k default) = inZ (b.surveys.getD k default).m 0 ((b.months.map moA).length : Int) := by rw [e1]; rfl
    rw [hs] at hF hgo
    clear hs
    have hbad := off04_c (b.surveys.getD k default).m 0 ((b.months.map moA).length : Int)
    generalize inZ (b.surveys.getD k default).m 0 ((b.months.map moA).length : Int) = r at hF hgo hbad
    repeat' first | (with_reducible apply XBr.not) | ((with_reducible apply XBr.dec) <;> (intro h; first | (exfalso; omega) | ((try simp only [List.length_map] at h); first | (exfalso; omega) | (conv => whnf)))) | ((first | (with_reducible refine XInt.i64 (by omega) (by omega) ?_) | ((with_reducible refine XIx.nat ?_ ?_ ?_); omega; (intro _; rfl))); conv => whnf) | (with_reducible apply XAnd.mk) | ((first | (with_reducible apply Chk.go) | (with_reducible apply ChkA.go) | (with_reducible apply ChkF.go) | (with_reducible apply ChkB.go)); conv => whnf) | (exact XSame.mk rfl rfl) | (with_reducible exact trivial) | (apply Walk.drawN (id := 21) tab_ok mixed_ok [] [] (hsU _) [_, _, _, _, _, _, _, _, _, _] (by kernel_rfl) rfl) | ((first | (with_reducible apply XNext.mk) | (refine XCall.ret hbad ?_)); conv => whnf) | ((with_reducible apply XBr.mk') <;> (intro h; conv => whnf)) | fail
    · exact XAgain.go (k + 1) ⟨by omega, hgo h⟩ (by omega) rfl ⟨rfl, rfl, trivial⟩
    · exact XOut.int (hF h).symm
  obtain rfl : k = b.surveys.length := by omega
  repeat' first | ((with_reducible apply XBr.dec) <;> (intro h; first | (exfalso; omega) | ((try simp only [List.length_map] at h); first | (exfalso; omega) | (conv => whnf)))) | fail
  exact XOut.int (bedE_6 hA hB hC hD (allG_true (d := default) hks)).symm
end GA
end

section
namespace GA
open Go Go.RowKit Go.Proofs
set_option pp.deepTerms true
set_option maxRecDepth 8000
set_option linter.unusedVariables false
set_option linter.unusedSimpArgs false

def bls (W : Nat) (F : Nat → Bool) : List AV := (vecF W F).map .bool
theorem bls_len (W : Nat) (F : Nat → Bool) : (bls W F).length = W := by rw [bls, List.length_map, vecF_len]
theorem bls_low {n : Nat} (W : Nat) (F : Nat → Bool) : lowL n (bls W F) = true := vec_low fun _ => rfl
theorem bls0 (W : Nat) : List.replicate W (AV.bool false) = bls W fun _ => false := by unfold bls; rw [vecF_replicate, List.map_replicate]
theorem XIx.bls {W : Nat} {F : Nat → Bool} {n : Int} {k : AV → Prop} (i : Nat) (hn : n = i) (h2 : i < W) (h : k (.pim [.bool (F i)])) : XIx (bls W F) n 1 k := by
  subst hn
  have e : nth (GA.bls W F) (i : Int) = .bool (F i) := by
    unfold nth
    rw [Int.toNat_natCast, List.getD_eq_getElem?_getD]; unfold GA.bls; rw [vec_at h2]; rfl
  refine ⟨by omega, by rw [bls_len]; omega, by rw [e]; rfl, ?_⟩
  rw [e]; exact h
theorem XGet.bls {W : Nat} {F : Nat → Bool} {n e : Nat} {k : List AV → Prop} (h1 : n = W) (h2 : e < W) (h : k [.bool (F e)]) : XGet (bls W F) n e k := by
  subst h1
  refine XGet.mapF (f := AV.bool) true (by rw [vecF_len]) h2 ?_
  rw [vecF_get _ h2]; exact h
theorem XPut.bls {W : Nat} {F : Nat → Bool} {n e : Nat} {v : Bool} {k : List AV → Prop} (j : Nat) (he : e = j) (h1 : n = W) (h2 : j < W) (h : k (bls W (updV F j v))) : XPut (bls W F) n e (.bool v) k := by
  subst he; subst h1
  refine XPut.map (f := AV.bool) v rfl (by rw [vecF_len]) h2 ?_
  rw [vecF_set]; exact h
theorem refList_c (nl : Bool) (F : Nat → Bool) (W : Nat) (hW : W ≤ 100000) : Comp Try.prog 103 [.sl nl (bls W F)] (slA (lstF F W)) := by
  have e1 : ((bls W F).length : Int) = W := by rw [bls_len]
  refine Comp.body (T := tab) (res := [.tmp 2]) tab_ok [] Try.func103 rfl (by kernel_rfl) Try.ntmps103 rfl (by simp only [List.length_cons, List.length_nil]; decide) (by simp only [lowL, AV.low, bls_low]; rfl) ?_; conv => whnf
  skip
  refine Walk.nilgr 3 3 rfl ?_
  refine Walk.loopK tab_ok [] [(0, _), (2, _)] ⟨rfl, rfl, trivial⟩ (fun n : Nat => n ≤ W) (fun n => [(3, .gr 0 (lstF F n).length), (4, natA n)]) (fun n => [.grow 3 (lstF F n).isEmpty (ints (lstF F n))]) (fun n => W - n) 0 (Nat.zero_le _) rfl ⟨rfl, rfl, trivial⟩ ?_
  intro n hn
  have hs := lstF_succ F n
  have hl := lstF_len F n
  have hl2 : (ints (lstF F n)).length = (lstF F n).length := ints_len _
  generalize hc : F n = s at hs
  conv => whnf
  repeat' first | ((with_reducible apply XBr.dec) <;> (intro h; first | (exfalso; omega) | ((try simp only [List.length_map] at h); first | (exfalso; omega) | (conv => whnf)))) | ((with_reducible refine XInt.i64 (by omega) (by omega) ?_); conv => whnf) | ((with_reducible refine XHold.mk ?_ ?_); (first | omega | rfl | decide | exact ⟨rfl, by decide, rfl⟩ | exact wideI _ | exact widePr _ | exact wideSk _ | (unfold Room; constructor <;> ((try simp) <;> omega)) | exact ⟨rfl, by simp only [List.length_map], by unfold Room; constructor <;> ((try simp) <;> omega)⟩ | exact ⟨by omega, by omega, by unfold Room; constructor <;> ((try simp) <;> omega)⟩); conv => whnf) | (((refine XIx.bls n rfl (by omega) ?_); rw [hc]); conv => whnf) | ((with_reducible apply XBr.mk') <;> (intro h; conv => whnf)) | fail
  · rename_i h
    subst h
    rw [if_pos rfl] at hs
    refine XAgain.go (n + 1) (by omega) (by omega) ?_ ⟨rfl, rfl, ?_, rfl, trivial⟩
    · rw [hs]
      show [Blk.grow _ (lstF F n ++ [(n : Int)]).isEmpty ((lstF F n ++ [(n : Int)]).map (AV.int .i64))] = _
      rw [isEmpty_app, List.map_append]; rfl
    · show some (AV.gr 0 ((lstF F n).length + 1)) = _
      rw [hs, List.length_append]; rfl
  · rename_i h
    subst h
    rw [if_neg (by simp)] at hs
    exact XAgain.go (n + 1) (by omega) (by omega) (by rw [hs]) ⟨rfl, rfl, by rw [hs]; rfl, rfl, trivial⟩
  · obtain rfl : n = W := by omega
    exact ⟨Froz.grow rfl hl2 (lowI _)⟩
end GA
end

section
namespace GA
open Go Go.RowKit Go.Proofs
set_option pp.deepTerms true
set_option maxRecDepth 8000
set_option linter.unusedVariables false
set_option linter.unusedSimpArgs false

structure EI (c : Int) (G : Nat → Bool) (d : Prop) : Prop where
  lo : ∀ k : Nat, G k = true → c ≤ k
  dn : d → 0 ≤ c ∧ G c.toNat = true
theorem EI.put {c : Int} {G : Nat → Bool} {d d' : Prop} (h : EI c G d) {v : Nat} (hv : c ≤ v) (hd : d' → d ∨ (v : Int) = c) : EI c (updV G v true) d' := by
  refine ⟨fun k hk => ?_, fun x => ?_⟩
  · unfold updV at hk
    split at hk
    · rename_i e; subst e; exact hv
    · exact h.lo k hk
  · unfold updV
    rcases hd x with h1 | h1
    · obtain ⟨h2, h3⟩ := h.dn h1
      refine ⟨h2, ?_⟩
      split <;> first | rfl | exact h3
    · exact ⟨by omega, by rw [if_pos (by omega)]⟩
end GA
end

section
namespace GA
open Go Go.RowKit Go.Proofs
set_option pp.deepTerms true
set_option maxRecDepth 8000
set_option linter.unusedVariables false
set_option linter.unusedSimpArgs false

theorem great_iff {b : Bd} : great04 b = false ↔ b.months.length ≤ 14 ∧ b.surveys.length ≤ 12 := by
  unfold great04
  rw [Bool.or_eq_false_iff, decide_eq_false_iff_not, decide_eq_false_iff_not]; omega
end GA
end

section
namespace GA
open Go Go.RowKit Go.Proofs
set_option pp.deepTerms true
set_option maxRecDepth 8000
set_option linter.unusedVariables false
set_option linter.unusedSimpArgs false

theorem counts_c (b : Bd) (v : Bool) (hs : b.surveys.length ≤ 100000) : Comp Try.prog 134 [bedA b, .bool v] (.sl false (bls b.surveys.length fun _ => v)) := by
  have e1 : ((b.surveys.map suA).length : Int) = b.surveys.length := by rw [List.length_map]
  have e3 : (((b.surveys.map suA).length : Int)).toNat = b.surveys.length := by rw [e1, Int.toNat_natCast]
  refine Comp.body (T := tab) (res := [.tmp 4]) tab_ok [] Try.func134 rfl (by kernel_rfl) Try.ntmps134 rfl (by simp only [List.length_cons, List.length_nil]; decide) (by simp only [lowL, bedL, AV.low]; rfl) ?_; conv => whnf
  repeat' first | ((with_reducible refine XHold.mk ?_ ?_); (first | omega | rfl | decide | exact ⟨rfl, by decide, rfl⟩ | exact wideI _ | exact widePr _ | exact wideSk _ | (unfold Room; constructor <;> ((try simp) <;> omega)) | exact ⟨rfl, by simp only [List.length_map], by unfold Room; constructor <;> ((try simp) <;> omega)⟩ | exact ⟨by omega, by omega, by unfold Room; constructor <;> ((try simp) <;> omega)⟩); conv => whnf) | fail
  refine Walk.loopK tab_ok [] [(1, _), (4, _), (5, .gr 0 b.surveys.length)] ⟨rfl, rfl, by rw [← e3]; rfl, trivial⟩ (fun k : Nat => k ≤ b.surveys.length) (fun k => [(6, natA k)]) (fun k => [.grow 4 false (bls b.surveys.length fun i => decide (i < k) && v)]) (fun k => b.surveys.length - k) 0 (Nat.zero_le _) ?_ ⟨rfl, trivial⟩ ?_
  · show [Blk.grow _ false (bls _ _)] = [Blk.grow _ false (List.replicate _ _)]
    rw [e3, bls0]
    refine congrArg (fun z => [Blk.grow _ false z]) (congrArg (List.map AV.bool) (vecF_congr fun i hi => ?_))
    rw [decide_eq_false (by omega)]; rfl
  intro k hk
  have hin := fun (i : Nat) => show updV (fun i : Nat => decide (i < k) && v) k v i = (decide (i < k + 1) && v) by
    unfold updV
    split
    · rename_i e; subst e; rw [decide_eq_true (by omega)]; rfl
    · rw [show decide (i < k + 1) = decide (i < k) by rw [decide_eq_decide]; omega]
  conv => whnf
  by_cases hlt : k < b.surveys.length
  · skip
    repeat' first | ((with_reducible apply XBr.dec) <;> (intro h; first | (exfalso; omega) | ((try simp only [List.length_map] at h); first | (exfalso; omega) | (conv => whnf)))) | ((first | (with_reducible refine XInt.i64 (by omega) (by omega) ?_) | (refine XHold.mk (bls_len _ _) ?_) | (refine XHold.mk ⟨bls_len _ _, rfl, by omega, by omega⟩ ?_) | (refine XPut.bls k (by omega) rfl (by omega) ?_)); conv => whnf) | fail
    exact XAgain.go (k + 1) (by omega) (by omega) (congrArg (fun z => [Blk.grow _ false z]) (congrArg (List.map AV.bool) (vecF_congr fun i hi => (hin i).symm))) ⟨rfl, rfl, rfl, rfl, trivial⟩
  · obtain rfl : k = b.surveys.length := by omega
    repeat' first | ((with_reducible apply XBr.dec) <;> (intro h; first | (exfalso; omega) | ((try simp only [List.length_map] at h); first | (exfalso; omega) | (conv => whnf)))) | ((refine XHold.mk (bls_len _ _) ?_); conv => whnf) | fail
    have hv : bls b.surveys.length (fun _ => v) = bls b.surveys.length fun i => decide (i < b.surveys.length) && v := congrArg (List.map AV.bool) (vecF_congr fun i hi => by rw [decide_eq_true hi]; rfl)
    rw [hv]
    exact ⟨Froz.grow rfl (bls_len _ _) (bls_low _ _)⟩
theorem refAgrees1_c (b : Bd) (nl : Bool) (p : Nat → Bool) (m n : Nat) (hs : b.surveys.length ≤ 100000) : Comp Try.prog 133 [bedA b, .sl nl (bls b.surveys.length p), natA m, natA n] (.bool (agB b p m n)) := by
  have e1 : ((b.surveys.map suA).length : Int) = b.surveys.length := by rw [List.length_map]
  refine Comp.body (T := tab) (res := [.tmp 8]) tab_ok [] Try.func133 rfl (by kernel_rfl) Try.ntmps133 rfl (by simp only [List.length_cons, List.length_nil]; decide) (by simp only [lowL, bedL, AV.low, bls_low]; rfl) ?_; conv => whnf
  skip
  refine Walk.loopGK tab_ok [] [(1, _), (2, _), (3, _), (4, _)] ⟨rfl, rfl, rfl, rfl, trivial⟩ (fun k : Nat => k ≤ b.surveys.length ∧ ∀ j, j < k → (suB b j).m = m → p j = true → (suB b j).lo ≤ n ∧ (n : Int) ≤ (suB b j).hi) (fun k => [(9, natA k)]) (fun _ => []) (fun k => b.surveys.length - k) 0 ⟨Nat.zero_le _, fun j hj => by omega⟩ rfl ⟨rfl, trivial⟩ ?_ (fun _ _ => Nat.le_refl _) ?_
  · intro k _
    refine ⟨by simp, fun z hz => ?_⟩
    simp only [List.cons_append, List.nil_append, List.mem_cons, List.not_mem_nil, or_false] at hz
    rcases hz with rfl | rfl | rfl | rfl | rfl <;> first | rfl | exact bls_low _ _ | exact lowBd b
  rintro k ⟨hk, hks⟩
  conv => whnf
  by_cases hlt : k < b.surveys.length
  · have hno : (suB b k).m = m → p k = true → ¬ ((suB b k).lo ≤ n ∧ (n : Int) ≤ (suB b k).hi) → agB b p m n = false := fun h1 h2 h3 => by
      cases h : agB b p m n with
      | false => rfl
      | true => exact absurd (agB_iff.1 h k hlt h1 h2) h3
    have hgo : ((suB b k).m = m → p k = true → (suB b k).lo ≤ n ∧ (n : Int) ≤ (suB b k).hi) → ∀ j, j < k + 1 → (suB b j).m = m → p j = true → (suB b j).lo ≤ n ∧ (n : Int) ≤ (suB b j).hi := fun h => upto_next hks h
    have hsu : b.surveys.getD k default = suB b k := rfl
    have hof := off04_c n (suB b k).lo (suB b k).hi
    have hi := inZ_iff (n := n) (lo := (suB b k).lo) (hi := (suB b k).hi)
    generalize inZ (n : Int) (suB b k).lo (suB b k).hi = r at hof hi
    generalize hp : p k = q at hno hgo
    cases q <;> cases r
    all_goals
      repeat' first | ((with_reducible apply XBr.dec) <;> (intro h; first | (exfalso; omega) | ((try simp only [List.length_map] at h); first | (exfalso; omega) | (conv => whnf)))) | (((with_reducible refine XIx.nat ?_ ?_ ?_); omega; (intro _; rfl)); conv => whnf) | fail
      refine Walk.norm tab_ok [] [(1, _), (2, _), (3, _), (4, _), (9, _), (10, _)] ⟨rfl, rfl, rfl, rfl, rfl, rfl, trivial⟩ ?_
      conv => whnf
      repeat' first | ((first | (with_reducible apply XBr.tt) | (with_reducible apply XBr.ff)); conv => whnf) | (with_reducible apply XBr.not) | ((with_reducible apply XBr.beq) <;> (intro h; first | (exfalso; omega) | (conv => whnf))) | ((first | (with_reducible refine XInt.i64 (by omega) (by omega) ?_) | ((refine XIx.bls k rfl (by omega) ?_); rw [hp]) | (refine XCall.ret hof ?_)); conv => whnf) | fail
      all_goals first | (rw [hno h rfl (fun h' => by have := hi.2 h'; cases this)]; exact ⟨.low rfl⟩) | (refine XAgainG.go (k + 1) [.cells (suA (suB b k)).cells] ⟨by omega, hgo fun h1 h2 => ?_⟩ (by omega) rfl ⟨rfl, rfl, rfl, rfl, rfl, trivial⟩; first | exact absurd h2 (by decide) | exact hi.1 rfl | exact absurd h1 h)
  · obtain rfl : k = b.surveys.length := by omega
    repeat' first | ((with_reducible apply XBr.dec) <;> (intro h; first | (exfalso; omega) | ((try simp only [List.length_map] at h); first | (exfalso; omega) | (conv => whnf)))) | fail
    rw [agB_iff.2 hks]; exact ⟨.low rfl⟩
end GA
end

section
namespace GA
open Go Go.RowKit Go.Proofs
set_option pp.deepTerms true
set_option maxRecDepth 8000
set_option linter.unusedVariables false
set_option linter.unusedSimpArgs false

def lsA (xs : List Int) : AV := .sl false (ints xs)
theorem wide04_c (b : Bd) (r m s : Int) : Comp Try.prog 47 [bedA b, .int .i64 r, .int .i64 m, .int .i64 s] (.bool (decide (r < b.room ∧ b.room ≤ 120 ∨ m < b.months.length ∧ (b.months.length : Int) ≤ 10 ∨ s < b.surveys.length ∧ (b.surveys.length : Int) ≤ 8))) := by
  have e1 : ((b.months.map moA).length : Int) = b.months.length := by rw [List.length_map]
  have e2 : ((b.surveys.map suA).length : Int) = b.surveys.length := by rw [List.length_map]
  refine Comp.body (T := tab) (res := [.tmp 8]) tab_ok [] Try.func47 rfl (by kernel_rfl) Try.ntmps47 rfl (by simp only [List.length_cons, List.length_nil]; decide) (by simp only [lowL, bedL, AV.low]; rfl) ?_; conv => whnf
  refine Walk.norm tab_ok [] [(1, _), (2, _), (3, _), (4, _), (8, _)] ⟨rfl, rfl, rfl, rfl, rfl, trivial⟩ ?_
  conv => whnf
  repeat' first | ((first | (with_reducible apply XBr.tt) | (with_reducible apply XBr.ff)); conv => whnf) | ((with_reducible apply XBr.dec) <;> (intro h; first | (exfalso; omega) | ((try simp only [List.length_map] at h); first | (exfalso; omega) | (conv => whnf)))) | fail
  all_goals
    refine XOut.bool ?_
    rw [Bool.eq_iff_iff]
    simp only [decide_eq_true_eq, Bool.true_eq_false, Bool.false_eq_true, true_iff, false_iff, iff_true, iff_false]
    omega
end GA
end

section
namespace GA
open Go Go.RowKit
set_option linter.unusedVariables false
section
variable {P : Program} {N : Nat} {ρ : Option Nat} {H : List Blk} {σ : St} {D : List Nat} {Q : Post}

structure XFrz (u i n : Nat) (σ : St) (H : List Blk) (k : St → List Blk → Prop) : Prop where
  o : ∃ t nl els, σ u = some (.gr i n) ∧ lget H i = some (.grow t nl els) ∧ els.length = n ∧ k (updX σ u (.sl nl els)) (H.set i .dead)
theorem XFrz.go {u i n : Nat} {k : St → List Blk → Prop} {t : TypeId} {nl : Bool} {els : List AV} (hu : σ u = some (.gr i n)) (hi : lget H i = some (.grow t nl els)) (hn : els.length = n) (x : k (updX σ u (.sl nl els)) (H.set i .dead)) : XFrz u i n σ H k := ⟨t, nl, els, hu, hi, hn, x⟩
def frzQ (u i n : Nat) (Q : Post) : Post
  | .exit id, D, σ, H => XFrz u i n σ H (Q (.exit id) D)
  | e, D, σ, H => Q e D σ H
theorem Walk.thenFreeze {c : Code} (u i n : Nat) (x : Walk P N ρ c (frzQ u i n Q) D σ H) : Walk P N ρ c Q D σ H := by
  constructor
  intro E h β a w s
  refine wpIn_mono (x.o E h β a w s) fun e a' w' hc => ?_
  obtain ⟨D', σ', H', h', β', q, X, s'⟩ := hc
  cases e with
  | exit id =>
    obtain ⟨t, nl, els, hu, hi, hn, q⟩ := q.o
    rw [lget_eq] at hi
    obtain ⟨h'', s1, X1, hfz⟩ := s'.sr.freeze hi
    refine ⟨D', _, _, h'', β', q, X.trans X1, ⟨s1, fun t' r e => ?_, s'.size, s'.df.ext X1⟩⟩
    rw [updX_eq] at e; unfold upd at e
    split at e
    · rename_i hh; subst hh; cases e
      obtain ⟨v, h1, h2⟩ := s'.fits _ _ hu
      exact ⟨v, h1, gr_frz s'.sr hi hn h2 X1 hfz⟩
    · obtain ⟨v, h1, h2⟩ := s'.fits t' r e
      exact ⟨v, h1, X1.rep h2⟩
  | _ => exact ⟨D', σ', H', h', β', q, X, s'⟩
end
end GA
end

section
namespace GA
open Go Go.RowKit Go.Proofs
set_option pp.deepTerms true
set_option maxRecDepth 8000
set_option linter.unusedVariables false
set_option linter.unusedSimpArgs false

theorem vecF_succ {α : Type} (F : Nat → α) (n : Nat) : vecF (n + 1) F = vecF n F ++ [F n] := by rw [vecF_eq, vecF_eq, List.range_succ, List.map_append]; rfl
theorem vecF_low {n W : Nat} {F : Nat → AV} (h : ∀ i, i < W → (F i).low n = true) : lowL n (vecF W F) = true := by
  rw [lowL_iff]; intro x hx
  obtain ⟨i, hi, rfl⟩ := vecF_mem.1 hx
  exact h i hi
structure NI (b : Bd) (m n : Nat) (G : Nat → Bool) (D : Int → Int → Prop) : Prop where
  o : ∀ k : Nat, G k = true ↔ ∃ sp st, InC b m sp st ∧ D sp st ∧ grC b m n sp st - (moB b m).r = k
theorem NI.to {b : Bd} {m n : Nat} {G : Nat → Bool} {D D' : Int → Int → Prop} (h : NI b m n G D) (hd : ∀ x y, InC b m x y → (D' x y ↔ D x y)) : NI b m n G D' :=
  ⟨fun k => (h.o k).trans ⟨fun ⟨x, y, h1, h2, h3⟩ => ⟨x, y, h1, (hd x y h1).2 h2, h3⟩, fun ⟨x, y, h1, h2, h3⟩ => ⟨x, y, h1, (hd x y h1).1 h2, h3⟩⟩⟩
theorem NI.skip {b : Bd} {m n : Nat} {G : Nat → Bool} {D D' : Int → Int → Prop} {sp st : Int} (h : NI b m n G D) (hd : ∀ x y, InC b m x y → (D' x y ↔ D x y ∨ (x = sp ∧ y = st))) (hv : grC b m n sp st - (moB b m).r < 0) : NI b m n G D' := by
  refine ⟨fun k => (h.o k).trans ⟨fun ⟨x, y, h1, h2, h3⟩ => ⟨x, y, h1, (hd x y h1).2 (.inl h2), h3⟩, fun ⟨x, y, h1, h2, h3⟩ => ⟨x, y, h1, ?_, h3⟩⟩⟩
  rcases (hd x y h1).1 h2 with h4 | ⟨rfl, rfl⟩
  · exact h4
  · omega
theorem NI.put {b : Bd} {m n : Nat} {G : Nat → Bool} {D D' : Int → Int → Prop} {sp st : Int} (h : NI b m n G D) (hin : InC b m sp st) (hd : ∀ x y, InC b m x y → (D' x y ↔ D x y ∨ (x = sp ∧ y = st))) (hv : 0 ≤ grC b m n sp st - (moB b m).r) : NI b m n (updV G (grC b m n sp st - (moB b m).r).toNat true) D' := by
  refine ⟨fun k => ?_⟩
  unfold updV
  by_cases e : k = (grC b m n sp st - (moB b m).r).toNat
  · rw [if_pos e]
    exact ⟨fun _ => ⟨sp, st, hin, (hd sp st hin).2 (.inr ⟨rfl, rfl⟩), by omega⟩, fun _ => rfl⟩
  · rw [if_neg e]
    refine (h.o k).trans ⟨fun ⟨x, y, h1, h2, h3⟩ => ⟨x, y, h1, (hd x y h1).2 (.inl h2), h3⟩, fun ⟨x, y, h1, h2, h3⟩ => ⟨x, y, h1, ?_, h3⟩⟩
    rcases (hd x y h1).1 h2 with h4 | ⟨rfl, rfl⟩
    · exact h4
    · omega
def nxF (b : Bd) (m n k : Nat) : Bool := befF b m k n
theorem NI.all {b : Bd} (ok : BedOk b) {m n : Nat} (hm : m < b.months.length) {G : Nat → Bool} {D : Int → Int → Prop} (h : NI b m n G D) (hd : ∀ x y, InC b m x y → D x y) (k : Nat) : G k = nxF b m n k := by
  unfold nxF befF
  rw [Bool.eq_iff_iff, decide_eq_true_iff, h.o k, mem_lv ok hm]
  exact ⟨fun ⟨x, y, h1, h2, h3⟩ => ⟨x, y, h1, h3⟩, fun ⟨x, y, h1, h3⟩ => ⟨x, y, h1, hd x y h1, h3⟩⟩
def nxRow (b : Bd) (m n : Nat) : AV := .sl false (bls (b.room + 1).toNat (nxF b m n))
def nxMo (b : Bd) (m : Nat) : AV := .sl false (vecF (b.room + 1).toNat (nxRow b m))
def nextA (b : Bd) : AV := .sl false (vecF b.months.length (nxMo b))
theorem nxRow_low {k : Nat} (b : Bd) (m n : Nat) : (nxRow b m n).low k = true := bls_low _ _
theorem nxMo_low {k : Nat} (b : Bd) (m : Nat) : (nxMo b m).low k = true := vecF_low fun _ _ => nxRow_low _ _ _
theorem nextA_low {k : Nat} (b : Bd) : (nextA b).low k = true := vecF_low fun _ _ => nxMo_low _ _
set_option maxHeartbeats 1000000 in
theorem next_c (b : Bd) (ok : BedOk b) : Comp Try.prog 41 [bedA b] (nextA b) := by
  have m1 := ok.m1
  have m2 := ok.m2
  have r1 := ok.r1
  have r2 := ok.r2
  have e1 : ((b.months.map moA).length : Int) = b.months.length := by rw [List.length_map]
  refine Comp.body (T := tab) (res := [.tmp 2]) tab_ok [] Try.func41 rfl (by kernel_rfl) Try.ntmps41 rfl (by simp only [List.length_cons, List.length_nil]; decide) (by simp only [lowL, bedL]; rfl) ?_; conv => whnf
  skip
  refine Walk.nilgr 3 72 rfl ?_
  refine Walk.loopGK tab_ok [] [(1, _), (2, _)] ⟨rfl, rfl, trivial⟩ (fun m : Nat => m ≤ b.months.length) (fun m => [(3, .gr 0 m), (4, natA m)]) (fun m => [.grow 72 (decide (m = 0)) (vecF m (nxMo b))]) (fun m => b.months.length - m) 0 (Nat.zero_le _) (by rw [vecF_eq]; rfl) ⟨rfl, rfl, trivial⟩ ?_ (fun _ _ => (show (1 : Nat) ≤ 1 from Nat.le_refl 1)) ?_
  · intro m _
    refine ⟨fun z hz => ?_, fun z hz => ?_⟩
    · rw [List.mem_singleton] at hz; subst hz; exact vecF_low fun _ _ => nxMo_low _ _
    · simp only [List.cons_append, List.nil_append, List.mem_cons, List.not_mem_nil, or_false] at hz
      rcases hz with rfl | rfl | rfl | rfl <;> first | rfl | exact lowBd b
  intro m hm
  conv => whnf
  by_cases hlt : m < b.months.length
  · have hmo := ok.mo' hlt
    have hgb := fun (n : Nat) (sp st : Int) (q : InC b m sp st) => grC_b ok hlt (n := n) q
    have hgr := fun (n : Nat) (hn : (n : Int) ≤ b.room) (sp st : Int) (q : InC b m sp st) => refGross_c b (moB b m) n sp st (by omega) (by omega) hmo.1 hmo.2.1 (by omega) (by omega) (by have := q.1; omega) (by have := q.2.1; omega) (by have := q.2.2.1; omega) (by have := q.2.2.2; omega)
    change ∀ (n : Nat) (hn : (n : Int) ≤ b.room) (sp st : Int) (q : InC b m sp st), Comp Try.prog _ _ (.int .i64 (grC b m n sp st)) at hgr
    have hml : (vecF m (nxMo b)).length = m := vecF_len _ _
    repeat' first | ((with_reducible apply XBr.dec) <;> (intro h; first | (exfalso; omega) | ((try simp only [List.length_map] at h); first | (exfalso; omega) | (conv => whnf)))) | (((with_reducible refine XIx.nat ?_ ?_ ?_); omega; (intro _; rfl)); conv => whnf) | fail
    refine Walk.nilgr 6 75 rfl ?_
    refine Walk.thenFreeze 6 2 (b.room + 1).toNat ?_
    refine Walk.loopGK tab_ok [] [(1, _), (2, _), (3, _), (4, _), (5, _)] ⟨rfl, rfl, rfl, rfl, rfl, trivial⟩ (fun n : Nat => (n : Int) ≤ b.room + 1) (fun n => [(6, .gr 2 n), (7, natA n)]) (fun n => [.grow 72 (decide (m = 0)) (vecF m (nxMo b)), .cells (moC (moB b m)), .grow 75 (decide (n = 0)) (vecF n (nxRow b m))]) (fun n => (b.room + 1).toNat - n) 0 (by omega) (by rw [vecF_eq (nxRow b m)]; rfl) ⟨rfl, rfl, trivial⟩ ?_ (fun _ _ => (show (3 : Nat) ≤ 3 from Nat.le_refl 3)) ?_
    · intro n _
      refine ⟨fun z hz => ?_, fun z hz => ?_⟩
      · simp only [List.mem_cons, List.not_mem_nil, or_false] at hz
        rcases hz with rfl | rfl | rfl
        · exact vecF_low fun _ _ => nxMo_low _ _
        · rfl
        · exact vecF_low fun _ _ => nxRow_low _ _ _
      · simp only [List.cons_append, List.nil_append, List.mem_cons, List.not_mem_nil, or_false] at hz
        rcases hz with rfl | rfl | rfl | rfl | rfl | rfl | rfl <;> first | rfl | exact lowBd b
    intro n hn
    have hnl : (vecF n (nxRow b m)).length = n := vecF_len _ _
    conv => whnf
    by_cases hltn : (n : Int) ≤ b.room
    · skip
      repeat' first | ((with_reducible apply XBr.dec) <;> (intro h; first | (exfalso; omega) | ((try simp only [List.length_map] at h); first | (exfalso; omega) | (conv => whnf)))) | ((with_reducible refine XInt.i64 (by omega) (by omega) ?_); conv => whnf) | ((with_reducible refine XHold.mk ?_ ?_); (first | omega | rfl | decide | exact ⟨rfl, by decide, rfl⟩ | exact wideI _ | exact widePr _ | exact wideSk _ | (unfold Room; constructor <;> ((try simp) <;> omega)) | exact ⟨rfl, by simp only [List.length_map], by unfold Room; constructor <;> ((try simp) <;> omega)⟩ | exact ⟨by omega, by omega, by unfold Room; constructor <;> ((try simp) <;> omega)⟩); conv => whnf) | fail
      refine Walk.thenFreeze 8 3 (b.room + 1).toNat ?_
      refine Walk.loopK tab_ok [] [(1, _), (2, _), (3, _), (4, _), (5, _), (6, _), (7, _), (8, _)] ⟨rfl, rfl, rfl, rfl, rfl, rfl, rfl, rfl, trivial⟩ (fun q : Int × (Nat → Bool) => (moB b m).pl ≤ q.1 ∧ q.1 ≤ (moB b m).ph + 1 ∧ NI b m n q.2 fun x _ => x < q.1) (fun q => [(9, .int .i64 q.1)]) (fun q => [.grow 72 (decide (m = 0)) (vecF m (nxMo b)), .cells (moC (moB b m)), .grow 75 (decide (n = 0)) (vecF n (nxRow b m)), .grow 4 false (bls (b.room + 1).toNat q.2)]) (fun q => ((moB b m).ph + 1 - q.1).toNat) ((moB b m).pl, fun _ => false) ⟨Int.le_refl _, by dsimp only; omega, ⟨fun k => ⟨fun h => (by cases h), fun ⟨x, y, h1, h2, _⟩ => absurd h1.1 (by dsimp only at h2; omega)⟩⟩⟩ ?_ ⟨rfl, trivial⟩ ?_
      · show [_, _, _, Blk.grow _ false (bls _ _)] = [_, _, _, Blk.grow _ false (List.replicate _ _)]
        rw [bls0]
      rintro ⟨sp, G⟩ ⟨hs1, hs2, hG⟩
      dsimp only at hs1 hs2 hG ⊢
      conv => whnf
      by_cases hlts : sp ≤ (moB b m).ph
      · skip
        repeat' first | ((with_reducible apply XBr.dec) <;> (intro h; first | (exfalso; omega) | ((try simp only [List.length_map] at h); first | (exfalso; omega) | (conv => whnf)))) | fail
        refine Walk.loopK tab_ok [] [(1, _), (2, _), (3, _), (4, _), (5, _), (6, _), (7, _), (8, _), (9, _)] ⟨rfl, rfl, rfl, rfl, rfl, rfl, rfl, rfl, rfl, trivial⟩ (fun q : Int × (Nat → Bool) => (moB b m).tl ≤ q.1 ∧ q.1 ≤ (moB b m).th + 1 ∧ NI b m n q.2 fun x y => x < sp ∨ (x = sp ∧ y < q.1)) (fun q => [(10, .int .i64 q.1)]) (fun q => [.grow 72 (decide (m = 0)) (vecF m (nxMo b)), .cells (moC (moB b m)), .grow 75 (decide (n = 0)) (vecF n (nxRow b m)), .grow 4 false (bls (b.room + 1).toNat q.2)]) (fun q => ((moB b m).th + 1 - q.1).toNat) ((moB b m).tl, G) ⟨Int.le_refl _, by dsimp only; omega, hG.to fun x y h => by have := h.2.2.1; dsimp only; omega⟩ rfl ⟨rfl, trivial⟩ ?_
        rintro ⟨st, G⟩ ⟨ht1, ht2, hG⟩
        dsimp only at ht1 ht2 hG ⊢
        conv => whnf
        by_cases hltt : st ≤ (moB b m).th
        · have hin : InC b m sp st := ⟨hs1, hlts, ht1, hltt⟩
          have hg := hgr n hltn sp st hin
          have hb := hgb n sp st hin
          have hput := hG.put (D' := fun x y => x < sp ∨ (x = sp ∧ y < st + 1)) hin (fun x y _ => by omega)
          have hskip := hG.skip (D' := fun x y => x < sp ∨ (x = sp ∧ y < st + 1)) (sp := sp) (st := st) (fun x y _ => by omega)
          generalize grC b m n sp st = v at hg hb hput hskip
          repeat' first | ((with_reducible apply XBr.dec) <;> (intro h; first | (exfalso; omega) | ((try simp only [List.length_map] at h); first | (exfalso; omega) | (conv => whnf)))) | ((with_reducible refine XInt.i64 (by omega) (by omega) ?_); conv => whnf) | (with_reducible apply XAnd.mk) | ((first | (with_reducible apply Chk.go) | (with_reducible apply ChkA.go) | (with_reducible apply ChkF.go) | (with_reducible apply ChkB.go)); conv => whnf) | (exact XSame.mk rfl rfl) | (with_reducible exact trivial) | (apply Walk.drawN (id := 17) tab_ok mixed_ok [] [] (hsU _) [_, _, _, _, _, _, _, _, _, _, _] (by kernel_rfl) rfl) | ((first | (with_reducible apply XNext.mk) | (refine XCall.ret hg ?_) | (refine XHold.mk ⟨bls_len _ _, rfl, by omega, by omega⟩ ?_) | (refine XPut.bls (v - (moB b m).r).toNat rfl rfl (by omega) ?_)); conv => whnf) | fail
          · rename_i h
            exact XAgain.go (st + 1, _) ⟨by dsimp only; omega, by dsimp only; omega, hput h⟩ (by dsimp only; omega) rfl ⟨rfl, rfl, rfl, rfl, rfl, rfl, rfl, rfl, rfl, rfl, trivial⟩
          · rename_i h
            exact XAgain.go (st + 1, G) ⟨by dsimp only; omega, by dsimp only; omega, hskip (Int.not_le.1 h)⟩ (by dsimp only; omega) rfl ⟨rfl, rfl, rfl, rfl, rfl, rfl, rfl, rfl, rfl, rfl, trivial⟩
        · skip
          repeat' first | ((with_reducible apply XBr.dec) <;> (intro h; first | (exfalso; omega) | ((try simp only [List.length_map] at h); first | (exfalso; omega) | (conv => whnf)))) | ((with_reducible refine XInt.i64 (by omega) (by omega) ?_); conv => whnf) | fail
          exact XAgain.go (sp + 1, G) ⟨by dsimp only; omega, by dsimp only; omega, hG.to fun x y h => by have := h.2.2.2; dsimp only; omega⟩ (by dsimp only; omega) rfl ⟨rfl, rfl, rfl, rfl, rfl, rfl, rfl, rfl, rfl, trivial⟩
      · have hrow : bls (b.room + 1).toNat G = bls (b.room + 1).toNat (nxF b m n) := congrArg (List.map AV.bool) (vecF_congr fun k _ => hG.all ok hlt (fun x y h => by have := h.2.1; omega) k)
        rw [hrow]
        repeat' first | ((with_reducible apply XBr.dec) <;> (intro h; first | (exfalso; omega) | ((try simp only [List.length_map] at h); first | (exfalso; omega) | (conv => whnf)))) | ((with_reducible refine XInt.i64 (by omega) (by omega) ?_); conv => whnf) | ((with_reducible refine XHold.mk ?_ ?_); (first | omega | rfl | decide | exact ⟨rfl, by decide, rfl⟩ | exact wideI _ | exact widePr _ | exact wideSk _ | (unfold Room; constructor <;> ((try simp) <;> omega)) | exact ⟨rfl, by simp only [List.length_map], by unfold Room; constructor <;> ((try simp) <;> omega)⟩ | exact ⟨by omega, by omega, by unfold Room; constructor <;> ((try simp) <;> omega)⟩); conv => whnf) | ((refine XFrz.go rfl rfl (bls_len _ _) ?_); conv => whnf) | fail
        refine XAgainG.go (n + 1) [.dead] (by omega) (by omega) ?_ ⟨rfl, rfl, rfl, rfl, rfl, rfl, rfl, trivial⟩
        rw [vecF_succ (nxRow b m), show decide (n + 1 = 0) = (decide (n = 0) && false) by simp]; rfl
    · obtain rfl : n = (b.room + 1).toNat := by omega
      repeat' first | ((with_reducible apply XBr.dec) <;> (intro h; first | (exfalso; omega) | ((try simp only [List.length_map] at h); first | (exfalso; omega) | (conv => whnf)))) | ((with_reducible refine XInt.i64 (by omega) (by omega) ?_); conv => whnf) | ((with_reducible refine XHold.mk ?_ ?_); (first | omega | rfl | decide | exact ⟨rfl, by decide, rfl⟩ | exact wideI _ | exact widePr _ | exact wideSk _ | (unfold Room; constructor <;> ((try simp) <;> omega)) | exact ⟨rfl, by simp only [List.length_map], by unfold Room; constructor <;> ((try simp) <;> omega)⟩ | exact ⟨by omega, by omega, by unfold Room; constructor <;> ((try simp) <;> omega)⟩); conv => whnf) | ((refine XFrz.go rfl rfl (vecF_len _ _) ?_); conv => whnf) | fail
      refine XAgainG.go (m + 1) [.cells (moC (moB b m)), .dead] (by omega) (by omega) ?_ ⟨rfl, rfl, rfl, rfl, trivial⟩
      rw [vecF_succ (nxMo b), show decide (m + 1 = 0) = (decide (m = 0) && false) by simp]
      have e4 : decide ((b.room + 1).toNat = 0) = false := decide_eq_false (by omega)
      rw [e4]; rfl
  · obtain rfl : m = b.months.length := by omega
    repeat' first | ((with_reducible apply XBr.dec) <;> (intro h; first | (exfalso; omega) | ((try simp only [List.length_map] at h); first | (exfalso; omega) | (conv => whnf)))) | fail
    have e3 : decide (b.months.length = 0) = false := decide_eq_false (by omega)
    have hz := Froz.grow (P := Try.prog) (H := [.grow 72 (decide (b.months.length = 0)) (vecF b.months.length (nxMo b))]) (i := 0) (n := b.months.length) rfl (vecF_len _ _) (vecF_low fun _ _ => nxMo_low _ _)
    rw [e3] at hz ⊢
    exact ⟨hz⟩
end GA
end

section
namespace GA
open Go Go.RowKit Go.Proofs
set_option pp.deepTerms true
set_option maxRecDepth 8000
set_option linter.unusedVariables false
set_option linter.unusedSimpArgs false

def rkR (b : Bd) (l : List Int) (m n : Nat) : Int := max 0 (lieR b m n - l.getD (m + 1) default)
def gbR (b : Bd) (m n : Nat) : Int := grossR b.room (moB b m).g n (moB b m).ph (moB b m).tl
def mnS (F : Nat → Int) (s : Int) (c : Nat) : Int := if s < 0 ∨ F c < s then F c else s
def mnP (F : Nat → Int) (lo c : Nat) : Int := (List.range' lo (c - lo)).foldl (mnS F) (-1)
theorem mnP_succ {F : Nat → Int} {lo c : Nat} (h : lo ≤ c) : mnP F lo (c + 1) = mnS F (mnP F lo c) c := by
  unfold mnP
  rw [show c + 1 - lo = (c - lo) + 1 by omega, List.range'_1_concat, List.foldl_append, show lo + (c - lo) = c by omega]; rfl
theorem mnP_nil (F : Nat → Int) (lo : Nat) : mnP F lo lo = -1 := by unfold mnP; rw [Nat.sub_self]; rfl
theorem mnP_b {F : Nat → Int} {B : Int} (hB : 0 ≤ B) {lo : Nat} : ∀ c, lo ≤ c → (∀ q, lo ≤ q → q < c → 0 ≤ F q ∧ F q ≤ B) → -1 ≤ mnP F lo c ∧ mnP F lo c ≤ B ∧ (lo < c → 0 ≤ mnP F lo c) ∧ ∀ q, lo ≤ q → q < c → mnP F lo c ≤ F q
  | 0, h, hF => by
    obtain rfl : lo = 0 := by omega
    rw [mnP_nil]; exact ⟨by omega, by omega, by omega, by omega⟩
  | c + 1, h, hF => by
    by_cases hl : lo = c + 1
    · subst hl; rw [mnP_nil]; exact ⟨by omega, by omega, by omega, by omega⟩
    · obtain ⟨h1, h2, h3, h4⟩ := mnP_b hB c (by omega) fun q a b => hF q a (by omega)
      have h5 := hF c (by omega) (by omega)
      rw [mnP_succ (by omega)]
      unfold mnS
      split
      · rename_i h6
        refine ⟨by omega, by omega, by omega, fun q a b => ?_⟩
        by_cases hq : q = c
        · rw [hq]; exact Int.le_refl _
        · have := h4 q a (by omega)
          have := h3 (by omega)
          omega
      · rename_i h6
        refine ⟨by omega, by omega, by omega, fun q a b => ?_⟩
        by_cases hq : q = c
        · rw [hq]; omega
        · exact h4 q a (by omega)
def smF (b : Bd) (l : List Int) : Nat → Nat → Int
  | 0, _ => 0
  | k + 1, n => if l.getD (b.months.length - (k + 1)) default ≤ n ∧ (n : Int) ≤ b.room then
      rkR b l (b.months.length - (k + 1)) n + mnP (smF b l k) (lieR b (b.months.length - (k + 1)) n - rkR b l (b.months.length - (k + 1)) n).toNat (gbR b (b.months.length - (k + 1)) n - rkR b l (b.months.length - (k + 1)) n + 1).toNat else 0
theorem gbR_b {b : Bd} (ok : BedOk b) {m n : Nat} (hm : m < b.months.length) : lieR b m n ≤ gbR b m n ∧ gbR b m n ≤ b.room := by
  have hmo := ok.mo' hm
  have r1 := ok.r1
  exact ⟨grossR_mono hmo.1 (Int.le_refl _) (by show (moB b m).pl ≤ _; omega) (by show _ ≤ (moB b m).th; omega), (grossR_le (by omega) (by omega)).2⟩
theorem rkR_b {b : Bd} (ok : BedOk b) {l : List Int} (hl : ∀ j, j ≤ b.months.length → 0 ≤ l.getD j default ∧ l.getD j default ≤ b.room) {m n : Nat} (hm : m < b.months.length) : 0 ≤ rkR b l m n ∧ rkR b l m n ≤ lieR b m n ∧ (l.getD (m + 1) default ≤ lieR b m n → l.getD (m + 1) default ≤ lieR b m n - rkR b l m n) := by
  have := lieR_b ok (n := n) hm
  have := hl (m + 1) (by omega)
  unfold rkR; omega
theorem smF_b {b : Bd} (ok : BedOk b) {l : List Int} (hl : ∀ j, j ≤ b.months.length → 0 ≤ l.getD j default ∧ l.getD j default ≤ b.room) : ∀ k, k ≤ b.months.length → ∀ n, 0 ≤ smF b l k n ∧ smF b l k n ≤ 120 * k
  | 0, _, n => by unfold smF; omega
  | k + 1, hk, n => by
    have r2 := ok.r2
    by_cases h0 : 0 < b.months.length
    · have hm : b.months.length - (k + 1) < b.months.length := by omega
      have h1 := rkR_b ok hl (n := n) hm
      have h2 := gbR_b ok (n := n) hm
      have h3 := lieR_b ok (n := n) hm
      unfold smF
      split
      · have h4 := mnP_b (F := smF b l k) (B := 120 * (k : Int)) (by omega) (lo := (lieR b (b.months.length - (k + 1)) n - rkR b l (b.months.length - (k + 1)) n).toNat) (gbR b (b.months.length - (k + 1)) n - rkR b l (b.months.length - (k + 1)) n + 1).toNat (by omega) fun q _ _ => by have := smF_b ok hl k (by omega) q; omega
        have := h4.2.2.1 (by omega)
        omega
      · omega
    · omega
theorem XGet.vec {W n e : Nat} {F : Nat → AV} {k : List AV → Prop} (m : Nat) (h1 : n = W) (he : e = m) (h2 : m < W) (h : k (F m).cells) : XGet (vecF W F) n e k := by
  subst he
  refine ⟨by rw [vecF_len, h1], by omega, ?_⟩
  rw [vecF_get _ h2]; exact h
end GA
end

section
namespace GA
open Go Go.RowKit Go.Proofs
set_option pp.deepTerms true
set_option maxRecDepth 8000
set_option linter.unusedVariables false
set_option linter.unusedSimpArgs false

def ivs (W : Nat) (F : Nat → Int) : List AV := ints (vecF W F)
theorem ivs_len (W : Nat) (F : Nat → Int) : (ivs W F).length = W := by rw [ivs, ints_len, vecF_len]
theorem ivs_rep (W : Nat) (v : Int) : List.replicate W (AV.int .i64 v) = ivs W fun _ => v := by unfold ivs ints; rw [vecF_replicate, List.map_replicate]
theorem ivs_congr {W : Nat} {F G : Nat → Int} (h : ∀ i, i < W → F i = G i) : ivs W F = ivs W G := congrArg ints (vecF_congr h)
theorem XGet.ivs {W : Nat} {F : Nat → Int} {n e : Nat} {k : List AV → Prop} (j : Nat) (he : e = j) (h1 : n = W) (h2 : j < W) (h : k [.int .i64 (F j)]) : XGet (ivs W F) n e k := by
  subst he; subst h1
  refine XGet.mapF (f := AV.int .i64) default (by rw [vecF_len]) h2 ?_
  rw [vecF_get _ h2]; exact h
theorem XPut.ivs {W : Nat} {F : Nat → Int} {n e : Nat} {v : Int} {k : List AV → Prop} (j : Nat) (he : e = j) (h1 : n = W) (h2 : j < W) (h : k (ivs W (updV F j v))) : XPut (ivs W F) n e (.int .i64 v) k := by
  subst he; subst h1
  refine XPut.map (f := AV.int .i64) v rfl (by rw [vecF_len]) h2 ?_
  rw [vecF_set]; exact h
theorem XIx.ivs {W : Nat} {F : Nat → Int} {n : Int} {k : AV → Prop} (i : Nat) (hn : n = i) (h2 : i < W) (h : k (.pim [.int .i64 (F i)])) : XIx (ivs W F) n 1 k := by
  subst hn
  have e : nth (GA.ivs W F) (i : Int) = .int .i64 (F i) := by
    unfold nth
    rw [Int.toNat_natCast, List.getD_eq_getElem?_getD]; unfold GA.ivs; rw [vec_at h2]; rfl
  refine ⟨by omega, by rw [ivs_len]; omega, by rw [e]; rfl, ?_⟩
  rw [e]; exact h
theorem updV_same {α : Type} (F : Nat → α) (j : Nat) (v : α) : updV F j v j = v := by unfold updV; rw [if_pos rfl]
theorem updV_updV {α : Type} (F : Nat → α) (j : Nat) (v w : α) : updV (updV F j v) j w = updV F j w := by
  funext i; unfold updV; split <;> rfl
end GA
end

section
namespace GA
open Go Go.RowKit Go.Proofs
set_option pp.deepTerms true
set_option maxRecDepth 8000
set_option linter.unusedVariables false
set_option linter.unusedSimpArgs false

theorem mnP_at {F : Nat → Int} {lo : Nat} : ∀ c, lo < c → (∀ q, lo ≤ q → q < c → 0 ≤ F q) → ∃ q, lo ≤ q ∧ q < c ∧ mnP F lo c = F q
  | 0, h, _ => by omega
  | c + 1, h, hF => by
    rw [mnP_succ (by omega)]
    unfold mnS
    split
    · exact ⟨c, by omega, by omega, rfl⟩
    · rename_i hn
      by_cases hlo : lo = c
      · subst hlo
        rw [mnP_nil] at hn; omega
      · obtain ⟨q, h1, h2, h3⟩ := mnP_at c (by omega) fun q a b => hF q a (by omega)
        exact ⟨q, h1, by omega, h3⟩
def valC (b : Bd) (l : List Int) (m k n : Nat) (x y : Int) : Int := rkR b l m n + smF b l k (grC b m n x y - rkR b l m n).toNat
structure MI (b : Bd) (l : List Int) (m k n : Nat) (D : Int → Int → Prop) (first : Bool) (v : Int) : Prop where
  a : first = true → ∀ x y, InC b m x y → ¬ D x y
  c : first = false → (∀ x y, InC b m x y → D x y → v ≤ valC b l m k n x y) ∧ ∃ x y, InC b m x y ∧ v = valC b l m k n x y
theorem MI.to {b : Bd} {l : List Int} {m k n : Nat} {D D' : Int → Int → Prop} {first : Bool} {v : Int} (h : MI b l m k n D first v) (hd : ∀ x y, InC b m x y → (D' x y ↔ D x y)) : MI b l m k n D' first v :=
  ⟨fun h1 x y h2 h3 => h.a h1 x y h2 ((hd x y h2).1 h3), fun h1 => ⟨fun x y h2 h3 => (h.c h1).1 x y h2 ((hd x y h2).1 h3), (h.c h1).2⟩⟩
theorem MI.put {b : Bd} {l : List Int} {m k n : Nat} {D D' : Int → Int → Prop} {first : Bool} {v sp st : Int} (h : MI b l m k n D first v) (hin : InC b m sp st) (hd : ∀ x y, InC b m x y → (D' x y ↔ D x y ∨ (x = sp ∧ y = st))) (hv : first = true ∨ valC b l m k n sp st < v) : MI b l m k n D' false (valC b l m k n sp st) := by
  refine ⟨fun h1 => (by cases h1), fun _ => ⟨fun x y h2 h3 => ?_, sp, st, hin, rfl⟩⟩
  rcases (hd x y h2).1 h3 with h4 | ⟨rfl, rfl⟩
  · cases first with
    | true => exact absurd h4 (h.a rfl x y h2)
    | false =>
      have := (h.c rfl).1 x y h2 h4
      rcases hv with hv | hv
      · cases hv
      · omega
  · exact Int.le_refl _
theorem MI.skip {b : Bd} {l : List Int} {m k n : Nat} {D D' : Int → Int → Prop} {v sp st : Int} (h : MI b l m k n D false v) (hd : ∀ x y, InC b m x y → (D' x y ↔ D x y ∨ (x = sp ∧ y = st))) (hv : ¬ valC b l m k n sp st < v) : MI b l m k n D' false v := by
  refine ⟨fun h1 => (by cases h1), fun _ => ⟨fun x y h2 h3 => ?_, (h.c rfl).2⟩⟩
  rcases (hd x y h2).1 h3 with h4 | ⟨rfl, rfl⟩
  · exact (h.c rfl).1 x y h2 h4
  · omega
theorem MI.all {b : Bd} (ok : BedOk b) {l : List Int} (hl : ∀ j, j ≤ b.months.length → 0 ≤ l.getD j default ∧ l.getD j default ≤ b.room) {m k n : Nat} (hm : b.months.length = m + (k + 1)) (hn : l.getD m default ≤ n) (hr : (n : Int) ≤ b.room) {D : Int → Int → Prop} {first : Bool} {v : Int} (h : MI b l m k n D first v) (hd : ∀ x y, InC b m x y → D x y) : v = smF b l (k + 1) n := by
  have hmM : m < b.months.length := by omega
  have hin := inC_worst ok hmM
  cases first with
  | true => exact absurd (hd _ _ hin) (h.a rfl _ _ hin)
  | false =>
    obtain ⟨h1, x0, y0, h2, h3⟩ := h.c rfl
    have hmo := ok.mo' hmM
    have hsb := smF_b ok hl k (by omega)
    have hrk := rkR_b ok hl (n := n) hmM
    have hgb := gbR_b ok (n := n) hmM
    have hgx := fun x y (q : InC b m x y) => grC_b ok hmM (n := n) q
    have hhi : hiR b m n + (moB b m).r = gbR b m n := by unfold hiR gbR; omega
    have hb := mnP_b (F := smF b l k) (B := 120 * (k : Int)) (by omega) (lo := (lieR b m n - rkR b l m n).toNat) (gbR b m n - rkR b l m n + 1).toNat (by omega) fun q _ _ => hsb q
    obtain ⟨q0, q1, q2, q3⟩ := mnP_at (F := smF b l k) (lo := (lieR b m n - rkR b l m n).toNat) (gbR b m n - rkR b l m n + 1).toNat (by omega) fun q _ _ => (hsb q).1
    rw [smF, show b.months.length - (k + 1) = m by omega, if_pos ⟨hn, hr⟩]
    have hx0 := hgx x0 y0 h2
    have e1 := hb.2.2.2 (grC b m n x0 y0 - rkR b l m n).toNat (by omega) (by omega)
    obtain ⟨x, y, p1, p2, p3, p4, p5⟩ := boxR (room := b.room) (g := (moB b m).g) (a := n) (v := q0 + rkR b l m n) (show (moB b m).pl ≤ (moB b m).ph by omega) (show (moB b m).tl ≤ (moB b m).th by omega) (by show lieR b m n ≤ _; omega) (by show _ ≤ gbR b m n; omega)
    have e2 := h1 x y ⟨p1, p2, p3, p4⟩ (hd x y ⟨p1, p2, p3, p4⟩)
    have e3 : grC b m n x y = q0 + rkR b l m n := p5
    unfold valC at e2 h3
    rw [e3, show ((q0 : Int) + rkR b l m n - rkR b l m n).toNat = q0 by omega] at e2
    omega
theorem XGet.vecV {W : Nat} {R : Nat → AV} {n e : Nat} {k : List AV → Prop} (j : Nat) (he : e = j) (h1 : n = W) (h2 : j < W) (h : k (R j).cells) : XGet (vecF W R) n e k := by
  subst he; subst h1
  exact ⟨(vecF_len _ _).symm, h2, by rw [vecF_get _ h2]; exact h⟩
theorem XPut.vecV {W : Nat} {R : Nat → AV} {n e : Nat} {v : AV} {k : List AV → Prop} (j : Nat) (he : e = j) (h1 : n = W) (h2 : j < W) (h : k (vecF W (updV R j v))) : XPut (vecF W R) n e v k := by
  subst he; subst h1
  exact ⟨(vecF_len _ _).symm, h2, by rw [vecF_set]; exact h⟩
end GA
end

section
namespace GA
open Go Go.RowKit Go.Proofs
set_option pp.deepTerms true
set_option maxRecDepth 8000
set_option linter.unusedVariables false
set_option linter.unusedSimpArgs false

theorem XIx.vecV {W : Nat} {F : Nat → AV} {n : Int} {k : AV → Prop} (i : Nat) (hn : n = i) (h2 : i < W) (h1 : (F i).cells = [F i]) (h : k (.pim [F i])) : XIx (vecF W F) n 1 k := by
  subst hn
  have e : nth (vecF W F) (i : Int) = F i := by
    unfold nth
    rw [Int.toNat_natCast]; exact vecF_get _ h2
  refine ⟨by omega, by rw [vecF_len]; omega, by rw [e, h1]; rfl, ?_⟩
  rw [e, h1]; exact h
end GA
end
