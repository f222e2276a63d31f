/- Part 8 of a proof: D4, D5, D6, D7, D8, D9, D10, D11, D21, F81, Abs43, Abs44, F82. -/
import Derived.Test.YtinbgkoefajhbaaGreatP7
section
namespace GA
open Go Go.RowKit Go.Proofs
set_option pp.deepTerms true
set_option maxRecDepth 8000
set_option linter.unusedVariables false
set_option linter.unusedSimpArgs false

def plMo (b : Bd) (plan : List Int) (j i : Nat) : Mo := if i < j then { moB b i with r := plan.getD i 0 } else moB b i
def withPlan (b : Bd) (plan : List Int) : Bd := { b with nlm := false, months := vecF b.months.length (plMo b plan b.months.length) }
theorem esS_congr {b c : Bd} (h : b.surveys = c.surveys) : ∀ j, esS b j = esS c j
  | 0 => rfl
  | j + 1 => by
    have hr : ∀ j k, rowS b j k = rowS c j k := fun j k => by unfold rowS; rw [h]
    show mput _ _ (esS b j) = mput _ _ (esS c j)
    rw [esS_congr h j, h, hr]
theorem dsk_congr {b c : Bd} (h : b.surveys = c.surveys) : keyS b = keyS c ∧ rowsS b = rowsS c := by
  have hk : keyS b = keyS c := by unfold keyS; rw [esS_congr h, h]
  refine ⟨hk, ?_⟩
  unfold rowsS
  rw [hk]
  have : rowT b = rowT c := by funext k; unfold rowT rowS; rw [h]
  rw [this]
theorem withPlan_len (b : Bd) (plan : List Int) : (withPlan b plan).months.length = b.months.length := vecF_len _ _
theorem withPlan_mo {b : Bd} {plan : List Int} {i : Nat} (hi : i < b.months.length) : moB (withPlan b plan) i = { moB b i with r := plan.getD i 0 } := by
  unfold moB
  show (vecF b.months.length _).getD i default = _
  rw [vecF_get _ hi]; unfold plMo; rw [if_pos hi]; rfl
theorem withPlan_ok {b : Bd} (ok : BdOk b) {plan : List Int} (hp : ∀ x ∈ plan, 0 ≤ x ∧ x ≤ b.room) (hl : plan.length = b.months.length) : BdOk (withPlan b plan) := by
  refine ⟨⟨ok.r1, ok.r2, ?_, ?_, ok.f1, ok.f2, ok.u1, ok.u2, fun m hm => ?_⟩, ok.s1, fun s hs => ?_⟩
  · rw [withPlan_len]; exact ok.m1
  · rw [withPlan_len]; exact ok.m2
  · obtain ⟨i, hi, rfl⟩ := vecF_mem.1 hm
    unfold plMo
    rw [if_pos hi]
    have h1 := ok.mo' hi
    have h2 := hp _ (getD_mem (xs := plan) (d := 0) (i := i) (by omega))
    exact ⟨h1.1, h1.2.1, h2.1, h2.2, h1.2.2.2.2⟩
  · rw [withPlan_len]; exact ok.su s hs
def planE (b : Bd) (plan : List Int) : Int := if bedE b ≠ 0 then bedE b else if (plan.length : Int) ≠ b.months.length then 2 else if plan.all (fun x => inZ x 0 b.room) = false then 3 else 0
theorem planE_iff {b : Bd} {plan : List Int} : planE b plan = 0 ↔ BdOk b ∧ plan.length = b.months.length ∧ ∀ x ∈ plan, 0 ≤ x ∧ x ≤ b.room := by
  unfold planE
  constructor
  · intro h
    split at h
    · rename_i h1; exact absurd h h1
    · split at h; · cases h
      split at h; · cases h
      rename_i h1 h2 h3
      rw [Bool.not_eq_false, List.all_eq_true] at h3
      exact ⟨(bedE_iff b).1 (by omega), by omega, fun x hx => inZ_iff.1 (h3 x hx)⟩
  · rintro ⟨h1, h2, h3⟩
    rw [if_neg (fun h => h ((bedE_iff b).2 h1)), if_neg (by omega), if_neg (by rw [List.all_eq_true.2 fun x hx => inZ_iff.2 (h3 x hx)]; simp)]
theorem XPutPart.moR {n e' o w : Nat} {k : List AV → Prop} {N : Nat} {F : Nat → Mo} {v : Int} (e : Nat) (he : e = e') (h1 : n = N) (h2 : e < N) (ho : o = 1) (hw : w = 6)
    (h : k ((vecF N (updV F e { F e with r := v })).map moA)) : XPutPart ((vecF N F).map moA) n e' o w [.int .i64 v] k := by
  subst he; subst h1; subst ho; subst hw
  have hg : ((vecF n F).map moA).getD e default = moA (F e) := by
    rw [List.getD_eq_getElem?_getD, List.getElem?_map, vecF_get?, if_pos h2]; rfl
  refine ⟨by rw [List.length_map, vecF_len], h2, by simp, by rw [hg]; rfl, ?_⟩
  rw [hg]
  show k (((vecF n F).map moA).set e (moA { F e with r := v }))
  rw [← List.map_set, vecF_set]; exact h
theorem dskS_ren0 (b : Bd) (hm : ∀ s ∈ b.surveys, 0 ≤ s.m ∧ s.m ≤ 10) : (dskS b).map (Blk.ren (([] : List Blk).length + ·)) = dskS b := by
  have : ∀ x ∈ dskS b, Blk.ren (([] : List Blk).length + ·) x = id x := fun x hx => Blk.ren_low (n := 13) (fun i _ => Nat.zero_add i) (dskS_low b hm x hx)
  rw [List.map_congr_left this, List.map_id]
theorem months_vec (b : Bd) : b.months = vecF b.months.length (moB b) := by
  apply List.ext_getElem?; intro i
  rw [vecF_get?]
  by_cases h : i < b.months.length
  · rw [if_pos h, List.getElem?_eq_getElem h]; unfold moB; rw [List.getD_eq_getElem?_getD, List.getElem?_eq_getElem h]; rfl
  · rw [if_neg h, List.getElem?_eq_none (by omega)]
theorem FrozL.rows {b : Bd} {H : List Blk} (hm : ∀ s ∈ b.surveys, 0 ≤ s.m ∧ s.m ≤ 10) (h : ∀ k, k ≤ 10 → lget H (2 + k) = some (rowB b b.surveys.length k)) : FrozL Tryz.prog H ((esS b b.surveys.length).map (·.2)) (rowsS b) := by
  refine frozMap _ (fun k => slA (rowT b k.toNat)) _ fun p hp => ?_
  obtain ⟨h1, h2, h3⟩ := esS_vals b hm _ (Nat.le_refl _) p hp
  rw [h3]
  exact Froz.grow (h _ (by omega)) (List.length_map _) (lowI _)
set_option maxHeartbeats 1000000 in
theorem planned_c (b : Bd) (ok : BdOk b) (nl : Bool) (plan : List Int) (hl : plan.length = b.months.length) (hp : ∀ x ∈ plan, 0 ≤ x ∧ x ≤ b.room) : Comp Tryz.prog 111 [bedA b, .sl nl (ints plan)] (.tup [dskA (withPlan b plan), .int .i64 0]) := by
  have m1 := ok.m1
  have m2 := ok.m2
  have e1 : ((b.months.map moA).length : Int) = b.months.length := by rw [List.length_map]
  have e2 : ((ints plan).length : Int) = b.months.length := by rw [ints_len]; omega
  have hop := bedOpenedS_c b ((bedE_iff b).2 ok) ok.m2 ok.s1 ok.sm
  have hev := bEvery_bf nl plan 112 [bedA b] (fun x => inZ x 0 b.room) (by simp only [lowL, bedL]; rfl) (by omega) fun x _ => bedAmount_c b x
  rw [List.all_eq_true.2 fun x hx => inZ_iff.2 (hp x hx)] at hev
  refine Comp.body (T := tab) (res := [.tmp 4, .tmp 5]) tab_ok [] Tryz.func111 rfl (by kernel_rfl) Tryz.ntmps111 rfl (by simp only [List.length_cons, List.length_nil]; decide) (by simp only [lowL, bedL, AV.low, lowI]; rfl) ?_; conv => whnf
  refine XCall.give hop ?_
  rw [dskS_ren0 b ok.sm]
  conv => whnf
  repeat' first | ((with_reducible apply XBr.tt); conv => whnf) | (with_reducible apply XBr.not) | ((with_reducible apply XBr.bne) <;> (intro h; first | (exfalso; omega) | (conv => whnf))) | ((with_reducible refine XHold.mk ?_ ?_); (first | omega | rfl | decide | exact ⟨rfl, by decide, rfl⟩ | exact wideI _ | exact widePr _ | exact wideSk _ | (unfold Room; constructor <;> ((try simp) <;> omega)) | exact ⟨rfl, by simp only [List.length_map], by unfold Room; constructor <;> ((try simp) <;> omega)⟩ | exact ⟨by omega, by omega, by unfold Room; constructor <;> ((try simp) <;> omega)⟩); conv => whnf) | ((first | (refine XCall.ret hev ?_) | (refine XHold.mk (wideMo _) ?_) | (refine XHold.mk ⟨rfl, by rw [List.length_replicate]⟩ ?_) | (refine XPutEls.mk ?_)); conv => whnf) | fail
  have hv0 : b.months.map moA = (vecF b.months.length (plMo b plan 0)).map moA := by
    have : vecF b.months.length (plMo b plan 0) = vecF b.months.length (moB b) := vecF_congr fun i _ => by unfold plMo; rw [if_neg (by omega)]
    rw [this, ← months_vec]
  refine Walk.loopK tab_ok [] [(4, _), (5, _), (6, .ptr 1 0), (8, .gr 13 b.months.length), (41, _), (42, .int .i64 b.months.length)] ⟨rfl, rfl, rfl, ?_, rfl, congrArg (fun z => some (AV.int .i64 z)) e2, trivial⟩ (fun j : Nat => j ≤ b.months.length) (fun j => [(43, natA j)]) (fun j => dskS b ++ [.grow 159 false ((vecF b.months.length (plMo b plan j)).map moA)]) (fun j => b.months.length - j) 0 (Nat.zero_le _) ?_ ⟨rfl, trivial⟩ ?_
  · show some (AV.gr 13 _) = _
    rw [e1, Int.toNat_natCast]
  · show dskS b ++ [_] = dskS b ++ [Blk.grow _ false (splice (List.replicate _ _) 0 _)]
    rw [← hv0]
    have hz : splice (List.replicate (((b.months.map moA).length : Int)).toNat (AV.agg [.int .i64 0, .int .i64 0, .int .i64 0, .int .i64 0, .int .i64 0, .int .i64 0])) 0 ((b.months.map moA).take (((b.months.map moA).length : Int)).toNat) = b.months.map moA := by
      rw [Int.toNat_natCast, List.take_length]
      unfold splice
      simp
    rw [hz]
  intro j hj
  have hpj : j < b.months.length → vecF b.months.length (plMo b plan (j + 1)) = vecF b.months.length (updV (plMo b plan j) j { plMo b plan j j with r := plan.getD j 0 }) := fun hj => vecF_congr fun i hi => by
    unfold updV plMo
    by_cases h : i = j
    · subst h; rw [if_pos rfl, if_pos (by omega), if_neg (by omega)]
    · rw [if_neg h]
      by_cases h2 : i < j
      · rw [if_pos h2, if_pos (by omega)]
      · rw [if_neg h2, if_neg (by omega)]
  conv => whnf
  repeat' first | ((with_reducible apply XBr.dec) <;> (intro h; first | (exfalso; omega) | ((try simp only [List.length_map] at h); first | (exfalso; omega) | (conv => whnf)))) | ((first | (with_reducible refine XInt.i64 (by omega) (by omega) ?_) | ((with_reducible refine XIx.nat ?_ ?_ ?_); omega; (intro _; rfl)) | (refine XHold.mk ⟨by simp only [List.length_map, vecF_len], rfl, by omega, by omega⟩ ?_) | (refine XPutPart.moR j (by omega) rfl (by omega) rfl rfl ?_)); conv => whnf) | fail
  · refine XAgain.go (j + 1) (by omega) (by omega) ?_ ⟨rfl, rfl, rfl, rfl, rfl, rfl, rfl, trivial⟩
    rw [hpj (by omega)]; rfl
  · obtain rfl : j = b.months.length := by omega
    obtain ⟨hk1, hk2⟩ := dsk_congr (b := withPlan b plan) (c := b) rfl
    refine ⟨Froz.tup (.cons (Froz.ptr rfl (dskOne _) ?_) (.cons (.low rfl) .nil))⟩
    show FrozL _ _ _ (bedC (withPlan b plan) ++ [.im (keyS (withPlan b plan)) (rowsS (withPlan b plan))])
    rw [hk1, hk2]
    refine .cons (.low rfl) (.cons (.low rfl) (.cons (.low rfl) (.cons (Froz.grow rfl (by rw [List.length_map]; exact withPlan_len b plan) (lowMo _)) (.cons (.low (lowSu _)) (.cons (Froz.mp rfl ?_) .nil)))))
    refine FrozL.rows ok.sm fun k hk => ?_
    have hkk : k = 0 ∨ k = 1 ∨ k = 2 ∨ k = 3 ∨ k = 4 ∨ k = 5 ∨ k = 6 ∨ k = 7 ∨ k = 8 ∨ k = 9 ∨ k = 10 := by omega
    rcases hkk with rfl | rfl | rfl | rfl | rfl | rfl | rfl | rfl | rfl | rfl | rfl <;> rfl
theorem plannedE_c (b : Bd) (nl : Bool) (plan : List Int) (hm : b.months.length ≤ 100000) (hs : b.surveys.length ≤ 100000) (hl : plan.length ≤ 100000) (hE : planE b plan ≠ 0) : Comp Tryz.prog 111 [bedA b, .sl nl (ints plan)] (.tup [.nilp, .int .i64 (planE b plan)]) := by
  have e1 : ((b.months.map moA).length : Int) = b.months.length := by rw [List.length_map]
  have e2 : ((ints plan).length : Int) = plan.length := by rw [ints_len]
  have hev := bEvery_bf nl plan 112 [bedA b] (fun x => inZ x 0 b.room) (by simp only [lowL, bedL]; rfl) (by omega) fun x _ => bedAmount_c b x
  by_cases hb : bedE b = 0
  · have hop := bOpened_c b ((bedE_iff b).1 hb)
    unfold planE at hE ⊢
    rw [if_neg (fun h => h hb)] at hE ⊢
    generalize plan.all (fun x => inZ x 0 b.room) = r at hev hE
    refine Comp.body (T := tab) (res := [.tmp 4, .tmp 5]) tab_ok [] Tryz.func111 rfl (by kernel_rfl) Tryz.ntmps111 rfl (by simp only [List.length_cons, List.length_nil]; decide) (by simp only [lowL, bedL, AV.low, lowI]; rfl) ?_; conv => whnf
    repeat' first | (with_reducible apply XBr.not) | ((with_reducible apply XBr.bne) <;> (intro h; first | (exfalso; omega) | (conv => whnf))) | ((with_reducible refine XHold.mk ?_ ?_); (first | omega | rfl | decide | exact ⟨rfl, by decide, rfl⟩ | exact wideI _ | exact widePr _ | exact wideSk _ | (unfold Room; constructor <;> ((try simp) <;> omega)) | exact ⟨rfl, by simp only [List.length_map], by unfold Room; constructor <;> ((try simp) <;> omega)⟩ | exact ⟨by omega, by omega, by unfold Room; constructor <;> ((try simp) <;> omega)⟩); conv => whnf) | ((first | (refine XCall.ret hop ?_) | (refine XCall.ret hev ?_)); conv => whnf) | ((with_reducible apply XBr.mk') <;> (intro h; conv => whnf)) | fail
    · rw [e1, e2] at h
      rw [if_pos h]; exact ⟨.low rfl⟩
    · rw [e1, e2] at *
      exfalso; simp [*] at hE
    · rw [e1, e2] at *
      rw [if_neg (by simp [*]), if_pos h]; exact ⟨.low rfl⟩
  · have hop := bOpenedE_c b hm hs hb
    have hE2 : planE b plan = bedE b := by unfold planE; rw [if_pos hb]
    rw [hE2]
    generalize bedE b = e at hop hb
    refine Comp.body (T := tab) (res := [.tmp 4, .tmp 5]) tab_ok [] Tryz.func111 rfl (by kernel_rfl) Tryz.ntmps111 rfl (by simp only [List.length_cons, List.length_nil]; decide) (by simp only [lowL, bedL, AV.low, lowI]; rfl) ?_; conv => whnf
    repeat' first | ((with_reducible apply XBr.bne) <;> (intro h; first | (exfalso; omega) | (conv => whnf))) | ((refine XCall.ret hop ?_); conv => whnf) | fail
    exact ⟨.low rfl⟩
def endW (b : Bd) : Nat → Nat → Int
  | 0, n => n
  | k + 1, n => if lieR b (b.months.length - (k + 1)) n - (moB b (b.months.length - (k + 1))).r < 0 then lieR b (b.months.length - (k + 1)) n - (moB b (b.months.length - (k + 1))).r else endW b k (lieR b (b.months.length - (k + 1)) n - (moB b (b.months.length - (k + 1))).r).toNat
def endR (b : Bd) : Int := endW b b.months.length (leastR b).toNat
theorem end_c (b : Bd) (ok : BedOk b) : Comp Tryz.prog 113 [dskA b] (.int .i64 (endR b)) := by
  have m1 := ok.m1
  have m2 := ok.m2
  have r1 := ok.r1
  have r2 := ok.r2
  have e1 : ((b.months.map moA).length : Int) = b.months.length := by rw [List.length_map]
  have hle := least_c b ok.f1 (by have := ok.f2; omega) ok.u1 (by have := ok.u2; omega)
  obtain ⟨a0, ha0⟩ : ∃ a0 : Nat, leastR b = a0 := ⟨(leastR b).toNat, by unfold leastR; omega⟩
  have ha1 : (a0 : Int) ≤ b.room := by rw [← ha0]; unfold leastR; have := ok.f2; have := ok.u1; omega
  unfold endR
  rw [ha0, Int.toNat_natCast]
  rw [ha0] at hle
  refine Comp.body (T := tab) (res := [.tmp 2]) tab_ok [] Tryz.func113 rfl (by kernel_rfl) Tryz.ntmps113 rfl (by simp only [List.length_cons, List.length_nil]; decide) (by simp only [lowL, dskL]; rfl) ?_; conv => whnf
  repeat' first | ((refine XCall.ret hle ?_); conv => whnf) | fail
  refine Walk.loopGK tab_ok [] [(0, _), (15, _), (16, _)] ⟨rfl, rfl, rfl, trivial⟩ (fun q : Nat × Nat => q.1 ≤ b.months.length ∧ (q.2 : Int) ≤ b.room ∧ endW b (b.months.length - q.1) q.2 = endW b b.months.length a0) (fun q => [(3, natA q.2), (17, natA q.1)]) (fun _ => []) (fun q => b.months.length - q.1) (0, a0) ⟨Nat.zero_le _, ha1, rfl⟩ rfl ⟨rfl, rfl, trivial⟩ ?_ (fun _ _ => Nat.le_refl _) ?_
  · intro q _
    refine ⟨by simp, fun z hz => ?_⟩
    simp only [List.cons_append, List.nil_append, List.mem_cons, List.not_mem_nil, or_false] at hz
    rcases hz with rfl | rfl | rfl | rfl | rfl <;> first | exact dskL b | exact lowMo _ | rfl
  rintro ⟨m, n⟩ ⟨hm, hn, he⟩
  dsimp only at hm hn he ⊢
  have hgc := fun (h : m < b.months.length) => gross_c b m n (moB b m).pl (moB b m).th h (by omega) (by omega) (ok.mo' h).1 (ok.mo' h).2.1 (by omega) (by omega) (by have := ok.mo' h; omega) (by have := ok.mo' h; omega) (by have := ok.mo' h; omega) (by have := ok.mo' h; omega)
  change ∀ h : m < b.months.length, Comp Tryz.prog _ _ (.int .i64 (lieR b m n)) at hgc
  have hlb := fun (h : m < b.months.length) => lieR_b ok (j := m) (n := n) h
  have hmo := fun (h : m < b.months.length) => ok.mo' h
  conv => whnf
  by_cases hlt : m < b.months.length
  · have hgc := hgc hlt
    have hlb := hlb hlt
    have hmo := hmo hlt
    have hst : endW b (b.months.length - m) n = if lieR b m n - (moB b m).r < 0 then lieR b m n - (moB b m).r else endW b (b.months.length - (m + 1)) (lieR b m n - (moB b m).r).toNat := by
      obtain ⟨k, hk⟩ : ∃ k, b.months.length - m = k + 1 := ⟨b.months.length - m - 1, by omega⟩
      rw [hk, endW, show b.months.length - (k + 1) = m by omega, show b.months.length - (m + 1) = k by omega]
    rw [hst] at he
    repeat' first | ((with_reducible apply XBr.dec) <;> (intro h; first | (exfalso; omega) | ((try simp only [List.length_map] at h); first | (exfalso; omega) | (conv => whnf)))) | ((first | (with_reducible refine XInt.i64 (by omega) (by omega) ?_) | ((with_reducible refine XIx.nat ?_ ?_ ?_); omega; (intro _; rfl))); conv => whnf) | (with_reducible apply XAnd.mk) | ((first | (with_reducible apply Chk.go) | (with_reducible apply ChkA.go) | (with_reducible apply ChkF.go) | (with_reducible apply ChkB.go)); conv => whnf) | (exact XSame.mk rfl rfl) | (with_reducible exact trivial) | (apply Walk.drawN (id := 5) tab_ok mixed_ok [] [] (hsU _) [_, _, _, _, _, _, _, _, _, _, _, _, _] (by kernel_rfl) rfl) | ((first | (with_reducible apply XNext.mk) | (refine XCall.ret (worst_c (moB b m)) ?_) | (refine XCall.ret hgc ?_) | (refine XInt.i64 (show _ ≤ lieR b m n - (moB b m).r by omega) (show lieR b m n - (moB b m).r ≤ _ by omega) ?_)); conv => whnf) | fail
    · rename_i h
      have h' : lieR b m n - (moB b m).r < 0 := h
      rw [if_pos h'] at he
      exact XOut.int he
    · rename_i h
      have h' : ¬ lieR b m n - (moB b m).r < 0 := h
      rw [if_neg h'] at he
      refine XAgainG.go (m + 1, (lieR b m n - (moB b m).r).toNat) [.cells [.int .i64 (moB b m).g, .int .i64 (moB b m).r, .int .i64 (moB b m).pl, .int .i64 (moB b m).ph, .int .i64 (moB b m).tl, .int .i64 (moB b m).th]] ⟨by dsimp only; omega, by dsimp only; omega, he⟩ (by dsimp only; omega) rfl ⟨rfl, rfl, rfl, ?_, rfl, trivial⟩
      exact congrArg (fun z => some (AV.int .i64 z)) (show lieR b m n - (moB b m).r = ((lieR b m n - (moB b m).r).toNat : Int) by omega)
  · obtain rfl : m = b.months.length := by omega
    rw [Nat.sub_self] at he
    repeat' first | ((with_reducible apply XBr.dec) <;> (intro h; first | (exfalso; omega) | ((try simp only [List.length_map] at h); first | (exfalso; omega) | (conv => whnf)))) | fail
    exact XOut.int he
def keepB (b : Bd) (plan : List Int) (share : Int) : Bool := decide (share ≤ endR (withPlan b plan))
def keepsA (b : Bd) (plan : List Int) (share : Int) : AV := if planE b plan ≠ 0 then .tup [.bool false, .int .i64 (planE b plan)] else if inZ share 0 b.room = false then .tup [.bool false, .int .i64 3] else .tup [.bool (keepB b plan share), .int .i64 0]
theorem keeps_c (b : Bd) (nl : Bool) (plan : List Int) (share : Int) (hm : b.months.length ≤ 100000) (hs : b.surveys.length ≤ 100000) (hl : plan.length ≤ 100000) : Comp Tryz.prog 24 [bedA b, .sl nl (ints plan), .int .i64 share] (keepsA b plan share) := by
  unfold keepsA
  by_cases hE : planE b plan = 0
  · obtain ⟨ok, h1, h2⟩ := planE_iff.1 hE
    have hp := planned_c b ok nl plan h1 h2
    have he := end_c (withPlan b plan) (withPlan_ok ok h2 h1).toBedOk
    have ha := bedAmount_c b share
    rw [if_neg (fun h => h hE)]
    generalize inZ share 0 b.room = r at ha
    refine Comp.body (T := tab) (res := [.tmp 6, .tmp 7]) tab_ok [] Tryz.func24 rfl (by kernel_rfl) Tryz.ntmps24 rfl (by simp only [List.length_cons, List.length_nil]; decide) (by simp only [lowL, bedL, AV.low, lowI]; rfl) ?_; conv => whnf
    repeat' first | (with_reducible apply XBr.not) | ((with_reducible apply XBr.bne) <;> (intro h; first | (exfalso; omega) | (conv => whnf))) | ((first | (refine XCall.ret hp ?_) | (refine XCall.ret ha ?_) | (refine XCall.ret he ?_)); conv => whnf) | ((with_reducible apply XBr.mk') <;> (intro h; conv => whnf)) | fail
    · rename_i h
      rw [if_neg (by rw [h]; simp)]; exact ⟨.low rfl⟩
    · rename_i h
      rw [if_pos h]; exact ⟨.low rfl⟩
  · have hp := plannedE_c b nl plan hm hs hl hE
    rw [if_pos hE]
    generalize planE b plan = e at hp hE
    refine Comp.body (T := tab) (res := [.tmp 6, .tmp 7]) tab_ok [] Tryz.func24 rfl (by kernel_rfl) Tryz.ntmps24 rfl (by simp only [List.length_cons, List.length_nil]; decide) (by simp only [lowL, bedL, AV.low, lowI]; rfl) ?_; conv => whnf
    repeat' first | ((with_reducible apply XBr.bne) <;> (intro h; first | (exfalso; omega) | (conv => whnf))) | ((refine XCall.ret hp ?_); conv => whnf) | fail
    exact ⟨.low rfl⟩
end GA
end

section
namespace GA
open Go Go.RowKit Go.Proofs
set_option pp.deepTerms true
set_option maxRecDepth 8000
set_option linter.unusedVariables false
set_option linter.unusedSimpArgs false

abbrev chsA (l : List (Int × Int)) : List AV := l.map prA
theorem mul64_c (k : Nat) (hk : k ≤ 10) : Comp Tryz.prog 211 [.int .u64 1, .int .u64 k] (.tup [.int .u64 0, .int .u64 k]) := by
  have hkk : k = 0 ∨ k = 1 ∨ k = 2 ∨ k = 3 ∨ k = 4 ∨ k = 5 ∨ k = 6 ∨ k = 7 ∨ k = 8 ∨ k = 9 ∨ k = 10 := by omega
  rcases hkk with rfl | rfl | rfl | rfl | rfl | rfl | rfl | rfl | rfl | rfl | rfl
  all_goals
    refine Comp.body (T := tab) (res := [.tmp 4, .tmp 5]) tab_ok [] Tryz.func211 rfl (by kernel_rfl) Tryz.ntmps211 rfl (by simp only [List.length_cons, List.length_nil]; decide) (by rfl) ?_; conv => whnf
    repeat' first | ((with_reducible refine XHold.mk ?_ ?_); (first | omega | rfl | decide | exact ⟨rfl, by decide, rfl⟩ | exact wideI _ | exact widePr _ | exact wideSk _ | (unfold Room; constructor <;> ((try simp) <;> omega)) | exact ⟨rfl, by simp only [List.length_map], by unfold Room; constructor <;> ((try simp) <;> omega)⟩ | exact ⟨by omega, by omega, by unfold Room; constructor <;> ((try simp) <;> omega)⟩); conv => whnf) | ((with_reducible apply XInt.mk); conv => whnf) | fail
    exact ⟨.low rfl⟩
theorem mul_c (k : Nat) (hk : k ≤ 10) : Comp Tryz.prog 191 [.int .u64 1, .int .u64 k] (.tup [.int .u64 0, .int .u64 k]) := by
  refine Comp.body (T := tab) (res := [.tmp 4, .tmp 5]) tab_ok [] Tryz.func191 rfl (by kernel_rfl) Tryz.ntmps191 rfl (by simp only [List.length_cons, List.length_nil]; decide) (by rfl) ?_; conv => whnf
  repeat' first | ((first | (with_reducible apply XBr.ff) | (refine XCall.ret (mul64_c k hk) ?_)); conv => whnf) | fail
  exact ⟨.low rfl⟩
theorem XInt.u64 {x : Int} {k : AV → Prop} (h1 : 0 ≤ x) (h2 : x ≤ 18446744073709551615) (h : k (.int .u64 x)) : XInt .u64 x k := by
  have e : IntKind.u64.wrap x = x := by simp only [IntKind.wrap, IntKind.bits, IntKind.signed]; simp; omega
  exact ⟨by rw [e]; exact h⟩
def repL (v : Int) (k c : Nat) : List Int := List.replicate c v ++ List.replicate (k - c) 0
theorem repL_ints (v : Int) (k c : Nat) : ints (repL v k c) = List.replicate c (.int .i64 v) ++ List.replicate (k - c) (.int .i64 0) := by
  unfold repL ints
  rw [List.map_append, List.map_replicate, List.map_replicate]
theorem repL_len {v : Int} {k c : Nat} (h : c ≤ k) : (repL v k c).length = k := by unfold repL; rw [List.length_append, List.length_replicate, List.length_replicate]; omega
theorem rep_splice {v : Int} {k c : Nat} (h : c ≤ k) : splice (ints (repL v k c)) c ((((ints (repL v k c)).drop 0).take c).take (k - c)) = ints (repL v k (c + min (k - c) c)) := by
  rw [repL_ints, repL_ints]
  have e1 : (((List.replicate c (AV.int .i64 v) ++ List.replicate (k - c) (AV.int .i64 0)).drop 0).take c).take (k - c) = List.replicate (min (k - c) c) (AV.int .i64 v) := by
    rw [List.drop_zero, List.take_left' (List.length_replicate ..), List.take_replicate]
  rw [e1]
  unfold splice
  rw [List.take_left' (List.length_replicate ..), List.length_replicate, List.drop_append, List.length_replicate, List.drop_of_length_le (by rw [List.length_replicate]; omega), List.nil_append, List.drop_replicate, List.replicate_append_replicate]
  congr 2
  omega
theorem repeat_c (v : Int) (k : Nat) (h1 : 1 ≤ k) (hk : k ≤ 10) : Comp Tryz.prog 165 [.sl false [.int .i64 v], natA k] (.sl false (ints (List.replicate k v))) := by
  refine Comp.body (T := tab) (res := [.tmp 4]) tab_ok [] Tryz.func165 rfl (by kernel_rfl) Tryz.ntmps165 rfl (by simp only [List.length_cons, List.length_nil]; decide) (by rfl) ?_; conv => whnf
  repeat' first | ((with_reducible apply XBr.ff); conv => whnf) | ((with_reducible apply XBr.dec) <;> (intro h; first | (exfalso; omega) | ((try simp only [List.length_map] at h); first | (exfalso; omega) | (conv => whnf)))) | ((with_reducible refine XInt.i64 (by omega) (by omega) ?_); conv => whnf) | ((with_reducible refine XHold.mk ?_ ?_); (first | omega | rfl | decide | exact ⟨rfl, by decide, rfl⟩ | exact wideI _ | exact widePr _ | exact wideSk _ | (unfold Room; constructor <;> ((try simp) <;> omega)) | exact ⟨rfl, by simp only [List.length_map], by unfold Room; constructor <;> ((try simp) <;> omega)⟩ | exact ⟨by omega, by omega, by unfold Room; constructor <;> ((try simp) <;> omega)⟩); conv => whnf) | ((first | (with_reducible refine XInt.u64 (by omega) (by omega) ?_) | ((show XInt IntKind.u64 ((1 : Nat) : Int) _); (with_reducible refine XInt.u64 (by omega) (by omega) ?_)) | (refine XCall.ret (mul_c k hk) ?_)); conv => whnf) | fail
  refine XHold.mk ⟨rfl, by rw [List.length_replicate]⟩ ?_
  conv => whnf
  refine XPutEls.mk ?_
  conv => whnf
  skip
  refine Walk.loopK tab_ok [] [(4, _), (7, .gr 0 k)] ⟨rfl, by rw [← Int.toNat_natCast k]; rfl, trivial⟩ (fun c : Nat => 1 ≤ c ∧ c ≤ k) (fun c => [(8, natA c)]) (fun c => [.grow 3 false (ints (repL v k c))]) (fun c => k - c) 1 ⟨Nat.le_refl 1, h1⟩ ?_ ⟨?_, trivial⟩ ?_
  · show _ = [Blk.grow _ false (splice (List.replicate ((k : Int)).toNat (AV.int .i64 0)) 0 ([AV.int .i64 v].take ((k : Int)).toNat))]
    rw [repL_ints, Int.toNat_natCast, List.take_of_length_le (by simpa using h1)]
    obtain ⟨d, rfl⟩ : ∃ d, k = d + 1 := ⟨k - 1, by omega⟩
    rw [Nat.add_sub_cancel]
    unfold splice
    simp only [List.take_zero, List.nil_append, List.length_cons, List.length_nil, List.replicate_succ, List.drop_succ_cons, List.drop_zero, Nat.zero_add, List.replicate_zero]
  · show some (AV.int .i64 _) = _
    rw [Int.toNat_natCast]
    refine congrArg (fun z => some (AV.int .i64 z)) ?_
    obtain ⟨d, rfl⟩ : ∃ d, k = d + 1 := ⟨k - 1, by omega⟩
    show ((min 1 (d + 1) : Nat) : Int) = _
    omega
  rintro c ⟨g1, g2⟩
  have hl := repL_len (v := v) g2
  have hl2 : (ints (repL v k c)).length = k := by rw [ints_len, hl]
  have hsp := rep_splice (v := v) g2
  have hw : wide 1 (List.take ((c : Int) - 0).toNat (List.drop (Int.toNat 0) (ints (repL v k c)))) = true := by
    show wide 1 (List.take _ (List.drop _ ((repL v k c).map (AV.int .i64)))) = true
    rw [← List.map_drop, ← List.map_take]; exact wideI _
  have hl3 : (List.take ((c : Int) - 0).toNat (List.drop (Int.toNat 0) (ints (repL v k c)))).length = c := by
    rw [List.length_take, List.length_drop, hl2, show Int.toNat 0 = 0 from rfl]; omega
  conv => whnf
  repeat' first | ((with_reducible apply XBr.dec) <;> (intro h; first | (exfalso; omega) | ((try simp only [List.length_map] at h); first | (exfalso; omega) | (conv => whnf)))) | ((with_reducible refine XInt.i64 (by omega) (by omega) ?_); conv => whnf) | ((with_reducible refine XHold.mk ?_ ?_); (first | omega | rfl | decide | exact ⟨rfl, by decide, rfl⟩ | exact wideI _ | exact widePr _ | exact wideSk _ | (unfold Room; constructor <;> ((try simp) <;> omega)) | exact ⟨rfl, by simp only [List.length_map], by unfold Room; constructor <;> ((try simp) <;> omega)⟩ | exact ⟨by omega, by omega, by unfold Room; constructor <;> ((try simp) <;> omega)⟩); conv => whnf) | (with_reducible apply XAnd.mk) | ((first | (with_reducible apply Chk.go) | (with_reducible apply ChkA.go) | (with_reducible apply ChkF.go) | (with_reducible apply ChkB.go)); conv => whnf) | (exact XSame.mk rfl rfl) | (with_reducible exact trivial) | (apply Walk.drawN (id := 9) tab_ok mixed_ok [] [7] (hsC [_, _]) [_, _, _, _, _, _, _, _, _, _] (by kernel_rfl) rfl) | ((first | (with_reducible apply XNext.mk) | (refine XHold.mk ⟨⟨by omega, by omega, by omega, by omega⟩, hl2, rfl⟩ ?_) | (refine XHold.mk ⟨rfl, hl2, by omega⟩ ?_) | (refine XPutEls.mk ?_)); conv => whnf) | fail
  · refine XAgain.go (c + min (k - c) c) ⟨by omega, by omega⟩ (by omega) ?_ ⟨rfl, rfl, ?_, trivial⟩
    · show [Blk.grow _ false (ints (repL v k (c + min (k - c) c)))] = [Blk.grow _ false (splice (ints (repL v k c)) _ ((List.take ((c : Int) - 0).toNat (List.drop (Int.toNat 0) (ints (repL v k c)))).take ((k : Int) - c).toNat))]
      rw [← hsp, show ((c : Int) - 0).toNat = c by omega, show ((k : Int) - c).toNat = k - c by omega]
      rfl
    · show some (AV.int .i64 _) = _
      refine congrArg (fun z => some (AV.int .i64 z)) ?_
      rw [hl3]; omega
  · obtain rfl : c = k := by omega
    have e : repL v c c = List.replicate c v := by unfold repL; rw [Nat.sub_self]; exact List.append_nil _
    rw [e] at hl2 ⊢
    exact ⟨Froz.grow rfl hl2 (lowI _)⟩
def bShareE (b : Bd) (share : Int) : Int := if bedE b ≠ 0 then bedE b else if inZ share 0 b.room = false then 3 else 0
theorem bShareE_iff {b : Bd} {share : Int} : bShareE b share = 0 ↔ BdOk b ∧ 0 ≤ share ∧ share ≤ b.room := by
  unfold bShareE
  by_cases hb : bedE b = 0
  · rw [if_neg (fun h => h hb)]
    cases hi : inZ share 0 b.room
    · rw [if_pos rfl]
      refine ⟨(fun h => by cases h), (fun h => ?_)⟩
      rw [inZ_iff.2 h.2] at hi; cases hi
    · rw [if_neg (by simp)]
      exact ⟨fun _ => ⟨(bedE_iff b).1 hb, inZ_iff.1 hi⟩, fun _ => rfl⟩
  · rw [if_pos hb]
    exact ⟨fun h => absurd h hb, fun h => (bedE_iff b).2 h.1⟩
def bSharedA (b : Bd) (share : Int) : AV := .tup [if bedE b = 0 then dskA b else .nilp, .int .i64 (bShareE b share)]
theorem bShared_c (b : Bd) (share : Int) (hm : b.months.length ≤ 100000) (hs : b.surveys.length ≤ 100000) : Comp Tryz.prog 95 [bedA b, .int .i64 share] (bSharedA b share) := by
  unfold bSharedA bShareE
  by_cases hb : bedE b = 0
  · have ok := (bedE_iff b).1 hb
    have ho := bOpened_c b ok
    have ha := bedAmount_c b share
    rw [if_pos hb, if_neg (fun h => h hb)]
    generalize inZ share 0 b.room = r at ha
    refine Comp.body (T := tab) (res := [.tmp 4, .tmp 5]) tab_ok [] Tryz.func95 rfl (by kernel_rfl) Tryz.ntmps95 rfl (by simp only [List.length_cons, List.length_nil]; decide) (by simp only [lowL, bedL, AV.low]; rfl) ?_; conv => whnf
    repeat' first | ((with_reducible apply XBr.tt); conv => whnf) | (with_reducible apply XBr.not) | ((with_reducible apply XBr.beq) <;> (intro h; first | (exfalso; omega) | (conv => whnf))) | ((first | (refine XCall.ret ho ?_) | (refine XCall.ret ha ?_)); conv => whnf) | ((with_reducible apply XBr.mk') <;> (intro h; conv => whnf)) | fail
    · rename_i h
      rw [if_neg (by rw [h]; simp)]; exact ⟨.low (by simp only [pack, AV.low, lowL, dskL]; rfl)⟩
    · rename_i h
      rw [if_pos h]; exact ⟨.low (by simp only [pack, AV.low, lowL, dskL]; rfl)⟩
  · have ho := bOpenedE_c b hm hs hb
    rw [if_neg hb, if_pos hb]
    generalize bedE b = e at ho hb
    refine Comp.body (T := tab) (res := [.tmp 4, .tmp 5]) tab_ok [] Tryz.func95 rfl (by kernel_rfl) Tryz.ntmps95 rfl (by simp only [List.length_cons, List.length_nil]; decide) (by simp only [lowL, bedL, AV.low]; rfl) ?_; conv => whnf
    repeat' first | ((with_reducible apply XBr.ff); conv => whnf) | ((with_reducible apply XBr.beq) <;> (intro h; first | (exfalso; omega) | (conv => whnf))) | ((refine XCall.ret ho ?_); conv => whnf) | fail
    exact ⟨.low rfl⟩
def evenF (b : Bd) (share : Int) : Nat → Int
  | 0 => -1
  | n + 1 => if keepB b (List.replicate b.months.length (n : Int)) share = true then n else evenF b share n
def evenA (b : Bd) (share : Int) : AV := if bShareE b share ≠ 0 then .tup [.int .i64 0, .int .i64 (bShareE b share)] else if evenF b share (b.room.toNat + 1) < 0 then .tup [.int .i64 0, .int .i64 6] else .tup [.int .i64 (evenF b share (b.room.toNat + 1)), .int .i64 0]
theorem even_c (b : Bd) (share : Int) (hm : b.months.length ≤ 100000) (hs : b.surveys.length ≤ 100000) : Comp Tryz.prog 105 [bedA b, .int .i64 share] (evenA b share) := by
  have hsh := bShared_c b share hm hs
  unfold evenA
  by_cases hE : bShareE b share = 0
  · obtain ⟨ok, h1, h2⟩ := bShareE_iff.1 hE
    have m1 := ok.m1
    have m2 := ok.m2
    have r1 := ok.r1
    have r2 := ok.r2
    have e1 : ((b.months.map moA).length : Int) = b.months.length := by rw [List.length_map]
    unfold bSharedA at hsh
    rw [hE, if_pos ((bedE_iff b).2 ok)] at hsh
    rw [if_neg (fun h => h hE)]
    refine Comp.body (T := tab) (res := [.tmp 4, .tmp 5]) tab_ok [] Tryz.func105 rfl (by kernel_rfl) Tryz.ntmps105 rfl (by simp only [List.length_cons, List.length_nil]; decide) (by simp only [lowL, bedL, AV.low]; rfl) ?_; conv => whnf
    repeat' first | ((with_reducible apply XBr.bne) <;> (intro h; first | (exfalso; omega) | (conv => whnf))) | ((first | (with_reducible refine XInt.i64 (by omega) (by omega) ?_) | (refine XCall.ret hsh ?_)); conv => whnf) | fail
    refine Walk.loopK tab_ok [] [(1, _), (2, _), (4, _), (5, _), (23, _)] ⟨rfl, rfl, rfl, rfl, rfl, trivial⟩ (fun n : Nat => (n : Int) ≤ b.room + 1) (fun n => [(8, .int .i64 (evenF b share n)), (24, natA n)]) (fun _ => []) (fun n => (b.room + 1).toNat - n) 0 (by omega) rfl ⟨rfl, rfl, trivial⟩ ?_
    intro n hn
    have hk := fun (h : (n : Int) ≤ b.room) => keeps_c b false (List.replicate b.months.length (n : Int)) share (by omega) (by omega) (by rw [List.length_replicate]; omega)
    have hkA : (n : Int) ≤ b.room → keepsA b (List.replicate b.months.length (n : Int)) share = .tup [.bool (keepB b (List.replicate b.months.length (n : Int)) share), .int .i64 0] := fun h => by
      unfold keepsA
      rw [if_neg (fun h' => h' (planE_iff.2 ⟨ok, List.length_replicate, fun x hx => by rw [List.eq_of_mem_replicate hx]; omega⟩)), if_neg (by rw [inZ_iff.2 ⟨h1, h2⟩]; simp)]
    have hr := repeat_c (n : Int) b.months.length (by omega) (by omega)
    have hev : evenF b share (n + 1) = if keepB b (List.replicate b.months.length (n : Int)) share = true then (n : Int) else evenF b share n := rfl
    conv => whnf
    by_cases hlt : (n : Int) ≤ b.room
    · have hk := hk hlt
      rw [hkA hlt] at hk
      generalize keepB b (List.replicate b.months.length (n : Int)) share = r at hk hev
      have hr' : Comp Tryz.prog 165 [.sl false [.int .i64 (n : Int)], .int .i64 ((b.months.map moA).length : Int)] (.sl false (ints (List.replicate b.months.length (n : Int)))) := by rw [e1]; exact hr
      repeat' first | ((with_reducible apply XBr.dec) <;> (intro h; first | (exfalso; omega) | ((try simp only [List.length_map] at h); first | (exfalso; omega) | (conv => whnf)))) | ((with_reducible refine XInt.i64 (by omega) (by omega) ?_); conv => whnf) | ((with_reducible refine XHold.mk ?_ ?_); (first | omega | rfl | decide | exact ⟨rfl, by decide, rfl⟩ | exact wideI _ | exact widePr _ | exact wideSk _ | (unfold Room; constructor <;> ((try simp) <;> omega)) | exact ⟨rfl, by simp only [List.length_map], by unfold Room; constructor <;> ((try simp) <;> omega)⟩ | exact ⟨by omega, by omega, by unfold Room; constructor <;> ((try simp) <;> omega)⟩); conv => whnf) | (with_reducible apply XAnd.mk) | ((first | (with_reducible apply Chk.go) | (with_reducible apply ChkA.go) | (with_reducible apply ChkF.go) | (with_reducible apply ChkB.go)); conv => whnf) | (exact XSame.mk rfl rfl) | (with_reducible exact trivial) | (apply Walk.drawN (id := 8) tab_ok mixed_ok [] [] (hsU _) [_, _, _, _, _, _, _, _, _, _, _, _, _, _] (by kernel_rfl) rfl) | ((first | (with_reducible apply XNext.mk) | (refine XCall.ret hr' ?_) | (refine XCall.ret hk ?_)); conv => whnf) | ((with_reducible apply XBr.mk') <;> (intro h; conv => whnf)) | fail
      · rename_i h
        rw [if_pos h] at hev
        refine XAgain.go (n + 1) (by omega) (by omega) rfl ⟨rfl, rfl, rfl, rfl, rfl, ?_, rfl, trivial⟩
        rw [hev]; rfl
      · rename_i h
        rw [if_neg (by rw [h]; simp)] at hev
        refine XAgain.go (n + 1) (by omega) (by omega) rfl ⟨rfl, rfl, rfl, rfl, rfl, ?_, rfl, trivial⟩
        rw [hev]; rfl
    · obtain rfl : n = b.room.toNat + 1 := by omega
      clear hk hkA hr hev
      generalize evenF b share (b.room.toNat + 1) = z
      repeat' first | ((with_reducible apply XBr.dec) <;> (intro h; first | (exfalso; omega) | ((try simp only [List.length_map] at h); first | (exfalso; omega) | (conv => whnf)))) | fail
      · rename_i h
        rw [if_pos h]; exact ⟨.low rfl⟩
      · rename_i h
        rw [if_neg h]; exact ⟨.low rfl⟩
  · rw [if_pos hE]
    have hE2 : ∃ d, bSharedA b share = .tup [d, .int .i64 (bShareE b share)] ∧ d.low 0 = true := by
      unfold bSharedA
      refine ⟨_, rfl, ?_⟩
      split
      · exact dskL b
      · rfl
    obtain ⟨d, hd, hd2⟩ := hE2
    rw [hd] at hsh
    generalize bShareE b share = e at hsh hE
    refine Comp.body (T := tab) (res := [.tmp 4, .tmp 5]) tab_ok [] Tryz.func105 rfl (by kernel_rfl) Tryz.ntmps105 rfl (by simp only [List.length_cons, List.length_nil]; decide) (by simp only [lowL, bedL, AV.low]; rfl) ?_; conv => whnf
    repeat' first | ((with_reducible apply XBr.bne) <;> (intro h; first | (exfalso; omega) | (conv => whnf))) | ((refine XCall.ret hsh ?_); conv => whnf) | fail
    exact ⟨.low rfl⟩
theorem chs_low {n : Nat} (l : List (Int × Int)) : lowL n (chsA l) = true := lowL_map (fun _ => rfl) l
end GA
end

section
namespace GA
open Go Go.RowKit Go.Proofs
set_option pp.deepTerms true
set_option maxRecDepth 8000
set_option linter.unusedVariables false
set_option linter.unusedSimpArgs false

def flrStep (b : Bd) (m : Nat) (v : Int) : Option Nat := (List.range (b.room.toNat + 1)).find? fun n => decide (v ≤ lieR b m n)
def flrL (b : Bd) (share : Int) : Nat → Option (List Int)
  | 0 => some [share]
  | k + 1 => match flrL b share k with
    | none => none
    | some l => match flrStep b (b.months.length - (k + 1)) (l.headD 0) with
      | none => none
      | some n => some ((n : Int) :: l)
theorem flrL_none {b : Bd} {share : Int} {k : Nat} (h : flrL b share k = none) : ∀ d, flrL b share (k + d) = none
  | 0 => h
  | d + 1 => by show flrL b share (k + d + 1) = none; rw [flrL, flrL_none h d]
theorem flrL_len {b : Bd} {share : Int} : ∀ {k : Nat} {l : List Int}, flrL b share k = some l → l.length = k + 1
  | 0, l, h => by rw [flrL] at h; cases h; rfl
  | k + 1, l, h => by
    rw [flrL] at h
    cases h1 : flrL b share k with
    | none => rw [h1] at h; cases h
    | some l1 =>
      rw [h1] at h; dsimp only at h
      cases h2 : flrStep b (b.months.length - (k + 1)) (l1.headD 0) with
      | none => rw [h2] at h; cases h
      | some n => rw [h2] at h; cases h; rw [List.length_cons, flrL_len h1]
def flrA (o : Option (List Int)) : AV := match o with | none => .sl true [] | some l => .sl false (ints l)
theorem bFloor_c (b : Bd) (ok : BedOk b) (share : Int) : Comp Tryz.prog 164 [dskA b, .int .i64 share] (flrA (flrL b share b.months.length)) := by
  have m1 := ok.m1
  have m2 := ok.m2
  have r1 := ok.r1
  have r2 := ok.r2
  have e1 : ((b.months.map moA).length : Int) = b.months.length := by rw [List.length_map]
  refine Comp.body (T := tab) (res := [.tmp 4]) tab_ok [9, 61] Tryz.func164 rfl (by kernel_rfl) Tryz.ntmps164 rfl (by simp only [List.length_cons, List.length_nil]; decide) (by simp only [lowL, dskL, AV.low]; rfl) ?_; conv => whnf
  repeat' first | ((with_reducible refine XInt.i64 (by omega) (by omega) ?_); conv => whnf) | ((with_reducible refine XHold.mk ?_ ?_); (first | omega | rfl | decide | exact ⟨rfl, by decide, rfl⟩ | exact wideI _ | exact widePr _ | exact wideSk _ | (unfold Room; constructor <;> ((try simp) <;> omega)) | exact ⟨rfl, by simp only [List.length_map], by unfold Room; constructor <;> ((try simp) <;> omega)⟩ | exact ⟨by omega, by omega, by unfold Room; constructor <;> ((try simp) <;> omega)⟩); conv => whnf) | fail
  refine Walk.loopGK tab_ok [9, 61] [(0, _)] ⟨rfl, trivial⟩ (fun q : Nat × Int × List Int => q.1 ≤ b.months.length ∧ flrL b share q.1 = some (q.2.1 :: q.2.2)) (fun q => [(4, .sl true []), (5, .gr 0 (q.2.2.length + 1)), (6, .int .i64 ((b.months.length : Int) - 1 - q.1))]) (fun q => [.grow 3 false (ints (q.2.1 :: q.2.2))]) (fun q => b.months.length - q.1) (0, share, []) ⟨Nat.zero_le _, rfl⟩ rfl ⟨rfl, rfl, congrArg (fun z => some (AV.int .i64 z)) (by dsimp only; omega), trivial⟩ ?_ (fun _ _ => (show (1 : Nat) ≤ 1 from Nat.le_refl 1)) ?_
  · intro q _
    refine ⟨fun z hz => ?_, fun z hz => ?_⟩
    · rw [List.mem_singleton] at hz; subst hz; exact lowI _
    · simp only [List.cons_append, List.nil_append, List.mem_cons, List.not_mem_nil, or_false] at hz
      rcases hz with rfl | rfl | rfl | rfl <;> first | exact dskL b | rfl
  rintro ⟨k, v, ys⟩ ⟨hk, hf⟩
  dsimp only at hk hf ⊢
  have hlen := flrL_len hf
  simp only [List.length_cons] at hlen
  conv => whnf
  by_cases hkm : k < b.months.length
  · obtain ⟨m, hm⟩ : ∃ m : Nat, (b.months.length : Int) - 1 - k = m := ⟨b.months.length - 1 - k, by omega⟩
    have hm1 : m < b.months.length := by omega
    have hmo := ok.mo' hm1
    have hnx : flrL b share (k + 1) = match flrStep b m v with | none => none | some n => some ((n : Int) :: v :: ys) := by
      rw [flrL, hf]
      dsimp only
      rw [show b.months.length - (k + 1) = m by omega]; rfl
    rw [hm]
    repeat' first | ((with_reducible apply XBr.dec) <;> (intro h; first | (exfalso; omega) | ((try simp only [List.length_map] at h); first | (exfalso; omega) | (conv => whnf)))) | fail
    refine Walk.loopK tab_ok [9, 61] [(0, _), (4, _), (5, _), (6, _)] ⟨rfl, rfl, rfl, rfl, trivial⟩ (fun n : Nat => (n : Int) ≤ b.room + 1 ∧ ∀ q, q < n → lieR b m q < v) (fun n => [(7, natA n)]) (fun _ => [.grow 3 false (ints (v :: ys))]) (fun n => (b.room + 1).toNat - n) 0 ⟨by omega, fun q hq => by omega⟩ rfl ⟨rfl, trivial⟩ ?_
    rintro n ⟨hn, hq⟩
    have hgc := fun (h : (n : Int) ≤ b.room) => gross_c b m n (moB b m).pl (moB b m).th hm1 (by omega) (by omega) hmo.1 hmo.2.1 (by omega) (by omega) (by omega) (by omega) (by omega) (by omega)
    change (n : Int) ≤ b.room → Comp Tryz.prog _ _ (.int .i64 (lieR b m n)) at hgc
    have hlb := lieR_b ok (j := m) (n := n) hm1
    conv => whnf
    by_cases hle : (n : Int) ≤ b.room
    · have hgc := hgc hle
      repeat' first | ((with_reducible apply XBr.dec) <;> (intro h; first | (exfalso; omega) | ((try simp only [List.length_map] at h); first | (exfalso; omega) | (conv => whnf)))) | ((with_reducible refine XInt.i64 (by omega) (by omega) ?_); conv => whnf) | ((with_reducible refine XHold.mk ?_ ?_); (first | omega | rfl | decide | exact ⟨rfl, by decide, rfl⟩ | exact wideI _ | exact widePr _ | exact wideSk _ | (unfold Room; constructor <;> ((try simp) <;> omega)) | exact ⟨rfl, by simp only [List.length_map], by unfold Room; constructor <;> ((try simp) <;> omega)⟩ | exact ⟨by omega, by omega, by unfold Room; constructor <;> ((try simp) <;> omega)⟩); conv => whnf) | (((with_reducible refine XIx.nat ?_ ?_ ?_); omega; (intro _; rfl)); conv => whnf) | (with_reducible apply XAnd.mk) | ((first | (with_reducible apply Chk.go) | (with_reducible apply ChkA.go) | (with_reducible apply ChkF.go) | (with_reducible apply ChkB.go)); conv => whnf) | (exact XSame.mk rfl rfl) | (with_reducible exact trivial) | (apply Walk.drawN (id := 6) tab_ok mixed_ok [9, 61] [] (hsU _) [_, _, _, _, _, _, _, _, _, _, _, _, _, _, _, _, _, _, _, _, _, _, _, _, _, _, _, _, _] (by kernel_rfl) rfl) | ((first | (with_reducible apply XNext.mk) | (refine XCall.ret (worst_c (moB b m)) ?_) | (refine XCall.ret hgc ?_) | (refine XHold.mk ⟨by rw [ints_len]; rfl, rfl, by omega, by omega⟩ ?_) | (refine XGet.mk (by rw [ints_len]; rfl) (by omega) ?_)); conv => whnf) | fail
      · exact XAgain.go (n + 1) ⟨by omega, fun q hqn => by
          rcases Nat.lt_or_ge q n with h1 | h1
          · exact hq q h1
          · obtain rfl : q = n := by omega
            assumption⟩ (by omega) rfl ⟨rfl, rfl, rfl, rfl, rfl, trivial⟩
      · rename_i hnv
        have hst : flrStep b m v = some n := by
          refine List.find?_range_eq_some.2 ⟨?_, List.mem_range.2 (by omega), fun q h => ?_⟩
          · rw [decide_eq_true_eq]; exact Int.not_lt.1 hnv
          · have := hq q h; simp; omega
        rw [hst] at hnx
        refine XCall.insert (p := 0) rfl rfl (by decide) (by rfl) (by omega) (by omega) (by omega) ?_
        conv => whnf
        repeat' first | ((with_reducible refine XInt.i64 (by omega) (by omega) ?_); conv => whnf) | fail
        refine XAgainG.go (k + 1, (n : Int), v :: ys) [.grow 3 false [natA n]] ⟨by dsimp only; omega, hnx⟩ (by dsimp only; omega) rfl ⟨rfl, rfl, rfl, ?_, trivial⟩
        exact congrArg (fun z => some (AV.int .i64 z)) (by dsimp only; omega)
    · have hst : flrStep b m v = none := List.find?_range_eq_none.2 fun q h => by have := hq q (by omega); simp; omega
      rw [hst] at hnx
      have hno : flrL b share b.months.length = none := by
        have := flrL_none hnx (b.months.length - (k + 1))
        rwa [show k + 1 + (b.months.length - (k + 1)) = b.months.length by omega] at this
      rw [hno]
      repeat' first | ((with_reducible apply XBr.ff); conv => whnf) | ((with_reducible apply XBr.dec) <;> (intro h; first | (exfalso; omega) | ((try simp only [List.length_map] at h); first | (exfalso; omega) | (conv => whnf)))) | (with_reducible apply XAnd.mk) | ((first | (with_reducible apply Chk.go) | (with_reducible apply ChkA.go) | (with_reducible apply ChkF.go) | (with_reducible apply ChkB.go)); conv => whnf) | (exact XSame.mk rfl rfl) | (with_reducible exact trivial) | (apply Walk.drawN (id := 6) tab_ok mixed_ok [9, 61] [] (hsU _) [_, _, _, _, _, _, _, _, _, _, _, _, _, _, _, _, _, _, _, _, _, _, _, _, _, _, _, _, _] (by kernel_rfl) rfl) | ((with_reducible apply XNext.mk); conv => whnf) | fail
      exact ⟨.low rfl⟩
  · obtain rfl : k = b.months.length := by omega
    repeat' first | ((with_reducible apply XBr.dec) <;> (intro h; first | (exfalso; omega) | ((try simp only [List.length_map] at h); first | (exfalso; omega) | (conv => whnf)))) | fail
    rw [hf]
    exact ⟨Froz.grow rfl (by rw [ints_len]; rfl) (lowI _)⟩
def floorA (b : Bd) (share : Int) : AV := if bShareE b share ≠ 0 then .tup [.sl true [], .int .i64 (bShareE b share)] else match flrL b share b.months.length with | none => .tup [.sl true [], .int .i64 6] | some l => .tup [.sl false (ints l), .int .i64 0]
theorem bSharedA_eq (b : Bd) (share : Int) : ∃ d, bSharedA b share = .tup [d, .int .i64 (bShareE b share)] ∧ d.low 0 = true := by
  unfold bSharedA
  refine ⟨_, rfl, ?_⟩
  split
  · exact dskL b
  · rfl
theorem bSharedA_ok {b : Bd} {share : Int} (h : bShareE b share = 0) : bSharedA b share = .tup [dskA b, .int .i64 0] := by
  unfold bSharedA
  rw [h, if_pos ((bedE_iff b).2 (bShareE_iff.1 h).1)]
theorem floor_all_c (b : Bd) (share : Int) (hm : b.months.length ≤ 100000) (hs : b.surveys.length ≤ 100000) : Comp Tryz.prog 104 [bedA b, .int .i64 share] (floorA b share) := by
  have hsh := bShared_c b share hm hs
  unfold floorA
  by_cases hE : bShareE b share = 0
  · obtain ⟨ok, h1, h2⟩ := bShareE_iff.1 hE
    have hf := bFloor_c b ok.toBedOk share
    rw [bSharedA_ok hE] at hsh
    rw [if_neg (fun h => h hE)]
    generalize flrL b share b.months.length = o at hf
    cases o
    · refine Comp.body (T := tab) (res := [.tmp 4, .tmp 5]) tab_ok [] Tryz.func104 rfl (by kernel_rfl) Tryz.ntmps104 rfl (by simp only [List.length_cons, List.length_nil]; decide) (by simp only [lowL, bedL, AV.low]; rfl) ?_; conv => whnf
      repeat' first | ((with_reducible apply XBr.tt); conv => whnf) | ((with_reducible apply XBr.bne) <;> (intro h; first | (exfalso; omega) | (conv => whnf))) | ((first | (refine XCall.ret hsh ?_) | (refine XCall.ret hf ?_)); conv => whnf) | fail
      exact ⟨.low rfl⟩
    · refine Comp.body (T := tab) (res := [.tmp 4, .tmp 5]) tab_ok [] Tryz.func104 rfl (by kernel_rfl) Tryz.ntmps104 rfl (by simp only [List.length_cons, List.length_nil]; decide) (by simp only [lowL, bedL, AV.low]; rfl) ?_; conv => whnf
      repeat' first | ((with_reducible apply XBr.ff); conv => whnf) | ((with_reducible apply XBr.bne) <;> (intro h; first | (exfalso; omega) | (conv => whnf))) | ((first | (refine XCall.ret hsh ?_) | (refine XCall.ret hf ?_)); conv => whnf) | fail
      exact ⟨.low (by simp only [pack, AV.low, lowL, flrA, lowI]; rfl)⟩
  · rw [if_pos hE]
    obtain ⟨d, hd, hd2⟩ := bSharedA_eq b share
    rw [hd] at hsh
    generalize bShareE b share = e at hsh hE
    refine Comp.body (T := tab) (res := [.tmp 4, .tmp 5]) tab_ok [] Tryz.func104 rfl (by kernel_rfl) Tryz.ntmps104 rfl (by simp only [List.length_cons, List.length_nil]; decide) (by simp only [lowL, bedL, AV.low]; rfl) ?_; conv => whnf
    repeat' first | ((with_reducible apply XBr.bne) <;> (intro h; first | (exfalso; omega) | (conv => whnf))) | ((refine XCall.ret hsh ?_); conv => whnf) | fail
    exact ⟨.low rfl⟩
def leaveA (b : Bd) (m a sp st : Int) : AV :=
  if bedE b ≠ 0 then .tup [.int .i64 0, .int .i64 (bedE b)]
  else if inZ m 0 ((b.months.length : Int) - 1) = false then .tup [.int .i64 0, .int .i64 1]
  else if inZ a 0 b.room = false then .tup [.int .i64 0, .int .i64 3]
  else if chanceB (moB b m.toNat) sp st = false then .tup [.int .i64 0, .int .i64 8]
  else if grossR b.room (moB b m.toNat).g a sp st - (moB b m.toNat).r < 0 then .tup [.int .i64 0, .int .i64 9]
  else .tup [.int .i64 (grossR b.room (moB b m.toNat).g a sp st - (moB b m.toNat).r), .int .i64 0]
theorem leaves_all_c (b : Bd) (m a sp st : Int) (hm : b.months.length ≤ 100000) (hs : b.surveys.length ≤ 100000) : Comp Tryz.prog 103 [bedA b, .int .i64 m, .int .i64 a, chA sp st] (leaveA b m a sp st) := by
  unfold leaveA
  have e1 : ((b.months.map moA).length : Int) = b.months.length := by rw [List.length_map]
  by_cases hb : bedE b = 0
  · have ok := (bedE_iff b).1 hb
    have r1 := ok.r1
    have r2 := ok.r2
    have ho := bOpened_c b ok
    have hmn := bMonth_c b m hm
    have ham := bedAmount_c b a
    rw [if_neg (fun h => h hb)]
    by_cases h1 : inZ m 0 ((b.months.length : Int) - 1) = false
    · rw [h1] at hmn
      rw [if_pos h1]
      refine Comp.body (T := tab) (res := [.tmp 8, .tmp 9]) tab_ok [] Tryz.func103 rfl (by kernel_rfl) Tryz.ntmps103 rfl (by simp only [List.length_cons, List.length_nil]; decide) (by simp only [lowL, bedL, AV.low]; rfl) ?_; conv => whnf
      repeat' first | ((with_reducible apply XBr.ff); conv => whnf) | (with_reducible apply XBr.not) | ((with_reducible apply XBr.bne) <;> (intro h; first | (exfalso; omega) | (conv => whnf))) | ((first | (refine XCall.ret ho ?_) | (refine XCall.ret hmn ?_)); conv => whnf) | fail
      exact ⟨.low rfl⟩
    · rw [if_neg h1]
      rw [Bool.not_eq_false] at h1
      rw [h1] at hmn
      by_cases h2 : inZ a 0 b.room = false
      · rw [h2] at ham
        rw [if_pos h2]
        refine Comp.body (T := tab) (res := [.tmp 8, .tmp 9]) tab_ok [] Tryz.func103 rfl (by kernel_rfl) Tryz.ntmps103 rfl (by simp only [List.length_cons, List.length_nil]; decide) (by simp only [lowL, bedL, AV.low]; rfl) ?_; conv => whnf
        repeat' first | ((first | (with_reducible apply XBr.tt) | (with_reducible apply XBr.ff)); conv => whnf) | (with_reducible apply XBr.not) | ((with_reducible apply XBr.bne) <;> (intro h; first | (exfalso; omega) | (conv => whnf))) | ((first | (refine XCall.ret ho ?_) | (refine XCall.ret hmn ?_) | (refine XCall.ret ham ?_)); conv => whnf) | fail
        exact ⟨.low rfl⟩
      · rw [if_neg h2]
        rw [Bool.not_eq_false] at h2
        rw [h2] at ham
        obtain ⟨q1, q2⟩ := inZ_iff.1 h1
        obtain ⟨q3, q4⟩ := inZ_iff.1 h2
        obtain ⟨k, rfl⟩ : ∃ k : Nat, m = k := ⟨m.toNat, by omega⟩
        rw [Int.toNat_natCast]
        have hk : k < b.months.length := by omega
        have hmo := ok.mo' hk
        have hch := bChance_c (moB b k) sp st
        by_cases h3 : chanceB (moB b k) sp st = false
        · rw [h3] at hch
          rw [if_pos h3]
          refine Comp.body (T := tab) (res := [.tmp 8, .tmp 9]) tab_ok [] Tryz.func103 rfl (by kernel_rfl) Tryz.ntmps103 rfl (by simp only [List.length_cons, List.length_nil]; decide) (by simp only [lowL, bedL, AV.low]; rfl) ?_; conv => whnf
          repeat' first | ((first | (with_reducible apply XBr.tt) | (with_reducible apply XBr.ff)); conv => whnf) | (with_reducible apply XBr.not) | ((with_reducible apply XBr.bne) <;> (intro h; first | (exfalso; omega) | (conv => whnf))) | (((with_reducible refine XIx.nat ?_ ?_ ?_); omega; (intro _; rfl)); conv => whnf) | (with_reducible apply XAnd.mk) | ((first | (with_reducible apply Chk.go) | (with_reducible apply ChkA.go) | (with_reducible apply ChkF.go) | (with_reducible apply ChkB.go)); conv => whnf) | (exact XSame.mk rfl rfl) | (with_reducible exact trivial) | (apply Walk.drawN (id := 8) tab_ok mixed_ok [] [] (hsU _) [_, _, _, _, _, _, _, _, _] (by kernel_rfl) rfl) | ((first | (with_reducible apply XNext.mk) | (refine XCall.ret ho ?_) | (refine XCall.ret hmn ?_) | (refine XCall.ret ham ?_) | (refine XCall.ret hch ?_)); conv => whnf) | fail
          exact ⟨.low rfl⟩
        · rw [if_neg h3]
          rw [Bool.not_eq_false] at h3
          rw [h3] at hch
          unfold chanceB at h3
          rw [Bool.and_eq_true, inZ_iff, inZ_iff] at h3
          have hg := gross_c b k a sp st hk q3 (by omega) hmo.1 hmo.2.1 (by omega) (by omega) (by omega) (by omega) (by omega) (by omega)
          change Comp Tryz.prog _ _ (.int .i64 (grossR b.room (moB b k).g a sp st)) at hg
          have hgb := grossR_le (room := b.room) (g := (moB b k).g) (a := a) (sp := sp) (st := st) (by omega) (by omega)
          generalize grossR b.room (moB b k).g a sp st = z at hg hgb
          refine Comp.body (T := tab) (res := [.tmp 8, .tmp 9]) tab_ok [] Tryz.func103 rfl (by kernel_rfl) Tryz.ntmps103 rfl (by simp only [List.length_cons, List.length_nil]; decide) (by simp only [lowL, bedL, AV.low]; rfl) ?_; conv => whnf
          repeat' first | ((with_reducible apply XBr.tt); conv => whnf) | (with_reducible apply XBr.not) | ((with_reducible apply XBr.dec) <;> (intro h; first | (exfalso; omega) | ((try simp only [List.length_map] at h); first | (exfalso; omega) | (conv => whnf)))) | ((with_reducible apply XBr.bne) <;> (intro h; first | (exfalso; omega) | (conv => whnf))) | (((with_reducible refine XIx.nat ?_ ?_ ?_); omega; (intro _; rfl)); conv => whnf) | (with_reducible apply XAnd.mk) | ((first | (with_reducible apply Chk.go) | (with_reducible apply ChkA.go) | (with_reducible apply ChkF.go) | (with_reducible apply ChkB.go)); conv => whnf) | (exact XSame.mk rfl rfl) | (with_reducible exact trivial) | (apply Walk.drawN (id := 8) tab_ok mixed_ok [] [] (hsU _) [_, _, _, _, _, _, _, _, _] (by kernel_rfl) rfl) | (apply Walk.drawN (id := 10) tab_ok mixed_ok [] [] (hsU _) [_, _, _, _, _, _, _, _, _, _, _, _, _, _, _, _] (by kernel_rfl) rfl) | ((first | (with_reducible apply XNext.mk) | (refine XCall.ret ho ?_) | (refine XCall.ret hmn ?_) | (refine XCall.ret ham ?_) | (refine XCall.ret hch ?_) | (refine XCall.ret hg ?_) | (refine XInt.i64 (show _ ≤ z - (moB b k).r by omega) (show z - (moB b k).r ≤ _ by omega) ?_)); conv => whnf) | fail
          · rename_i h
            have h' : z - (moB b k).r < 0 := h
            rw [if_pos h']; exact ⟨.low rfl⟩
          · rename_i h
            have h' : ¬ z - (moB b k).r < 0 := h
            rw [if_neg h']; exact ⟨.low rfl⟩
  · have ho := bOpenedE_c b hm hs hb
    rw [if_pos hb]
    generalize bedE b = e at ho hb
    refine Comp.body (T := tab) (res := [.tmp 8, .tmp 9]) tab_ok [] Tryz.func103 rfl (by kernel_rfl) Tryz.ntmps103 rfl (by simp only [List.length_cons, List.length_nil]; decide) (by simp only [lowL, bedL, AV.low]; rfl) ?_; conv => whnf
    repeat' first | ((with_reducible apply XBr.bne) <;> (intro h; first | (exfalso; omega) | (conv => whnf))) | ((refine XCall.ret ho ?_); conv => whnf) | fail
    exact ⟨.low rfl⟩
end GA
end

section
namespace GA
open Go Go.RowKit Go.Proofs
set_option pp.deepTerms true
set_option maxRecDepth 8000
set_option linter.unusedVariables false
set_option linter.unusedSimpArgs false

def lstF (F : Nat → Bool) (n : Nat) : List Int := ((List.range n).filter F).map fun i : Nat => (i : Int)
theorem lstF_succ (F : Nat → Bool) (n : Nat) : lstF F (n + 1) = if F n = true then lstF F n ++ [(n : Int)] else lstF F n := by
  unfold lstF
  rw [List.range_succ, List.filter_append, List.map_append]
  by_cases h : F n = true
  · rw [if_pos h, List.filter_cons, if_pos h]; rfl
  · rw [if_neg h, List.filter_cons, if_neg h]; exact List.append_nil _
theorem lstF_len (F : Nat → Bool) (n : Nat) : (lstF F n).length ≤ n := by
  unfold lstF
  rw [List.length_map]; exact Nat.le_trans (List.length_filter_le _ _) (by simp)
theorem lstF_mem {F : Nat → Bool} {n : Nat} {x : Int} : x ∈ lstF F n ↔ ∃ i : Nat, i < n ∧ F i = true ∧ x = i := by
  unfold lstF
  simp only [List.mem_map, List.mem_filter, List.mem_range]
  constructor
  · rintro ⟨i, ⟨h1, h2⟩, rfl⟩; exact ⟨i, h1, h2, rfl⟩
  · rintro ⟨i, h1, h2, rfl⟩; exact ⟨i, ⟨h1, h2⟩, rfl⟩
def amA (F : Nat → Bool) : AV := .agg ((vecF 121 F).map .bool)
theorem amL {n : Nat} (F : Nat → Bool) : (amA F).low n = true := vec_low fun _ => rfl
theorem amList_c (F : Nat → Bool) : Comp Tryz.prog 161 [amA F] (slA (lstF F 121)) := by
  refine Comp.body (T := tab) (res := [.tmp 2]) tab_ok [] Tryz.func161 rfl (by kernel_rfl) Tryz.ntmps161 rfl (by simp only [List.length_cons, List.length_nil]; decide) (by simp only [lowL, amL]; rfl) ?_; conv => whnf
  repeat' first | ((refine xtk_vec rfl ?_); conv => whnf) | fail
  refine Walk.nilgr 3 3 rfl ?_
  refine Walk.loopK tab_ok [] [(2, _), (6, _)] ⟨rfl, rfl, trivial⟩ (fun n : Nat => n ≤ 121) (fun n => [(3, .gr 0 (lstF F n).length), (7, natA n)]) (fun n => [.grow 3 (lstF F n).isEmpty (ints (lstF F n))]) (fun n => 121 - n) 0 (Nat.zero_le _) rfl ⟨rfl, rfl, trivial⟩ ?_
  intro n hn
  have hs := lstF_succ F n
  have hl := lstF_len F n
  have hl2 : (ints (lstF F n)).length = (lstF F n).length := ints_len _
  generalize hc : F n = s at hs
  conv => whnf
  repeat' first | ((with_reducible apply XBr.dec) <;> (intro h; first | (exfalso; omega) | ((try simp only [List.length_map] at h); first | (exfalso; omega) | (conv => whnf)))) | ((with_reducible refine XInt.i64 (by omega) (by omega) ?_); conv => whnf) | ((with_reducible refine XHold.mk ?_ ?_); (first | omega | rfl | decide | exact ⟨rfl, by decide, rfl⟩ | exact wideI _ | exact widePr _ | exact wideSk _ | (unfold Room; constructor <;> ((try simp) <;> omega)) | exact ⟨rfl, by simp only [List.length_map], by unfold Room; constructor <;> ((try simp) <;> omega)⟩ | exact ⟨by omega, by omega, by unfold Room; constructor <;> ((try simp) <;> omega)⟩); conv => whnf) | (((refine xdrop_vec n (by omega) (by omega) ?_); rw [hc]); conv => whnf) | ((with_reducible apply XBr.mk') <;> (intro h; conv => whnf)) | fail
  all_goals try subst h
  · rw [if_pos rfl] at hs
    refine XAgain.go (n + 1) (by omega) (by omega) ?_ ⟨rfl, rfl, ?_, rfl, trivial⟩
    · rw [hs]
      show [Blk.grow _ (lstF F n ++ [(n : Int)]).isEmpty ((lstF F n ++ [(n : Int)]).map (AV.int .i64))] = _
      rw [isEmpty_app, List.map_append]; rfl
    · show some (AV.gr 0 ((lstF F n).length + 1)) = _
      rw [hs, List.length_append]; rfl
  · rw [if_neg (by simp)] at hs
    exact XAgain.go (n + 1) (by omega) (by omega) (by rw [hs]) ⟨rfl, rfl, by rw [hs]; rfl, rfl, trivial⟩
  · obtain rfl : n = 121 := by omega
    exact ⟨Froz.grow rfl hl2 (lowI _)⟩
def noneB (b : Bd) (p : Nat → Bool) : Bool := vecF 121 (cnB b p 0) == List.replicate 121 false
theorem noneB_iff {b : Bd} {p : Nat → Bool} : noneB b p = true ↔ ∀ n, n < 121 → cnB b p 0 n = false := by
  unfold noneB
  rw [beq_iff_eq, ← vecF_replicate]
  constructor
  · intro h n hn
    have := congrArg (fun l => l.getD n true) h
    simpa only [vecF_get _ hn] using this
  · exact fun h => vecF_congr h
theorem noneB_dec (b : Bd) (p : Nat → Bool) : noneB b p = (List.range 121).all fun n => !cnB b p 0 n := by
  rw [Bool.eq_iff_iff, noneB_iff, List.all_eq_true]
  simp
theorem xeqb0 {F : Nat → Bool} {k : Bool → Prop} (h : k (vecF 121 F == List.replicate 121 false)) : XEqB ((vecF 121 F).map .bool) (List.replicate 121 (.bool false)) 1048697 k :=
  ⟨vecF 121 F, List.replicate 121 false, rfl, by rw [List.map_replicate], by rw [vecF_len, List.length_replicate], by rw [vecF_len], h⟩
def alwP : Nat → Bool := fun _ => true
def canA (b : Bd) : AV := .sl false ((matF (b.months.length + 1) 121 (cnB b alwP)).map (arrF .bool))
theorem canA_low {n : Nat} (b : Bd) : (canA b).low n = true := mat_low fun _ => rfl
def possE (b : Bd) : Int := if bedE b ≠ 0 then bedE b else if noneB b alwP = true then 7 else 0
theorem possE_iff {b : Bd} : possE b = 0 ↔ BdOk b ∧ noneB b alwP = false := by
  unfold possE
  by_cases hb : bedE b = 0
  · rw [if_neg (fun h => h hb)]
    cases noneB b alwP
    · rw [if_neg (by simp)]; exact ⟨fun _ => ⟨(bedE_iff b).1 hb, rfl⟩, fun _ => rfl⟩
    · rw [if_pos rfl]; exact ⟨(fun h => by cases h), (fun h => by cases h.2)⟩
  · rw [if_pos hb]; exact ⟨fun h => absurd h hb, fun h => (bedE_iff b).2 h.1⟩
def possA (b : Bd) : AV := if possE b ≠ 0 then .tup [.nilp, .sl true [], .int .i64 (possE b)] else .tup [dskA b, canA b, .int .i64 0]
theorem possible_c (b : Bd) (hm : b.months.length ≤ 100000) (hs : b.surveys.length ≤ 100000) : Comp Tryz.prog 160 [bedA b] (possA b) := by
  unfold possA
  by_cases hb : bedE b = 0
  · have ok := (bedE_iff b).1 hb
    have ho := bOpened_c b ok
    have hc := can_c b ok 207 [] alwP (allF_c b)
    cases hn : noneB b alwP
    · have hn' : (vecF 121 (cnB b alwP 0) == List.replicate 121 false) = false := hn
      rw [possE_iff.2 ⟨ok, hn⟩, if_neg (fun h => h rfl)]
      refine Comp.body (T := tab) (res := [.tmp 2, .tmp 3, .tmp 4]) tab_ok [] Tryz.func160 rfl (by kernel_rfl) Tryz.ntmps160 rfl (by simp only [List.length_cons, List.length_nil]; decide) (by simp only [lowL, bedL]; rfl) ?_; conv => whnf
      repeat' first | ((with_reducible apply XBr.bne) <;> (intro h; first | (exfalso; omega) | (conv => whnf))) | ((first | (refine XCall.ret ho ?_) | (refine XCall.ret bAll_c ?_) | (refine XCall.ret hc ?_) | (refine XIx.mat 0 rfl (by omega) rfl ?_) | (refine xtk_vec rfl ?_) | (refine xeqb0 ?_) | (with_reducible refine XBr.no hn' ?_)); conv => whnf) | fail
      exact ⟨.low (by show lowL 0 [dskA b, canA b, _] = true; simp only [lowL, dskL, canA_low]; rfl)⟩
    · have hn' : (vecF 121 (cnB b alwP 0) == List.replicate 121 false) = true := hn
      have hE : possE b = 7 := by unfold possE; rw [if_neg (fun h => h hb), if_pos hn]
      rw [hE, if_pos (by decide)]
      refine Comp.body (T := tab) (res := [.tmp 2, .tmp 3, .tmp 4]) tab_ok [] Tryz.func160 rfl (by kernel_rfl) Tryz.ntmps160 rfl (by simp only [List.length_cons, List.length_nil]; decide) (by simp only [lowL, bedL]; rfl) ?_; conv => whnf
      repeat' first | ((with_reducible apply XBr.bne) <;> (intro h; first | (exfalso; omega) | (conv => whnf))) | ((first | (refine XCall.ret ho ?_) | (refine XCall.ret bAll_c ?_) | (refine XCall.ret hc ?_) | (refine XIx.mat 0 rfl (by omega) rfl ?_) | (refine xtk_vec rfl ?_) | (refine xeqb0 ?_) | (with_reducible refine XBr.yes hn' ?_)); conv => whnf) | fail
      exact ⟨.low rfl⟩
  · have ho := bOpenedE_c b hm hs hb
    have hE : possE b = bedE b := by unfold possE; rw [if_pos hb]
    rw [hE, if_pos hb]
    generalize bedE b = e at ho hb
    refine Comp.body (T := tab) (res := [.tmp 2, .tmp 3, .tmp 4]) tab_ok [] Tryz.func160 rfl (by kernel_rfl) Tryz.ntmps160 rfl (by simp only [List.length_cons, List.length_nil]; decide) (by simp only [lowL, bedL]; rfl) ?_; conv => whnf
    repeat' first | ((with_reducible apply XBr.bne) <;> (intro h; first | (exfalso; omega) | (conv => whnf))) | ((refine XCall.ret ho ?_); conv => whnf) | fail
    exact ⟨.low rfl⟩
theorem ah_next {b : Bd} {p : Nat → Bool} {m n : Nat} (hm : m < b.months.length) (h : ahF b p m n = true) : ∃ k, k ∈ lvL b m n ∧ ahB b p (b.months.length - (m + 1)) k = true := by
  unfold ahF at h
  rw [Bool.and_eq_true, show b.months.length - m = (b.months.length - (m + 1)) + 1 by omega, ahB, Bool.and_eq_true, List.any_eq_true] at h
  obtain ⟨_, ⟨k, h1, h2⟩, _⟩ := h
  rw [show b.months.length - (b.months.length - (m + 1) + 1) = m by omega] at h1
  exact ⟨k, h1, h2⟩
theorem cn_ah {b : Bd} {p : Nat → Bool} : ∀ {m n : Nat}, cnB b p m n = true → ahF b p m n = true
  | 0, n, h => by unfold cnB at h; rw [Bool.and_eq_true] at h; exact h.1
  | m + 1, n, h => by unfold cnB at h; rw [Bool.and_eq_true] at h; exact h.2
theorem cn_step {b : Bd} {p : Nat → Bool} {m n k : Nat} (h : cnB b p m n = true) (hr : b.room ≤ 120) (hk : k ∈ lvL b m n) (h2 : ahF b p (m + 1) k = true) : cnB b p (m + 1) k = true := by
  rw [cnB, Bool.and_eq_true, List.any_eq_true]
  have := cnB_room h
  exact ⟨⟨n, List.mem_range.2 (by omega), by rw [h, Bool.true_and]; exact List.contains_iff_mem.2 hk⟩, h2⟩
theorem cn_next {b : Bd} (ok : BedOk b) {p : Nat → Bool} {m n : Nat} (hm : m < b.months.length) (h : cnB b p m n = true) : ∃ k, k ∈ lvL b m n ∧ cnB b p (m + 1) k = true := by
  obtain ⟨k, h1, h2⟩ := ah_next hm (cn_ah h)
  have h3 := (mem_lvF.1 h1).2
  have h4 := hiR_b ok (n := n) hm
  refine ⟨k, h1, cn_step h ok.r2 h1 ?_⟩
  unfold ahF
  rw [h2, decide_eq_true (by omega)]; rfl
theorem cn_some {b : Bd} (ok : BedOk b) {p : Nat → Bool} (h : noneB b p = false) : ∀ m, m ≤ b.months.length → ∃ n, n < 121 ∧ cnB b p m n = true
  | 0, _ => by
    apply Classical.byContradiction
    intro hn
    have : noneB b p = true := noneB_iff.2 fun n hn1 => by
      cases hc : cnB b p 0 n
      · rfl
      · exact absurd ⟨n, hn1, hc⟩ hn
    rw [this] at h; cases h
  | m + 1, hm => by
    obtain ⟨n, _, hn⟩ := cn_some ok h m (by omega)
    obtain ⟨k, _, hk⟩ := cn_next ok (by omega) hn
    have := cnB_room hk; have := ok.r2
    exact ⟨k, by omega, hk⟩
def canL (b : Bd) (m : Nat) : List Int := lstF (cnB b alwP m) 121
theorem canL_ne {b : Bd} (h : possE b = 0) {m : Nat} (hm : m ≤ b.months.length) : 0 < (canL b m).length := by
  obtain ⟨ok, h2⟩ := possE_iff.1 h
  obtain ⟨n, h3, h4⟩ := cn_some ok.toBedOk h2 m hm
  exact List.length_pos_of_mem (lstF_mem.2 ⟨n, h3, h4, rfl⟩)
def bndP (b : Bd) (m : Nat) : Int × Int := ((canL b m).getD 0 default, (canL b m).getD ((canL b m).length - 1) default)
def bndL (b : Bd) : List (Int × Int) := (List.range (b.months.length + 1)).map (bndP b)
def boundsA (b : Bd) : AV := if possE b ≠ 0 then .tup [.sl true [], .int .i64 (possE b)] else .tup [.sl false (chsA (bndL b)), .int .i64 0]
theorem xspl_am {k : List AV → Prop} {F : Nat → Bool} (h : k ((vecF 121 F).map .bool)) : xspl (List.replicate 121 (.bool false)) 0 ((vecF 121 F).map .bool) k := by
  have e : List.replicate 121 (AV.bool false) = (vecF 121 fun _ => false).map .bool := by rw [vecF_replicate, List.map_replicate]
  rw [e]; exact xspl_vecA h
theorem bounds_c (b : Bd) (hm : b.months.length ≤ 100000) (hs : b.surveys.length ≤ 100000) : Comp Tryz.prog 100 [bedA b] (boundsA b) := by
  have hp := possible_c b hm hs
  unfold possA at hp
  unfold boundsA
  by_cases hE : possE b = 0
  · obtain ⟨ok, _⟩ := possE_iff.1 hE
    have m2 := ok.m2
    rw [if_neg (fun h => h hE)] at hp ⊢
    have e2 : (((matF (b.months.length + 1) 121 (cnB b alwP)).map (arrF AV.bool)).length : Int) = b.months.length + 1 := by rw [List.length_map, matF, vecF_len]; omega
    refine Comp.body (T := tab) (res := [.tmp 2, .tmp 3]) tab_ok [] Tryz.func100 rfl (by kernel_rfl) Tryz.ntmps100 rfl (by simp only [List.length_cons, List.length_nil]; decide) (by simp only [lowL, bedL]; rfl) ?_; conv => whnf
    repeat' first | ((refine XCall.ret hp ?_); conv => whnf) | fail
    refine Walk.nilgr 7 42 rfl ?_
    refine Walk.loopGK tab_ok [] [(2, _), (3, _), (6, _), (17, _), (18, _)] ⟨rfl, rfl, rfl, rfl, rfl, trivial⟩ (fun i : Nat => i ≤ b.months.length + 1) (fun i => [(7, .gr 0 ((bndL b).take i).length), (19, natA i)]) (fun i => [.grow 42 ((bndL b).take i).isEmpty (chsA ((bndL b).take i))]) (fun i => b.months.length + 1 - i) 0 (Nat.zero_le _) rfl ⟨rfl, rfl, trivial⟩ ?_ (fun _ _ => (show (1 : Nat) ≤ 1 from Nat.le_refl 1)) ?_
    · intro i _
      refine ⟨fun z hz => ?_, fun z hz => ?_⟩
      · rw [List.mem_singleton] at hz; subst hz; exact chs_low _
      · simp only [List.cons_append, List.nil_append, List.mem_cons, List.not_mem_nil, or_false] at hz
        rcases hz with rfl | rfl | rfl | rfl | rfl | rfl | rfl <;> first | rfl | exact canA_low b
    intro i hi
    have hbl : (bndL b).length = b.months.length + 1 := by unfold bndL; simp
    have hnx : i < b.months.length + 1 → (bndL b).take (i + 1) = (bndL b).take i ++ [bndP b i] := fun h => by
      rw [take_next (by omega)]
      congr 2
      unfold bndL
      rw [List.getD_eq_getElem?_getD, List.getElem?_map, List.getElem?_range h]; rfl
    have hli : (chsA ((bndL b).take i)).length = ((bndL b).take i).length := List.length_map _
    have hl2 : ((bndL b).take i).length = i := by rw [List.length_take]; omega
    have hls := amList_c (cnB b alwP i)
    have hcl : i < b.months.length + 1 → 0 < (canL b i).length := fun h => canL_ne hE (by omega)
    have hcl2 : (canL b i).length ≤ 121 := lstF_len _ _
    have hcl3 : ((ints (canL b i)).length : Int) = (canL b i).length := by rw [ints_len]
    change Comp Tryz.prog _ _ (slA (canL b i)) at hls
    conv => whnf
    by_cases hlt : i < b.months.length + 1
    · have hcl := hcl hlt
      repeat' first | ((with_reducible apply XBr.dec) <;> (intro h; first | (exfalso; omega) | ((try simp only [List.length_map] at h); first | (exfalso; omega) | (conv => whnf)))) | ((with_reducible refine XInt.i64 (by omega) (by omega) ?_); conv => whnf) | ((with_reducible refine XHold.mk ?_ ?_); (first | omega | rfl | decide | exact ⟨rfl, by decide, rfl⟩ | exact wideI _ | exact widePr _ | exact wideSk _ | (unfold Room; constructor <;> ((try simp) <;> omega)) | exact ⟨rfl, by simp only [List.length_map], by unfold Room; constructor <;> ((try simp) <;> omega)⟩ | exact ⟨by omega, by omega, by unfold Room; constructor <;> ((try simp) <;> omega)⟩); conv => whnf) | (((with_reducible refine XIx.map ?_ ?_ ?_ ?_); omega; omega; (intro _; rfl)); conv => whnf) | (with_reducible apply XAnd.mk) | ((first | (with_reducible apply Chk.go) | (with_reducible apply ChkA.go) | (with_reducible apply ChkF.go) | (with_reducible apply ChkB.go)); conv => whnf) | (exact XSame.mk rfl rfl) | (with_reducible exact trivial) | (apply Walk.drawN (id := 7) tab_ok mixed_ok [] [12] (hsC [_, _]) [_, _, _, _, _, _, _, _, _, _, _, _, _, _] (by kernel_rfl) rfl) | ((first | (with_reducible apply XNext.mk) | (refine XIx.mat i rfl (by omega) rfl ?_) | (refine xtk_vec rfl ?_) | (refine xn_vec rfl ?_) | (refine xspl_am ?_) | (refine XCall.ret hls ?_)); conv => whnf) | fail
      have e : bndP b i = ((canL b i).getD (Int.toNat 0) default, (canL b i).getD (((ints (canL b i)).length : Int) - 1).toNat default) := by
        unfold bndP
        rw [show (((ints (canL b i)).length : Int) - 1).toNat = (canL b i).length - 1 by omega]; rfl
      refine XAgainG.go (i + 1) [.cells ((vecF 121 (cnB b alwP i)).map .bool)] (by omega) (by omega) ?_ ⟨rfl, rfl, rfl, rfl, rfl, ?_, rfl, trivial⟩
      · rw [hnx hlt]
        show [Blk.grow _ ((bndL b).take i ++ [bndP b i]).isEmpty (((bndL b).take i ++ [bndP b i]).map prA)] ++ _ = _
        rw [isEmpty_app, List.map_append, e]; rfl
      · show some (AV.gr 0 (((bndL b).take i).length + 1)) = _
        rw [hnx hlt, List.length_append]; rfl
    · obtain rfl : i = b.months.length + 1 := by omega
      have e : (bndL b).take (b.months.length + 1) = bndL b := List.take_of_length_le (by omega)
      rw [e] at hli ⊢
      repeat' first | ((with_reducible apply XBr.dec) <;> (intro h; first | (exfalso; omega) | ((try simp only [List.length_map] at h); first | (exfalso; omega) | (conv => whnf)))) | fail
      have e3 : (bndL b).isEmpty = false := by unfold bndL; rw [List.range_succ]; simp
      rw [e3]
      exact ⟨Froz.tup (.cons (Froz.grow rfl hli (chs_low _)) (.cons (.low rfl) .nil))⟩
  · rw [if_pos hE] at hp ⊢
    generalize possE b = e at hp hE
    refine Comp.body (T := tab) (res := [.tmp 2, .tmp 3]) tab_ok [] Tryz.func100 rfl (by kernel_rfl) Tryz.ntmps100 rfl (by simp only [List.length_cons, List.length_nil]; decide) (by simp only [lowL, bedL]; rfl) ?_; conv => whnf
    repeat' first | ((refine XCall.ret hp ?_); conv => whnf) | fail
    refine Walk.loopK tab_ok [] [(2, _), (3, _), (6, _), (17, _), (18, _)] ⟨rfl, rfl, rfl, rfl, rfl, trivial⟩ (fun _ : Unit => True) (fun _ => [(7, .sl true []), (19, .int .i64 0)]) (fun _ => []) (fun _ => 0) () trivial rfl ⟨rfl, rfl, trivial⟩ ?_
    intro _ _
    conv => whnf
    repeat' first | ((with_reducible apply XBr.dec) <;> (intro h; first | (exfalso; omega) | ((try simp only [List.length_map] at h); first | (exfalso; omega) | (conv => whnf)))) | fail
    · rename_i h; simp at h
    · exact ⟨.low rfl⟩
end GA
end

section
namespace GA
open Go Go.RowKit Go.Proofs
set_option pp.deepTerms true
set_option maxRecDepth 8000
set_option linter.unusedVariables false
set_option linter.unusedSimpArgs false

def endP (b : Bd) (plan : List Int) : Nat → Nat → Int
  | 0, n => n
  | k + 1, n => if lieR b (b.months.length - (k + 1)) n - plan.getD (b.months.length - (k + 1)) 0 < 0 then lieR b (b.months.length - (k + 1)) n - plan.getD (b.months.length - (k + 1)) 0 else endP b plan k (lieR b (b.months.length - (k + 1)) n - plan.getD (b.months.length - (k + 1)) 0).toNat
theorem lieR_plan {b : Bd} {plan : List Int} {m n : Nat} (h : m < b.months.length) : lieR (withPlan b plan) m n = lieR b m n := by
  show grossR b.room (moB (withPlan b plan) m).g n (moB (withPlan b plan) m).pl (moB (withPlan b plan) m).th = _
  rw [withPlan_mo h]; rfl
theorem endW_plan {b : Bd} {plan : List Int} : ∀ (k n : Nat), k ≤ b.months.length → endW (withPlan b plan) k n = endP b plan k n
  | 0, n, _ => rfl
  | k + 1, n, hk => by
    by_cases h0 : 0 < b.months.length
    · have hm : b.months.length - (k + 1) < b.months.length := by omega
      rw [endW, endP, withPlan_len, lieR_plan hm, withPlan_mo hm]
      dsimp only
      rw [endW_plan k _ (by omega)]
    · omega
theorem endR_plan (b : Bd) (plan : List Int) : endR (withPlan b plan) = endP b plan b.months.length (leastR b).toNat := by
  unfold endR
  rw [withPlan_len, endW_plan _ _ (Nat.le_refl _)]; rfl
theorem keepB_eq (b : Bd) (plan : List Int) (share : Int) : keepB b plan share = decide (share ≤ endP b plan b.months.length (leastR b).toNat) := by
  unfold keepB; rw [endR_plan]
theorem equal_span (n1 n2 : Bool) (xs ys : List (Int × Int)) (hx : xs.length ≤ 100000) : Comp Tryz.prog 166 [.sl n1 (chsA xs), .sl n2 (chsA ys)] (.bool (xs == ys)) := by
  refine Comp.body (T := tab) (res := [.tmp 4]) tab_ok [] Tryz.func166 rfl (by kernel_rfl) Tryz.ntmps166 rfl (by simp only [List.length_cons, List.length_nil]; decide) (by simp only [lowL, AV.low, chs_low]; rfl) ?_; conv => whnf
  have hx2 : (chsA xs).length = xs.length := List.length_map _
  have hy2 : (chsA ys).length = ys.length := List.length_map _
  repeat' first | ((with_reducible apply XBr.bne) <;> (intro h; first | (exfalso; omega) | (conv => whnf))) | fail
  · refine XOut.bool ?_
    rw [Bool.eq_iff_iff]; simp; intro e; subst e; exact h rfl
  have hl : (xs.length : Int) = ys.length := by omega
  refine Walk.loop tab_ok [] (fun i : Nat => i ≤ xs.length ∧ ∀ j, j < i → xs.getD j default = ys.getD j default) (fun i => [(0, .sl n1 (chsA xs)), (1, .sl n2 (chsA ys)), (12, .int .i64 xs.length), (13, .int .i64 i)]) (fun _ => []) (fun i => xs.length - i) 0 ⟨by omega, by omega⟩ rfl ⟨rfl, rfl, by rw [← hx2]; rfl, rfl, trivial⟩ ?_
  rintro i ⟨h2, h3⟩
  conv => whnf
  repeat' first | (with_reducible apply XBr.not) | ((with_reducible apply XBr.dec) <;> (intro h; first | (exfalso; omega) | ((try simp only [List.length_map] at h); first | (exfalso; omega) | (conv => whnf)))) | ((first | (with_reducible refine XInt.i64 (by omega) (by omega) ?_) | ((with_reducible refine XIx.nat ?_ ?_ ?_); omega; (intro _; rfl))); conv => whnf) | (with_reducible apply XAnd.mk) | ((first | (with_reducible apply Chk.go) | (with_reducible apply ChkA.go) | (with_reducible apply ChkF.go) | (with_reducible apply ChkB.go)); conv => whnf) | (exact XSame.mk rfl rfl) | (with_reducible exact trivial) | (apply Walk.drawN (id := 6) tab_ok mixed_ok [] [] (hsU _) [_, _, _, _, _, _, _, _, _] (by kernel_rfl) rfl) | ((first | (with_reducible apply XNext.mk) | (refine XEqA.mk ⟨[(xs.getD i default).1, (xs.getD i default).2], [(ys.getD i default).1, (ys.getD i default).2], rfl, rfl, rfl, rfl, ?_⟩)); conv => whnf) | ((with_reducible apply XBr.mk') <;> (intro h; conv => whnf)) | fail
  · rename_i h
    refine XAgain.go (i + 1) ⟨by omega, fun j hj => ?_⟩ (by omega) rfl ⟨rfl, rfl, rfl, rfl, trivial⟩
    by_cases hji : j = i
    · subst hji
      simp at h
      exact Prod.ext h.1 h.2
    · exact h3 j (by omega)
  · rename_i h
    refine XOut.bool ?_
    rw [Bool.eq_iff_iff]; simp
    intro e; subst e; simp at h
  · refine XOut.bool ?_
    have := eq_of_getD (by omega) fun j hj => h3 j (by omega)
    rw [this]; simp
def bTwo (nl : Bool) (sv : List Su) : Bd := ⟨50, 20, 2, false, [⟨10, 6, 0, 5, 0, 4⟩, ⟨10, 3, 0, 0, 0, 10⟩], nl, sv⟩
theorem two_c (nl : Bool) (sv : List Su) : Comp Tryz.prog 101 [.sl nl (sv.map suA)] (bedA (bTwo nl sv)) := by
  refine Comp.body (T := tab) (res := [.cell 2 62]) tab_ok [] Tryz.func101 rfl (by kernel_rfl) Tryz.ntmps101 rfl (by simp only [List.length_cons, List.length_nil]; decide) (by simp only [lowL, AV.low, lowSu]; rfl) ?_; conv => whnf
  repeat' first | ((with_reducible refine XHold.mk ?_ ?_); (first | omega | rfl | decide | exact ⟨rfl, by decide, rfl⟩ | exact wideI _ | exact widePr _ | exact wideSk _ | (unfold Room; constructor <;> ((try simp) <;> omega)) | exact ⟨rfl, by simp only [List.length_map], by unfold Room; constructor <;> ((try simp) <;> omega)⟩ | exact ⟨by omega, by omega, by unfold Room; constructor <;> ((try simp) <;> omega)⟩); conv => whnf) | fail
  show XOut _ _ (bedA (bTwo nl sv)) (bedA (bTwo nl sv))
  exact ⟨.low (bedL _)⟩
theorem found_c (m lo hi : Int) : Comp Tryz.prog 102 [.int .i64 m, .int .i64 lo, .int .i64 hi] (suA ⟨m, lo, hi⟩) := by
  refine Comp.body (T := tab) (res := [.cell 6 181]) tab_ok [] Tryz.func102 rfl (by kernel_rfl) Tryz.ntmps102 rfl (by simp only [List.length_cons, List.length_nil]; decide) (by rfl) ?_; conv => whnf
  skip
  exact ⟨.low rfl⟩
theorem aw1 : boundsA (bTwo false [⟨1, 21, 30⟩]) = .tup [.sl false (chsA [(20, 22), (21, 23), (10, 22)]), .int .i64 0] := by
  have h1 : bedE (bTwo false [⟨1, 21, 30⟩]) = 0 := by decide +kernel
  have h2 : noneB (bTwo false [⟨1, 21, 30⟩]) alwP = false := by rw [noneB_dec]; decide +kernel
  have h3 : bndL (bTwo false [⟨1, 21, 30⟩]) = [(20, 22), (21, 23), (10, 22)] := by decide +kernel
  unfold boundsA
  rw [possE_iff.2 ⟨(bedE_iff _).1 h1, h2⟩, if_neg (fun h => h rfl), h3]
theorem aw2 : leaveA (bTwo true []) 0 20 5 1 = .tup [.int .i64 20, .int .i64 0] := rfl
theorem aw3 : floorA (bTwo true []) 5 = .tup [.sl false (ints [17, 14, 5]), .int .i64 0] := by
  have h1 : bShareE (bTwo true []) 5 = 0 := by decide +kernel
  have h2 : flrL (bTwo true []) 5 (bTwo true []).months.length = some [17, 14, 5] := by decide +kernel
  unfold floorA
  rw [h1, if_neg (fun h => h rfl), h2]
def evenG (b : Bd) (share : Int) : Nat → Int
  | 0 => -1
  | n + 1 => if decide (share ≤ endP b (List.replicate b.months.length (n : Int)) b.months.length (leastR b).toNat) = true then n else evenG b share n
theorem evenF_eq (b : Bd) (share : Int) : ∀ n, evenF b share n = evenG b share n
  | 0 => rfl
  | n + 1 => by rw [evenF, evenG, keepB_eq, evenF_eq b share n]
theorem aw4 : evenA (bTwo true []) 0 = .tup [.int .i64 3, .int .i64 0] := by
  have h1 : bShareE (bTwo true []) 0 = 0 := by decide +kernel
  have h2 : evenF (bTwo true []) 0 ((bTwo true []).room.toNat + 1) = 3 := by rw [evenF_eq]; decide +kernel
  unfold evenA
  rw [h1, if_neg (fun h => h rfl), h2, if_neg (by decide)]
theorem aw5 : keepsA (bTwo true []) [6, 3] 0 = .tup [.bool false, .int .i64 0] := by
  have h1 : planE (bTwo true []) [6, 3] = 0 := by decide +kernel
  have h2 : keepB (bTwo true []) [6, 3] 0 = false := by rw [keepB_eq]; decide +kernel
  have h3 : inZ 0 0 (bTwo true []).room = true := by decide +kernel
  unfold keepsA
  rw [h1, if_neg (fun h => h rfl), h3, if_neg (by simp), h2]
theorem eq_span (n1 n2 : Bool) (xs ys : List (Int × Int)) (hx : xs.length ≤ 100000) : Comp Tryz.prog 106 [.sl n1 (chsA xs), .sl n2 (chsA ys)] (.bool (xs == ys)) := by
  refine Comp.body (T := tab) (res := [.tmp 4]) tab_ok [] Tryz.func106 rfl (by kernel_rfl) Tryz.ntmps106 rfl (by simp only [List.length_cons, List.length_nil]; decide) (by simp only [lowL, AV.low, chs_low]; rfl) ?_; conv => whnf
  refine XCall.ret (equal_span n1 n2 xs ys hx) ?_
  conv => whnf
  exact XOut.bool rfl
theorem awake04_c : Comp Tryz.prog 20 [] (.bool true) := by
  have c1 := bounds_c (bTwo false [⟨1, 21, 30⟩]) (by decide) (by decide)
  rw [aw1] at c1
  have c2 := leaves_all_c (bTwo true []) 0 20 5 1 (by decide) (by decide)
  rw [aw2] at c2
  have c3 := floor_all_c (bTwo true []) 5 (by decide) (by decide)
  rw [aw3] at c3
  have c4 := even_c (bTwo true []) 0 (by decide) (by decide)
  rw [aw4] at c4
  have c5 := keeps_c (bTwo true []) false [6, 3] 0 (by decide) (by decide) (by decide)
  rw [aw5] at c5
  have e1 : Comp Tryz.prog 106 [.sl false (chsA [(20, 22), (21, 23), (10, 22)]), .sl false (chsA [(20, 22), (21, 23), (10, 22)])] (.bool true) := eq_span false false _ _ (by decide)
  have e2 : Comp Tryz.prog 42 [.sl false (ints [17, 14, 5]), .sl false (ints [17, 14, 5])] (.bool true) := eq_int false false _ _ (by decide)
  have t1 := two_c false [⟨1, 21, 30⟩]
  have t2 := two_c true []
  generalize bTwo false [⟨1, 21, 30⟩] = b1 at *
  generalize bTwo true [] = b2 at *
  refine Comp.body (T := tab) (res := [.tmp 0]) tab_ok [] Tryz.func20 rfl (by kernel_rfl) Tryz.ntmps20 rfl (by simp only [List.length_cons, List.length_nil]; decide) (by rfl) ?_; conv => whnf
  repeat' first | ((with_reducible refine XHold.mk ?_ ?_); (first | omega | rfl | decide | exact ⟨rfl, by decide, rfl⟩ | exact wideI _ | exact widePr _ | exact wideSk _ | (unfold Room; constructor <;> ((try simp) <;> omega)) | exact ⟨rfl, by simp only [List.length_map], by unfold Room; constructor <;> ((try simp) <;> omega)⟩ | exact ⟨by omega, by omega, by unfold Room; constructor <;> ((try simp) <;> omega)⟩); conv => whnf) | ((first | (refine XCall.ret (found_c 1 21 30) ?_) | (refine XCall.ret t1 ?_) | (refine XCall.ret t2 ?_) | (refine XCall.ret c1 ?_) | (refine XCall.ret c2 ?_) | (refine XCall.ret c3 ?_) | (refine XCall.ret c4 ?_) | (refine XCall.ret c5 ?_)); conv => whnf) | fail
  refine Walk.norm tab_ok [] [(1, _), (2, _), (3, _), (4, _), (5, _), (6, _), (7, _), (8, _), (9, _), (10, _)] ⟨rfl, rfl, rfl, rfl, rfl, rfl, rfl, rfl, rfl, rfl, trivial⟩ ?_
  conv => whnf
  repeat' first | ((with_reducible apply XBr.tt); conv => whnf) | ((with_reducible apply XBr.beq) <;> (intro h; first | (exfalso; omega) | (conv => whnf))) | ((with_reducible refine XHold.mk ?_ ?_); (first | omega | rfl | decide | exact ⟨rfl, by decide, rfl⟩ | exact wideI _ | exact widePr _ | exact wideSk _ | (unfold Room; constructor <;> ((try simp) <;> omega)) | exact ⟨rfl, by simp only [List.length_map], by unfold Room; constructor <;> ((try simp) <;> omega)⟩ | exact ⟨by omega, by omega, by unfold Room; constructor <;> ((try simp) <;> omega)⟩); conv => whnf) | ((first | (refine XCall.ret e1 ?_) | (refine XCall.ret e2 ?_)); conv => whnf) | fail
  exact ⟨.low rfl⟩
end GA
end

section
namespace GA
open Go Go.RowKit Go.Proofs
set_option pp.deepTerms true
set_option maxRecDepth 8000
set_option linter.unusedVariables false
set_option linter.unusedSimpArgs false

structure MadeB (room months : Int) (b : Bd) (re : List Int) (ch : List (Int × Int)) : Prop where
  ok : BdOk b
  sv : b.surveys = []
  nls : b.nls = true
  ro : b.room ≤ room
  mo : (b.months.length : Int) ≤ months
  rl : re.length = b.months.length + 1
  cl : ch.length = b.months.length
theorem made_facts {u : Hp} (uo : u.Ok) {room months : Int} (h1 : 2 ≤ room) (h2 : room ≤ 100) (h3 : 1 ≤ months) (h4 : months ≤ 10) :
    ∃ b re ch u1, HpOk 16 [.int .i64 room, .int .i64 months] u (.tup [bedA b, .sl false (ints re), .sl ch.isEmpty (ch.map prA)]) u1 ∧ MadeB room months b re ch ∧ u1.Ok := by
  have e := mdBK_ok (mdS0_ok uo h1) (mdMany u months).toNat
  have bo := madeB_ok uo (room := room) (months := months) h1 h2 h3 h4
  have g4 := modV_bound (mdH u) (months - 1)
  refine ⟨_, _, _, _, bedMade_c u room months uo h1 h2 h3 h4, ⟨⟨bo, by show ([] : List Su).length ≤ 8; simp, fun s hs => by cases hs⟩, rfl, rfl, ?_, ?_, ?_, ?_⟩, e.u⟩
  · have := modV_bound u (room - 2)
    show mdRoom _ _ ≤ room
    unfold mdRoom; omega
  · have := e.ml
    show (((mdBK _ _ _).ms.length : Nat) : Int) ≤ months
    rw [this]; unfold mdMany; omega
  · show (mdBK _ _ _).re.length = (mdBK _ _ _).ms.length + 1
    rw [e.rl, e.ml]
  · show (mdBK _ _ _).ch.length = (mdBK _ _ _).ms.length
    rw [e.cl, e.ml]
theorem left_b {b : Bd} (r1 : 1 ≤ b.room) {p : Int} (hp : 0 ≤ p ∧ p ≤ 255) : 0 ≤ p.tmod (b.room + 1) ∧ p.tmod (b.room + 1) ≤ b.room := by
  rw [Int.tmod_eq_emod_of_nonneg hp.1]
  have := Int.emod_nonneg p (show b.room + 1 ≠ 0 by omega)
  have := Int.emod_lt_of_pos p (show 0 < b.room + 1 by omega)
  omega
end GA
end

section
namespace GA
open Go Go.RowKit Go.Proofs
set_option pp.deepTerms true
set_option maxRecDepth 8000
set_option linter.unusedVariables false
set_option linter.unusedSimpArgs false

def KeptP (b : Bd) (l : List Int) (share : Int) : Prop := (∀ m, m < b.months.length → l.getD (m + 1) default ≤ lieR b m (l.getD m default).toNat) ∧ share ≤ l.getD b.months.length default
instance (b : Bd) (l : List Int) (share : Int) : Decidable (KeptP b l share) := by unfold KeptP; infer_instance
end GA
end

section
namespace GA
open Go Go.RowKit Go.Proofs
set_option maxRecDepth 8000
set_option linter.unusedVariables false
set_option linter.unusedSimpArgs false

theorem grossR_mono {room g a a' sp sp' st st' : Int} (hg : 0 ≤ g) (h1 : a ≤ a') (h2 : sp ≤ sp') (h3 : st' ≤ st) : grossR room g a sp st ≤ grossR room g a' sp' st' := by
  unfold grossR
  have h4 : a * g ≤ a' * g := Int.mul_le_mul_of_nonneg_right h1 hg
  have h5 : a * g / 100 ≤ a' * g / 100 := Int.ediv_le_ediv (by omega) h4
  omega
theorem lieR_mono {b : Bd} (ok : BedOk b) {m n n' : Nat} (hm : m < b.months.length) (h : n ≤ n') : lieR b m n ≤ lieR b m n' := grossR_mono (ok.mo' hm).1 (by omega) (Int.le_refl _) (Int.le_refl _)
end GA
end

section
namespace GA
open Go Go.RowKit Go.Proofs
set_option pp.deepTerms true
set_option maxRecDepth 8000
set_option linter.unusedVariables false
set_option linter.unusedSimpArgs false

def okP (b : Bd) (share : Int) : Nat → Nat → List Int → Prop
  | 0, q, xs => xs = [] ∧ share ≤ q
  | _ + 1, _, [] => False
  | k + 1, q, x :: xs => 0 ≤ x ∧ x ≤ lieR b (b.months.length - (k + 1)) q ∧ okP b share k (lieR b (b.months.length - (k + 1)) q - x).toNat xs
theorem stepM_ub {nx : Nat → Int} {lies : Nat} : ∀ {n r : Nat}, r < n → nx (lies - r) ≠ -1 → (r : Int) + nx (lies - r) ≤ stepM nx lies n
  | n + 1, r, h, hne => by
    unfold stepM
    by_cases hr : r = n
    · subst hr; rw [if_neg hne]; omega
    · have := stepM_ub (nx := nx) (lies := lies) (n := n) (r := r) (by omega) hne
      split <;> omega
theorem stepM_at {nx : Nat → Int} {lies : Nat} (h0 : ∀ q, -1 ≤ nx q) : ∀ n, stepM nx lies n = -1 ∨ ∃ r, r < n ∧ nx (lies - r) ≠ -1 ∧ (r : Int) + nx (lies - r) = stepM nx lies n
  | 0 => .inl rfl
  | n + 1 => by
    unfold stepM
    by_cases hn : nx (lies - n) = -1
    · rw [if_pos hn]
      rcases stepM_at h0 n with h | ⟨r, h1, h2, h3⟩
      · exact .inl h
      · exact .inr ⟨r, by omega, h2, h3⟩
    · rw [if_neg hn]
      right
      have := h0 (lies - n)
      by_cases hc : stepM nx lies n ≤ n + nx (lies - n)
      · exact ⟨n, by omega, hn, by omega⟩
      · rcases stepM_at (nx := nx) (lies := lies) h0 n with h | ⟨r, h1, h2, h3⟩
        · omega
        · exact ⟨r, by omega, h2, by omega⟩
theorem rakeM_iff {nx : Nat → Int} {lies r : Nat} {v : Int} : rakeM nx lies v r = true ↔ nx (lies - r) ≠ -1 ∧ (r : Int) + nx (lies - r) = v := by
  unfold rakeM
  simp
theorem planM_max {b : Bd} (o : BedOk b) (share : Int) : ∀ k, k ≤ b.months.length → ∀ a,
    (valM b share k a ≠ -1 → okP b share k a (planM b share k a) ∧ (planM b share k a).sum = valM b share k a) ∧
    ∀ xs, okP b share k a xs → valM b share k a ≠ -1 ∧ xs.sum ≤ valM b share k a ∧ (xs.sum = valM b share k a → 0 ≤ cmpL xs (planM b share k a))
  | 0, _, a => by
    refine ⟨fun h => ?_, fun xs h => ?_⟩
    · unfold valM at h ⊢
      by_cases hs : share ≤ a
      · rw [if_pos hs]; exact ⟨⟨rfl, hs⟩, rfl⟩
      · rw [if_neg hs] at h; exact absurd rfl h
    · obtain ⟨rfl, hs⟩ := h
      unfold valM
      rw [if_pos hs]
      exact ⟨by omega, by simp, fun _ => by simp [planM, cmpL]⟩
  | k + 1, hk, a => by
    have hl := lieR_b o (j := b.months.length - (k + 1)) (n := a) (by have := o.m1; omega)
    obtain ⟨lies, hlies⟩ : ∃ lies : Nat, lieR b (b.months.length - (k + 1)) a = lies := ⟨(lieR b (b.months.length - (k + 1)) a).toNat, by omega⟩
    have ih := planM_max o share k (by omega)
    have hvb := valM_b o share k (by omega)
    have hval : valM b share (k + 1) a = stepM (valM b share k) lies (lies + 1) := by
      show stepM _ (lieR b (b.months.length - (k + 1)) a).toNat ((lieR b (b.months.length - (k + 1)) a).toNat + 1) = _
      rw [hlies, Int.toNat_natCast]
    have key : ∀ r, r ≤ lies → rakeM (valM b share k) lies (valM b share (k + 1) a) r = true → ∃ r0, r0 ≤ r ∧ rakeM (valM b share k) lies (valM b share (k + 1) a) r0 = true ∧ planM b share (k + 1) a = (r0 : Int) :: planM b share k (lies - r0) := by
      intro r hr hrk
      cases hf : (List.range (lies + 1)).find? (rakeM (valM b share k) lies (valM b share (k + 1) a)) with
      | none =>
        have := List.find?_range_eq_none.1 hf r (by omega)
        rw [hrk] at this; cases this
      | some r0 =>
        obtain ⟨h1, h2, h3⟩ := List.find?_range_eq_some.1 hf
        have h2' := List.mem_range.1 h2
        have hle : r0 ≤ r := by
          by_cases hlt : r < r0
          · have := h3 r hlt
            rw [hrk] at this; cases this
          · omega
        exact ⟨r0, hle, h1, planM_some hlies (by omega) h1 fun q hq => by have := h3 q hq; simpa using this⟩
    refine ⟨fun h => ?_, fun xs h => ?_⟩
    · rw [hval] at h
      rcases stepM_at (lies := lies) (fun q => (hvb q).1) (lies + 1) with h' | ⟨r, h1, h2, h3⟩
      · exact absurd h' h
      · obtain ⟨r0, q1, q2, q3⟩ := key r (by omega) (rakeM_iff.2 ⟨h2, by rw [hval]; exact h3⟩)
        obtain ⟨p1, p2⟩ := rakeM_iff.1 q2
        obtain ⟨i1, i2⟩ := (ih (lies - r0)).1 p1
        rw [q3]
        refine ⟨⟨by omega, by rw [hlies]; omega, ?_⟩, ?_⟩
        · rw [hlies, show ((lies : Int) - (r0 : Int)).toNat = lies - r0 by omega]; exact i1
        · rw [List.sum_cons, i2, p2]
    · cases xs with
      | nil => exact h.elim
      | cons x xs =>
        obtain ⟨x1, x2, x3⟩ := h
        rw [hlies] at x2 x3
        obtain ⟨r, rfl⟩ : ∃ r : Nat, x = r := ⟨x.toNat, by omega⟩
        rw [show ((lies : Int) - (r : Int)).toNat = lies - r by omega] at x3
        obtain ⟨i1, i2, i3⟩ := (ih (lies - r)).2 xs x3
        have hub := stepM_ub (nx := valM b share k) (lies := lies) (n := lies + 1) (r := r) (by omega) i1
        rw [← hval] at hub
        have hv0 := (hvb (lies - r)).1
        refine ⟨by omega, by rw [List.sum_cons]; omega, fun hsum => ?_⟩
        rw [List.sum_cons] at hsum
        obtain ⟨r0, q1, q2, q3⟩ := key r (by omega) (rakeM_iff.2 ⟨i1, by omega⟩)
        rw [q3]
        show 0 ≤ (if (r : Int) < r0 then -1 else if (r0 : Int) < r then 1 else cmpL xs (planM b share k (lies - r0)))
        rw [if_neg (by omega)]
        by_cases hlt : (r0 : Int) < r
        · rw [if_pos hlt]; decide
        · rw [if_neg hlt]
          obtain rfl : r0 = r := by omega
          exact i3 (by omega)
theorem planM_bd {b : Bd} (o : BedOk b) (share : Int) : ∀ k, k ≤ b.months.length → ∀ a, (∀ x ∈ planM b share k a, 0 ≤ x ∧ x ≤ b.room) ∧ (planM b share k a).length ≤ k
  | 0, _, a => ⟨by simp [planM], Nat.le_refl _⟩
  | k + 1, hk, a => by
    have hl := lieR_b o (j := b.months.length - (k + 1)) (n := a) (by have := o.m1; omega)
    unfold planM
    split
    · rename_i r hr
      have hm := List.mem_range.1 (List.mem_of_find?_eq_some hr)
      have ih := planM_bd o share k (by omega) ((lieR b (b.months.length - (k + 1)) a).toNat - r)
      refine ⟨fun x hx => ?_, by simp only [List.length_cons]; omega⟩
      rcases List.mem_cons.1 hx with rfl | hx
      · omega
      · exact ih.1 x hx
    · have ih := planM_bd o share k (by omega) a
      exact ⟨ih.1, by omega⟩
def leL : List Int → List Int → Prop
  | [], [] => True
  | y :: ys, x :: xs => 0 ≤ y ∧ y ≤ x ∧ leL ys xs
  | _, _ => False
theorem leL_of : ∀ {ys xs : List Int}, ys.length = xs.length → (∀ y ∈ ys, 0 ≤ y) → (∀ i, i < ys.length → ys.getD i default ≤ xs.getD i default) → leL ys xs
  | [], [], _, _, _ => trivial
  | y :: ys, x :: xs, h1, h2, h3 => ⟨h2 y List.mem_cons_self, h3 0 (by simp), leL_of (by simpa using h1) (fun z hz => h2 z (List.mem_cons_of_mem _ hz)) fun i hi => h3 (i + 1) (by simpa using hi)⟩
theorem okP_mono {b : Bd} (o : BedOk b) {share : Int} : ∀ {k : Nat}, k ≤ b.months.length → ∀ {a a' : Nat} {xs ys : List Int}, okP b share k a xs → a ≤ a' → leL ys xs → okP b share k a' ys
  | 0, _, a, a', xs, ys, h, ha, hl => by
    obtain ⟨rfl, hs⟩ := h
    cases ys with
    | nil => exact ⟨rfl, by omega⟩
    | cons y ys => exact hl.elim
  | k + 1, hk, a, a', [], ys, h, ha, hl => h.elim
  | k + 1, hk, a, a', x :: xs, [], h, ha, hl => hl.elim
  | k + 1, hk, a, a', x :: xs, y :: ys, h, ha, hl => by
    obtain ⟨x1, x2, x3⟩ := h
    obtain ⟨y1, y2, y3⟩ := hl
    have hm := lieR_mono o (m := b.months.length - (k + 1)) (by have := o.m1; omega) ha
    exact ⟨y1, by omega, okP_mono o (by omega) x3 (by omega) y3⟩
theorem lieR_withPlan {b : Bd} {plan : List Int} {m n : Nat} (hm : m < b.months.length) : lieR (withPlan b plan) m n = lieR b m n := by
  have := withPlan_mo (b := b) (plan := plan) hm
  unfold moB at this
  unfold lieR
  rw [this]; rfl
theorem endW_ok {b : Bd} {plan : List Int} (hl : plan.length = b.months.length) (hp : ∀ x ∈ plan, 0 ≤ x) {share : Int} (hs : 0 ≤ share) : ∀ k, k ≤ b.months.length → ∀ n, share ≤ endW (withPlan b plan) k n ↔ okP b share k n (plan.drop (b.months.length - k))
  | 0, _, n => by
    rw [List.drop_of_length_le (by omega)]
    exact ⟨fun h => ⟨rfl, h⟩, fun h => h.2⟩
  | k + 1, hk, n => by
    have hm : b.months.length - (k + 1) < plan.length := by omega
    have hd := drop_next hm
    rw [show b.months.length - (k + 1) + 1 = b.months.length - k by omega] at hd
    rw [hd]
    have hmM : b.months.length - (k + 1) < b.months.length := by omega
    have hr : (moB (withPlan b plan) (b.months.length - (k + 1))).r = plan.getD (b.months.length - (k + 1)) default := by rw [withPlan_mo hmM]; rfl
    have h0 := hp _ (getD_mem (d := default) hm)
    unfold endW
    rw [withPlan_len, lieR_withPlan hmM, hr]
    show _ ↔ 0 ≤ _ ∧ _ ≤ _ ∧ okP b share k _ _
    rw [← endW_ok hl hp hs k (by omega)]
    split
    · constructor <;> intro h <;> omega
    · exact ⟨fun h => ⟨h0, by omega, h⟩, fun h => h.2.2⟩
theorem keepB_iff {b : Bd} {plan : List Int} (hl : plan.length = b.months.length) (hp : ∀ x ∈ plan, 0 ≤ x) {share : Int} (hs : 0 ≤ share) : keepB b plan share = true ↔ okP b share b.months.length (leastR b).toNat plan := by
  unfold keepB endR
  rw [decide_eq_true_iff, withPlan_len]
  have := endW_ok hl hp hs b.months.length (Nat.le_refl _) (leastR (withPlan b plan)).toNat
  rw [Nat.sub_self, List.drop_zero] at this
  exact this
theorem okP_len {b : Bd} {share : Int} : ∀ {k a : Nat} {xs : List Int}, okP b share k a xs → xs.length = k
  | 0, _, _, h => by obtain ⟨rfl, _⟩ := h; rfl
  | k + 1, _, [], h => h.elim
  | k + 1, _, x :: xs, h => by rw [List.length_cons, okP_len h.2.2]
end GA
end

section
namespace GA
open Go Go.RowKit Go.Proofs
set_option pp.deepTerms true
set_option maxRecDepth 8000
set_option linter.unusedVariables false
set_option linter.unusedSimpArgs false

def oneS (s : Sn) : Sn := { ownS s with looks := (ownS s).looks.take 1, truths := (ownS s).truths.take 1 }
theorem ownB1 {s : Sn} (hb : SnB s) : SnB (ownS s) := by
  refine ⟨hb.w, ?_, ?_, fun r hr => ?_, fun t ht => ?_, fun t ht r hr => ?_⟩
  · show (s.looks.map ownR).length ≤ 1000; rw [List.length_map]; exact hb.k
  · show (s.truths.map ownT).length ≤ 1000; rw [List.length_map]; exact hb.t
  · obtain ⟨r', h1, rfl⟩ := List.mem_map.1 (show r ∈ s.looks.map ownR from hr); exact hb.kl r' h1
  · obtain ⟨t', h1, rfl⟩ := List.mem_map.1 (show t ∈ s.truths.map ownT from ht)
    show (t'.2.map fun r => (false, r.2)).length ≤ 1000
    rw [List.length_map]; exact hb.tl t' h1
  · obtain ⟨t', h1, rfl⟩ := List.mem_map.1 (show t ∈ s.truths.map ownT from ht)
    obtain ⟨r', h2, rfl⟩ := List.mem_map.1 (show r ∈ t'.2.map fun r => (false, r.2) from hr)
    exact hb.sl t' h1 r' h2
theorem ownOk1 {s : Sn} (ok : SnOk s) : SnOk (ownS s) := snE_iff.1 (by rw [← (own_eq s).err]; exact snE_iff.2 ok)
theorem one_tl {s : Sn} (ok : SnOk s) : (oneS s).truths.length = 1 := by
  have := (ownOk1 ok).t1
  show ((ownS s).truths.take 1).length = 1
  rw [List.length_take]; omega
theorem one_kl {s : Sn} (ok : SnOk s) : (oneS s).looks.length = 1 := by
  have := (ownOk1 ok).t1; have := (ownOk1 ok).k1
  show ((ownS s).looks.take 1).length = 1
  rw [List.length_take]; omega
theorem one_ok {s : Sn} (ok : SnOk s) : SnOk (oneS s) := by
  have o := ownOk1 ok
  exact ⟨o.p1, o.p2, by rw [one_tl ok]; omega, by rw [one_tl ok]; omega, o.w1, by rw [one_kl ok, one_tl ok], fun l hl => o.kl l (List.mem_of_mem_take hl), fun t ht => o.tl t (List.mem_of_mem_take ht), o.l1, o.l2, o.wm, fun l hl => o.kn l (List.mem_of_mem_take hl), o.h1, o.b1, o.wp, o.hb, o.wa, fun t ht => o.sp t (List.mem_of_mem_take ht)⟩
theorem one_B {s : Sn} (hb : SnB s) : SnB (oneS s) := by
  have o := ownB1 hb
  refine ⟨o.w, ?_, ?_, fun l hl => o.kl l (List.mem_of_mem_take hl), fun t ht => o.tl t (List.mem_of_mem_take ht), fun t ht => o.sl t (List.mem_of_mem_take ht)⟩
  · show ((ownS s).looks.take 1).length ≤ 1000
    rw [List.length_take]; omega
  · show ((ownS s).truths.take 1).length ≤ 1000
    rw [List.length_take]; omega
theorem take1_0 {α : Type} {d : α} : ∀ {l : List α}, (l.take 1).getD 0 d = l.getD 0 d
  | [] => rfl
  | _ :: _ => rfl
theorem one_ways (s : Sn) (p : Nat) : waysL s p = waysL (oneS s) p := by
  unfold waysL
  have : ∀ k, waysK s p k = waysK (oneS s) p k := fun k => by
    induction k with
    | zero => rfl
    | succ k ih => rw [waysK, waysK, ih]; rfl
  exact this _
theorem one_emb {s : Sn} (ok : SnOk s) : Emb s (oneS s) id id fun i => i = 0 := by
  refine ⟨rfl, fun _ h => h, fun _ h => h, fun _ h => h, fun p t hp ht => ?_, fun i hi => ⟨by rw [hi]; exact ok.t1, by rw [hi, one_tl ok]; exact Nat.zero_lt_one⟩, fun i p m hi h => ?_, fun i j p hi hj h => by rw [hi, hj]⟩
  · have hw := waysL_pos ok ht
    rw [one_ways] at ht
    show (((t.1.toNat : Nat) : Int), t.2) ∈ waysL (oneS s) p
    rw [Int.toNat_of_nonneg hw.2.2.1]; exact ht
  · subst hi
    rw [(own_eq s).dry 0 p m] at h
    show dryT (oneS s) 0 p m = true
    unfold dryT at h ⊢
    show ((((ownS s).truths.take 1).getD 0 default).2.getD p default).2.any _ = true
    rw [take1_0]; exact h
theorem one_start {s : Sn} (ok : SnOk s) {m : Nat} (hm : (m : Int) ≤ s.last) : startZ s m ≤ startZ (oneS s) m := by
  have oko := one_ok ok
  refine startZ_ge (startZ_le s m).1 fun l hl => ?_
  obtain ⟨hne, hlB⟩ := part_B oko hl
  have h1 := ok.h1
  have hl0 : ∀ i, l.testBit i = true → i = 0 := fun i hi => by
    have := (hlB i hi).1
    rw [one_tl ok] at this; omega
  obtain ⟨n, hn, hlk, hpm, hb⟩ := parts_has ok (p := s.home.toNat) (left := allN s) (i := 0) (by omega) (by rw [ok.k1]; exact ok.t1) (by rw [allN_bit]; exact decide_eq_true ok.t1)
  refine Int.le_trans ((startZ_le s m).2 _ hpm) ?_
  have hwid : Wider s s := ⟨rfl, rfl, rfl, rfl, rfl, rfl, fun _ _ _ h => h, fun _ _ _ _ _ h => h⟩
  refine Int.le_trans (hwid.worth ok ok (p := s.home.toNat) (m := m) (B := partN s s.home.toNat (allN s) n) (A := l) hm (by omega) hne (fun i hi => ?_) fun i hi => ?_) ?_
  · rw [partN_bit, Bool.and_eq_true, decide_eq_true_eq, ok.k1] at hi
    exact hi.1
  · rw [hl0 i hi]; exact hb
  · exact worth_mono ok oko (one_emb ok) _ s.home.toNat m l l (Nat.le_refl _) hm (by omega) hne (fun i hi => hl0 i hi) fun j hj => ⟨j, hj, rfl⟩
theorem bst_spec1 (s : Sn) : ∀ k, -1 ≤ (bstK s k).2 ∧ (∀ m, m < k → startZ s m ≤ (bstK s k).2) ∧ ((bstK s k).2 ≠ -1 → (bstK s k).1 < k ∧ startZ s (bstK s k).1 = (bstK s k).2)
  | 0 => ⟨Int.le_refl _, fun m hm => by omega, fun h => absurd rfl h⟩
  | k + 1 => by
    obtain ⟨h1, h2, h3⟩ := bst_spec1 s k
    by_cases hlt : (bstK s k).2 < startZ s k
    · have e : bstK s (k + 1) = (k, startZ s k) := by rw [bstK, if_pos hlt]
      rw [e]
      dsimp only
      refine ⟨by omega, fun m hm => ?_, fun _ => ⟨by omega, rfl⟩⟩
      by_cases hmk : m = k
      · rw [hmk]; exact Int.le_refl _
      · have := h2 m (by omega); omega
    · have e : bstK s (k + 1) = bstK s k := by rw [bstK, if_neg hlt]
      rw [e]
      refine ⟨h1, fun m hm => ?_, fun hn => ⟨by have := (h3 hn).1; omega, (h3 hn).2⟩⟩
      by_cases hmk : m = k
      · rw [hmk]; omega
      · exact h2 m (by omega)
def bstV (s : Sn) : Int := if (bstE s).2 = -1 then 0 else (bstE s).2
theorem bstV_b {s : Sn} : 0 ≤ bstV s ∧ bstV s ≤ 60 := by
  unfold bstV
  obtain ⟨h1, h2, h3⟩ := bst_spec1 s (s.last.toNat + 1)
  have h1' : -1 ≤ (bstE s).2 := h1
  split
  · omega
  · rename_i h
    have h3' := h3 h
    have e : startZ s (bstK s (s.last.toNat + 1)).1 = (bstE s).2 := h3'.2
    have := (startZ_le s (bstK s (s.last.toNat + 1)).1).1
    omega
theorem one_best {s : Sn} (ok : SnOk s) : bstV s ≤ bstV (oneS s) := by
  have l1 := ok.l1
  have hb := bstV_b (s := oneS s)
  by_cases h : (bstE s).2 = -1
  · have : bstV s = 0 := if_pos h
    omega
  · have e1 : bstV s = (bstE s).2 := if_neg h
    obtain ⟨-, -, h3⟩ := bst_spec1 s (s.last.toNat + 1)
    obtain ⟨g1, g2, -⟩ := bst_spec1 (oneS s) (s.last.toNat + 1)
    obtain ⟨k1, k2⟩ := h3 h
    have k3 : startZ s (bstK s (s.last.toNat + 1)).1 = (bstE s).2 := k2
    have k4 := one_start ok (m := (bstK s (s.last.toNat + 1)).1) (by omega)
    have k5 : startZ (oneS s) (bstK s (s.last.toNat + 1)).1 ≤ (bstE (oneS s)).2 := g2 _ k1
    have k6 : -1 ≤ (bstE (oneS s)).2 := g1
    by_cases h2 : (bstE (oneS s)).2 = -1
    · obtain ⟨f1, -, -⟩ := bst_spec1 s (s.last.toNat + 1)
      have f1' : -1 ≤ (bstE s).2 := f1
      omega
    · have e2 : bstV (oneS s) = (bstE (oneS s)).2 := if_neg h2
      omega
def cutL (n : Int) (P : List Int) : List Int := P.map fun x => min n x
theorem cutL_len (n : Int) (P : List Int) : (cutL n P).length = P.length := List.length_map _
theorem cutL_get {n : Int} {P : List Int} {i : Nat} (h : i < P.length) : (cutL n P).getD i default = min n (P.getD i default) := by
  unfold cutL
  rw [List.getD_eq_getElem?_getD, List.getElem?_map, List.getD_eq_getElem?_getD, List.getElem?_eq_getElem h]; rfl
theorem cutL_sum {n n' : Int} (h : n ≤ n') : ∀ P : List Int, (cutL n P).sum ≤ (cutL n' P).sum
  | [] => Int.le_refl _
  | x :: P => by
    have := cutL_sum h P
    unfold cutL at this ⊢
    rw [List.map_cons, List.map_cons, List.sum_cons, List.sum_cons]
    omega
theorem cutL_b {n : Int} {P : List Int} {R : Int} (hn : 0 ≤ n) (hP : ∀ x ∈ P, 0 ≤ x ∧ x ≤ R) : ∀ x ∈ cutL n P, 0 ≤ x ∧ x ≤ R := fun x hx => by
  obtain ⟨y, hy, rfl⟩ := List.mem_map.1 hx
  have := hP y hy
  omega
theorem cutL_le {n : Int} {P : List Int} {R : Int} (hn : 0 ≤ n) (hP : ∀ x ∈ P, 0 ≤ x ∧ x ≤ R) : leL (cutL n P) P :=
  leL_of (cutL_len _ _) (fun y hy => (cutL_b hn hP y hy).1) fun i hi => by
    rw [cutL_len] at hi
    rw [cutL_get hi]; omega
end GA
end

section
namespace GA
open Go Go.RowKit
set_option linter.unusedVariables false
set_option linter.unusedSimpArgs false

def lexP (A : Array Oper) : Nat → List Oper → Bool
  | _, [] => true
  | k, o :: l => o.after.toList.all (fun e => !Region.binds .any e || Nat.blt e.on k) && l.all (fun oj => oj.after.toList.any (fun e => Region.binds .any e && Nat.beq e.on k) || o.apart A oj) && lexP A (k + 1) l
theorem lex_from {ops : List Oper} : ∀ (l : List Oper) (k : Nat) (listed : Array Bool), (∀ j, l[j]? = ops[k + j]?) → k + l.length = ops.length → listed.size = ops.length → (∀ j, listed.getD j true = decide (j < k ∨ ops.length ≤ j)) → lexP ops.toArray k l = true → Region.lexFrom .any ops.toArray l.length k listed = true
  | [], k, listed, hl, hk, hs, hL, h => by
    rw [List.length_nil, Region.lexFrom, List.isEmpty_iff]
    refine List.eq_nil_iff_forall_not_mem.2 fun j hj => ?_
    obtain ⟨h1, o, ho, -⟩ := mem_ready.1 hj
    have hlt : j < ops.length := by simpa using (Array.getElem?_eq_some_iff.1 ho).1
    rw [hL, decide_eq_false_iff_not] at h1
    rw [List.length_nil] at hk
    omega
  | o :: l, k, listed, hl, hk, hs, hL, h => by
    simp only [lexP, Bool.and_eq_true] at h
    obtain ⟨⟨h1, h2⟩, h3⟩ := h
    have h0 : ops[k]? = some o := by have := hl 0; simpa using this.symm
    have hkl : k < ops.length := (List.getElem?_eq_some_iff.1 h0).1
    rw [List.length_cons] at hk
    simp only [List.length_cons, Region.lexFrom, Bool.and_eq_true]
    refine ⟨⟨?_, ?_⟩, ?_⟩
    · rw [List.contains_iff_mem]
      refine mem_ready.2 ⟨by rw [hL, decide_eq_false_iff_not]; omega, o, by simpa using h0, fun e he hb => ?_⟩
      have h4 := List.all_eq_true.1 h1 e (by simpa using he)
      rw [hb] at h4
      simp only [Bool.not_true, Bool.false_or] at h4
      have h5 : e.on < k := Nat.blt_eq.mp h4
      have h6 := hL e.on
      rw [decide_eq_true (.inl h5)] at h6
      have h7 : e.on < listed.size := by omega
      simp only [Array.getD, h7, dite_true] at h6 ⊢
      exact h6
    · unfold Region.free
      rw [show ops.toArray[k]? = some o by simpa using h0]
      dsimp only
      rw [List.all_eq_true]
      intro j hj
      have hjl : j < ops.length := by simpa using hj
      by_cases hjk : j < k ∨ ops.length ≤ j
      · rw [hL, decide_eq_true hjk]; simp
      · by_cases he : j = k
        · rw [he]; simp
        · have hj2 : l[j - k - 1]? = ops[j]? := by
            have := hl (j - k)
            rw [show k + (j - k) = j by omega] at this
            rw [← this, show j - k = (j - k - 1) + 1 by omega, List.getElem?_cons_succ]
            simp
          have hoj : ops[j]? = some ops[j] := List.getElem?_eq_getElem hjl
          rw [hoj] at hj2
          have hm := List.mem_of_getElem? hj2
          have h4 := List.all_eq_true.1 h2 _ hm
          rw [show ops.toArray[j]? = some ops[j] by simp [hjl]]
          dsimp only
          rw [Bool.or_eq_true] at h4
          rcases h4 with h4 | h4
          · obtain ⟨e, he1, he2⟩ := List.any_eq_true.1 h4
            have h5 : (ops[j].after.any fun e => Region.binds .any e && e.on == k) = true := by
              rw [Array.any_eq_true']
              refine ⟨e, by simpa using he1, ?_⟩
              rw [Bool.and_eq_true] at he2 ⊢
              exact ⟨he2.1, by rw [beq_iff_eq]; exact Nat.eq_of_beq_eq_true he2.2⟩
            rw [h5]; simp
          · rw [h4]; simp
    · refine lex_from l (k + 1) _ (fun j => ?_) (by omega) (by simpa using hs) (fun j => ?_) h3
      · have := hl (j + 1)
        rw [List.getElem?_cons_succ] at this
        rw [this]; congr 1; omega
      · by_cases hjk : k = j
        · subst hjk
          have h7 : k < listed.size := by omega
          rw [decide_eq_true (.inl (by omega))]
          simp [h7]
        · rw [getD_set_ne true hjk, hL]
          congr 1
          simp only [eq_iff_iff]
          omega
theorem lex_of {ops : List Oper} (h : (Region.noSelect ops.toArray && lexP ops.toArray 0 ops) = true) : Region.lexB .any ops.toArray = true := by
  rw [Bool.and_eq_true] at h
  simp only [Region.lexB, Bool.and_eq_true]
  refine ⟨h.1, ?_⟩
  have := lex_from (ops := ops) ops 0 (Array.replicate ops.toArray.size false) (fun j => by rw [Nat.zero_add]) (by simp) (by simp) (fun j => ?_) h.2
  · simpa using this
  · by_cases hj : j < ops.length
    · rw [decide_eq_false (by omega)]
      simp [hj]
    · rw [decide_eq_true (.inr (by omega))]
      simp [hj]
end GA
end

section
namespace GA
open Go Go.RowKit
set_option linter.unusedVariables false
section
variable {P : Program} {N : Nat} {ρ : Option Nat} {H : List Blk} {σ : St} {D : List Nat} {Q : Post}
def keepQN (P : Program) (Q : Post) : Post
  | .normal, D, σ, H => XKeepE P σ H (Q .normal D)
  | e, D, σ, H => Q e D σ H
theorem Walk.thenKeepN {c : Code} (x : Walk P N ρ c (keepQN P Q) D σ H) : Walk P N ρ c Q D σ H := by
  constructor
  intro E h β a w s
  refine wpIn_mono (x.o E h β a w s) fun e a' w' hc => ?_
  obtain ⟨D', σ', H', h', β', q, X, s'⟩ := hc
  cases e with
  | normal =>
    obtain ⟨H1, l, L, rfl, hlow, hs, q⟩ := q.o
    obtain ⟨h'', X1, s1⟩ := keep_stands H1 l L hlow hs s'
    exact ⟨D', _, _, h'', β', q, X.trans X1, s1⟩
  | _ => exact ⟨D', σ', H', h', β', q, X, s'⟩
end
end GA
end

section
namespace GA
open Go Go.RowKit Go.Proofs
set_option pp.deepTerms true
set_option maxRecDepth 8000
set_option linter.unusedVariables false
set_option linter.unusedSimpArgs false

theorem work_c (s : Sn) (hb : SnB s) (ok : SnOk s) (P : List Int) (nl : Bool) (b : Bd) (hl : P.length = b.months.length) (hlen : P.length ≤ 100) (hP : ∀ x ∈ P, 0 ≤ x) :
    Comp Tryz.prog 22 [snA s, .pim [.sl nl (ints P)], .pim (bedC b)] (.tup [.sl P.isEmpty (ints (cutL (bstV s) P)), .int .i64 (cutL (bstV s) P).sum, .bool true]) := by
  have hbt := fBest_ok s hb ok
  have bb := bstV_b (s := s)
  rw [show (if (bstE s).2 = -1 then 0 else (bstE s).2) = bstV s from rfl] at hbt
  obtain ⟨ev, hev, hev2⟩ : ∃ ev : Int, ev = (if (bstE s).2 = -1 then 6 else 0) ∧ (ev = 0 ∨ ev = 6) := by
    by_cases h : (bstE s).2 = -1
    · exact ⟨6, (if_pos h).symm, .inr rfl⟩
    · exact ⟨0, (if_neg h).symm, .inl rfl⟩
  rw [← hev] at hbt
  generalize (if (bstE s).2 = -1 then 0 else (bstE s).1) = at0 at hbt
  generalize bstV s = N at hbt bb
  have e1 : ((ints P).length : Int) = P.length := by rw [ints_len]
  have e2 : ((b.months.map moA).length : Int) = b.months.length := by rw [List.length_map]
  rcases hev2 with rfl | rfl
  all_goals
    refine Comp.body (T := tab) (res := [.tmp 4, .tmp 5, .tmp 6]) tab_ok [] Tryz.func22 rfl (by kernel_rfl) Tryz.ntmps22 rfl (by simp only [List.length_cons, List.length_nil]; decide) (by simp only [lowL, AV.low, snL, lowI, bedC, lowMo, lowSu]; rfl) ?_; conv => whnf
    repeat' first | ((first | (with_reducible apply XBr.tt) | (with_reducible apply XBr.ff)); conv => whnf) | ((with_reducible apply XBr.dec) <;> (intro h; first | (exfalso; omega) | ((try simp only [List.length_map] at h); first | (exfalso; omega) | (conv => whnf)))) | ((with_reducible apply XBr.bne) <;> (intro h; first | (exfalso; omega) | (conv => whnf))) | ((refine XCall.ret hbt ?_); conv => whnf) | fail
    refine Walk.nilgr 10 3 rfl ?_
    refine Walk.loopK tab_ok [] [(8, _), (38, _), (39, _)] ⟨rfl, rfl, rfl, trivial⟩ (fun k : Nat => k ≤ P.length ∧ 0 ≤ (cutL N (P.take k)).sum ∧ (cutL N (P.take k)).sum ≤ 60 * k) (fun k => [(10, .gr 0 k), (11, .int .i64 (cutL N (P.take k)).sum), (40, natA k)]) (fun k => [.grow 3 (P.take k).isEmpty (ints (cutL N (P.take k)))]) (fun k => P.length - k) 0 ⟨Nat.zero_le _, by show (0 : Int) ≤ 0 ∧ (0 : Int) ≤ 60 * ((0 : Nat) : Int); omega⟩ rfl ⟨rfl, rfl, rfl, trivial⟩ ?_
    rintro k ⟨hk, hs1, hs2⟩
    have hnx : k < P.length → P.take (k + 1) = P.take k ++ [P.getD k default] := fun h => take_next h
    have hcn : ∀ x, cutL N (P.take k ++ [x]) = cutL N (P.take k) ++ [min N x] := fun x => List.map_append
    have hcl : (ints (cutL N (P.take k))).length = k := by rw [ints_len, cutL_len, List.length_take]; omega
    have hend : k = P.length → P.take k = P := fun h => by rw [h, List.take_length]
    obtain ⟨E, hE⟩ : ∃ E, E = ints (cutL N (P.take k)) := ⟨_, rfl⟩
    rw [← hE] at hcl ⊢
    conv => whnf
    by_cases hkl : k < P.length
    · have hp := hP _ (getD_mem (d := default) hkl)
      have hmn : 0 ≤ min N (P.getD k default) ∧ min N (P.getD k default) ≤ 60 := by omega
      have hsn : (cutL N (P.take (k + 1))).sum = (cutL N (P.take k)).sum + min N (P.getD k default) := by rw [hnx hkl, hcn, List.sum_append, List.sum_singleton]
      repeat' first | ((with_reducible apply XBr.dec) <;> (intro h; first | (exfalso; omega) | ((try simp only [List.length_map] at h); first | (exfalso; omega) | (conv => whnf)))) | ((with_reducible refine XInt.i64 (by omega) (by omega) ?_); conv => whnf) | ((with_reducible refine XHold.mk ?_ ?_); (first | omega | rfl | decide | exact ⟨rfl, by decide, rfl⟩ | exact wideI _ | exact widePr _ | exact wideSk _ | (unfold Room; constructor <;> ((try simp) <;> omega)) | exact ⟨rfl, by simp only [List.length_map], by unfold Room; constructor <;> ((try simp) <;> omega)⟩ | exact ⟨by omega, by omega, by unfold Room; constructor <;> ((try simp) <;> omega)⟩); conv => whnf) | (((with_reducible refine XIx.nat ?_ ?_ ?_); omega; (intro _; rfl)); conv => whnf) | fail
      refine XAgain.go (k + 1) ⟨by omega, by rw [hsn]; omega, by rw [hsn]; omega⟩ (by omega) ?_ ⟨rfl, rfl, rfl, rfl, (by rw [hsn]; rfl), rfl, trivial⟩
      rw [hnx hkl, hcn, isEmpty_app]
      show [Blk.grow _ _ ((cutL N (P.take k) ++ [min N (P.getD k default)]).map (AV.int .i64))] = _
      rw [List.map_append, show (cutL N (P.take k)).map (AV.int .i64) = E from hE.symm]; rfl
    have hend := hend (by omega)
    obtain rfl : k = P.length := by omega
    rw [hend] at hE ⊢
    subst hE
    repeat' first | ((with_reducible apply XBr.dec) <;> (intro h; first | (exfalso; omega) | ((try simp only [List.length_map] at h); first | (exfalso; omega) | (conv => whnf)))) | fail
    exact ⟨Froz.tup (.cons (Froz.grow rfl hcl (lowI _)) (.cons (.low rfl) (.cons (.low rfl) .nil)))⟩
set_option maxHeartbeats 8000000 in
theorem bedWorked_c (n1 n2 : Bool) (xs ys : List Int) (p : Int) (hx : xs.length < 9223372036854775808) (hy : ys.length < 9223372036854775808) (hp : 0 ≤ p ∧ p ≤ 255) :
    Comp Tryz.prog 4 [.sl n1 (bytes xs), .sl n2 (bytes ys), .int .u8 p] (.bool true) := by
  obtain ⟨b, re, ch, u1, mo, B, -⟩ := made_facts (hp0_ok (nl := n1) hx) (room := 40) (months := 4) (by omega) (by omega) (by omega) (by omega)
  have okb := B.ok
  have r1 := okb.r1
  have r2 := okb.r2
  have m1 := okb.m1
  have m2 := okb.m2
  have hsh := left_b r1 hp
  have e1 : ((b.months.map moA).length : Int) = b.months.length := by rw [List.length_map]
  have hmt := most_c b (p.tmod (b.room + 1)) ((bedE_iff b).2 okb) B.sv hsh
  have hkz := fun P hP => keeps_c b false P (p.tmod (b.room + 1)) (by omega) (by have := okb.s1; omega) hP
  have hmk := fordMade_c (hp0 n2 ys) 14 (hpB_ok hy) (by omega) (by omega)
  have hleft : p.tmod (b.room + 1) = p.tmod (b.room + 1) := rfl
  generalize hl : p.tmod (b.room + 1) = left at hsh hmt hkz
  refine Comp.body (T := tab) (res := [.tmp 6]) tab_ok [] Tryz.func4 rfl (by kernel_rfl) Tryz.ntmps4 rfl (by simp only [List.length_cons, List.length_nil]; decide) (by simp only [lowL, AV.low, lowBy]; rfl) ?_; conv => whnf
  repeat' first | (refine XCall.inl (T := tab) (res := [.tmp 2]) tab_ok [5] Tryz.func17 rfl (by kernel_rfl) Tryz.ntmps17 rfl (by simp only [List.length_append, List.length_cons, List.length_nil]; decide) ?_; conv => whnf) | ((refine XCall.hp (j := 0) mo (by simp only [AV.low, lowL, bedL, lowI, lowPr]; rfl) rfl ?_); conv => whnf) | fail
  refine XCall.hpE (j := 2) hmk rfl ?_
  rintro _ u2 ⟨s, rfl, mk, ou2⟩
  have ok := mk.ok
  have hb := mk.b
  conv => whnf
  have hmax := planM_max okb.toBedOk left b.months.length (Nat.le_refl _) (leastR b).toNat
  have hpb := planM_bd okb.toBedOk left b.months.length (Nat.le_refl _) (leastR b).toNat
  by_cases hv : valM b left b.months.length (leastR b).toNat = -1
  · unfold mostA at hmt
    rw [if_pos hv] at hmt
    repeat' first | ((with_reducible apply XBr.tt); conv => whnf) | ((with_reducible apply XBr.beq) <;> (intro h; first | (exfalso; omega) | (conv => whnf))) | ((with_reducible apply XBr.bne) <;> (intro h; first | (exfalso; omega) | (conv => whnf))) | ((with_reducible refine XInt.i64 (by omega) (by omega) ?_); conv => whnf) | ((with_reducible refine XHold.mk ?_ ?_); (first | omega | rfl | decide | exact ⟨rfl, by decide, rfl⟩ | exact wideI _ | exact widePr _ | exact wideSk _ | (unfold Room; constructor <;> ((try simp) <;> omega)) | exact ⟨rfl, by simp only [List.length_map], by unfold Room; constructor <;> ((try simp) <;> omega)⟩ | exact ⟨by omega, by omega, by unfold Room; constructor <;> ((try simp) <;> omega)⟩); conv => whnf) | (rw [hl]; conv => whnf) | ((first | (refine XCall.ret hmt ?_) | (refine XCall.ret awake04_c ?_)); conv => whnf) | fail
    exact XOut.bool rfl
  have hok := (hmax.1 hv).1
  have hPl := okP_len hok
  have hPb := hpb.1
  unfold mostA at hmt
  rw [if_neg hv] at hmt
  clear hmax hpb
  generalize planM b left b.months.length (leastR b).toNat = P at hmt hok hPl hPb
  have hW1 := work_c s hb ok P P.isEmpty b hPl (by omega) fun x hx => (hPb x hx).1
  have hW2 := work_c (oneS s) (one_B hb) (one_ok ok) P P.isEmpty b hPl (by omega) fun x hx => (hPb x hx).1
  have hkp : ∀ n, 0 ≤ n → Comp Tryz.prog 24 [bedA b, .sl P.isEmpty (ints (cutL n P)), .int .i64 left] (.tup [.bool true, .int .i64 0]) := fun n hn => by
    have h := keeps_c b P.isEmpty (cutL n P) left (by omega) (by have := okb.s1; omega) (by rw [cutL_len]; omega)
    have hE : planE b (cutL n P) = 0 := planE_iff.2 ⟨okb, by rw [cutL_len]; exact hPl, cutL_b hn hPb⟩
    have hK : keepB b (cutL n P) left = true := (keepB_iff (by rw [cutL_len]; exact hPl) (fun x hx => (cutL_b hn hPb x hx).1) hsh.1).2 (okP_mono okb.toBedOk (Nat.le_refl _) hok (Nat.le_refl _) (cutL_le hn hPb))
    unfold keepsA at h
    rw [if_neg (fun h' => h' hE), if_neg (by rw [inZ_iff.2 hsh]; simp), hK] at h
    exact h
  have hK1 := hkp _ (bstV_b (s := s)).1
  have hK2 := hkp _ (bstV_b (s := oneS s)).1
  have hsum := cutL_sum (one_best ok) P
  have how := own02_c s hb
  have hC : snC (oneS s) = [.int .i64 s.places, .int .i64 s.home, .int .i64 s.bed, .int .i64 s.last, .sl false (s.ways.map wyA), .sl false (List.take 1 ((ownS s).looks.map rwA)), .sl false (List.take 1 ((ownS s).truths.map trA))] := by
    unfold snC oneS
    rw [List.map_take, List.map_take]; rfl
  have hCl := snCL (n := 0) (oneS s)
  rw [hC] at hCl
  have hk1 := (ownOk1 ok).k1; have ht1 := (ownOk1 ok).t1
  have el1 : (((ownS s).looks.map rwA).length : Int) = (ownS s).looks.length := by rw [List.length_map]
  have el2 : (((ownS s).truths.map trA).length : Int) = (ownS s).truths.length := by rw [List.length_map]
  generalize cutL (bstV s) P = C1 at hW1 hK1 hsum
  generalize cutL (bstV (oneS s)) P = C2 at hW2 hK2 hsum
  repeat' first | ((with_reducible apply XBr.bne) <;> (intro h; first | (exfalso; omega) | (conv => whnf))) | ((with_reducible refine XInt.i64 (by omega) (by omega) ?_); conv => whnf) | ((with_reducible refine XHold.mk ?_ ?_); (first | omega | rfl | decide | exact ⟨rfl, by decide, rfl⟩ | exact wideI _ | exact widePr _ | exact wideSk _ | (unfold Room; constructor <;> ((try simp) <;> omega)) | exact ⟨rfl, by simp only [List.length_map], by unfold Room; constructor <;> ((try simp) <;> omega)⟩ | exact ⟨by omega, by omega, by unfold Room; constructor <;> ((try simp) <;> omega)⟩); conv => whnf) | (rw [hl]; conv => whnf) | ((first | (refine XCall.ret hmt ?_) | (refine XCall.ret how ?_)); conv => whnf) | fail
  refine Walk.heapE [hpC u1, .cells (bedC b), hpC u2, .cells (snC s), .cells [slA P], .cells (snC (ownS s))] rfl ?_
  refine Walk.thenKeepN ?_
  apply Walk.drawX tab_ok mixed_ok [] [7, 9] (hsC [_, _, _]) [_, _, _, _, _, _, _, .tup [], _, .tup []] (lex_of (by kernel_rfl)) rfl
  · skip
    repeat' first | ((with_reducible refine XHold.mk ?_ ?_); (first | omega | rfl | decide | exact ⟨rfl, by decide, rfl⟩ | exact wideI _ | exact widePr _ | exact wideSk _ | (unfold Room; constructor <;> ((try simp) <;> omega)) | exact ⟨rfl, by simp only [List.length_map], by unfold Room; constructor <;> ((try simp) <;> omega)⟩ | exact ⟨by omega, by omega, by unfold Room; constructor <;> ((try simp) <;> omega)⟩); conv => whnf) | (with_reducible apply XAnd.mk) | ((first | (with_reducible apply Chk.go) | (with_reducible apply ChkA.go)); conv => whnf) | (exact XSame.mk rfl rfl) | (with_reducible exact trivial) | fail
  · skip
    repeat' first | ((with_reducible refine XHold.mk ?_ ?_); (first | omega | rfl | decide | exact ⟨rfl, by decide, rfl⟩ | exact wideI _ | exact widePr _ | exact wideSk _ | (unfold Room; constructor <;> ((try simp) <;> omega)) | exact ⟨rfl, by simp only [List.length_map], by unfold Room; constructor <;> ((try simp) <;> omega)⟩ | exact ⟨by omega, by omega, by unfold Room; constructor <;> ((try simp) <;> omega)⟩); conv => whnf) | (with_reducible apply XAnd.mk) | ((first | (with_reducible apply Chk.go) | (with_reducible apply ChkF.go) | (with_reducible apply ChkB.go)); conv => whnf) | (exact XSame.mk rfl rfl) | (with_reducible exact trivial) | fail
  refine XKeepE.go [] _ [(7, .pim (bedC b)), (10, .pim (snC s)), (11, .int .i64 left), (12, .pim [slA P]), (14, .pim (snC (oneS s)))] rfl (fun x hx => by cases hx) ⟨⟨_, rfl, .all (Froz.ptr rfl (by intro v hv; simp only [bedC, List.mem_cons, List.not_mem_nil, or_false] at hv; rcases hv with rfl | rfl | rfl | rfl | rfl <;> rfl) (.low (show lowL 0 (bedC b) = true from bedL b)))⟩, ⟨_, rfl, .all (Froz.ptr rfl (snOne s) (.low (snCL s)))⟩, ⟨_, rfl, .same rfl⟩, ⟨_, rfl, .all (Froz.ptr rfl (one1 rfl) (.low (show lowL 0 [slA P] = true by simp only [lowL, AV.low, slA, lowI]; rfl)))⟩, ⟨_, rfl, .all ?_⟩, trivial⟩ ?_
  · rw [hC]
    exact Froz.ptr rfl (by intro v hv; simp only [List.mem_cons, List.not_mem_nil, or_false] at hv; rcases hv with rfl | rfl | rfl | rfl | rfl | rfl | rfl <;> rfl) (.low hCl)
  conv => whnf
  repeat' first | ((first | (with_reducible apply XBr.tt) | (with_reducible apply XBr.ff)); conv => whnf) | (with_reducible apply XBr.not) | ((with_reducible apply XBr.dec) <;> (intro h; first | (exfalso; omega) | ((try simp only [List.length_map] at h); first | (exfalso; omega) | (conv => whnf)))) | ((with_reducible refine XHold.mk ?_ ?_); (first | omega | rfl | decide | exact ⟨rfl, by decide, rfl⟩ | exact wideI _ | exact widePr _ | exact wideSk _ | (unfold Room; constructor <;> ((try simp) <;> omega)) | exact ⟨rfl, by simp only [List.length_map], by unfold Room; constructor <;> ((try simp) <;> omega)⟩ | exact ⟨by omega, by omega, by unfold Room; constructor <;> ((try simp) <;> omega)⟩); conv => whnf) | ((first | (refine XCall.ret hW1 ?_) | (refine XCall.ret hW2 ?_)); conv => whnf) | fail
  refine Walk.loopK tab_ok [] [(7, _), (11, _), (93, _), (94, _)] ⟨rfl, rfl, rfl, rfl, trivial⟩ (fun k : Nat => k ≤ 2) (fun k => [(95, natA k)]) (fun _ => List.replicate 6 .dead) (fun k => 2 - k) 0 (Nat.zero_le _) rfl ⟨rfl, trivial⟩ ?_
  intro k hk
  have el : (([AV.sl P.isEmpty (ints C1), AV.sl P.isEmpty (ints C2)] : List AV).length : Int) = 2 := rfl
  have hc : k = 0 ∨ k = 1 ∨ k = 2 := by omega
  rcases hc with rfl | rfl | rfl
  · conv => whnf
    repeat' first | ((first | (with_reducible apply XBr.tt) | (with_reducible apply XBr.ff)); conv => whnf) | (with_reducible apply XBr.not) | ((with_reducible apply XBr.dec) <;> (intro h; first | (exfalso; omega) | ((try simp only [List.length_map] at h); first | (exfalso; omega) | (conv => whnf)))) | ((with_reducible apply XBr.bne) <;> (intro h; first | (exfalso; omega) | (conv => whnf))) | ((first | (with_reducible refine XInt.i64 (by omega) (by omega) ?_) | (refine XIx.mk (by omega) (by omega) rfl ?_) | (refine XCall.ret hK1 ?_)); conv => whnf) | fail
    exact XAgain.go 1 (by omega) (by omega) rfl ⟨rfl, rfl, rfl, rfl, rfl, trivial⟩
  · conv => whnf
    repeat' first | ((first | (with_reducible apply XBr.tt) | (with_reducible apply XBr.ff)); conv => whnf) | (with_reducible apply XBr.not) | ((with_reducible apply XBr.dec) <;> (intro h; first | (exfalso; omega) | ((try simp only [List.length_map] at h); first | (exfalso; omega) | (conv => whnf)))) | ((with_reducible apply XBr.bne) <;> (intro h; first | (exfalso; omega) | (conv => whnf))) | ((first | (with_reducible refine XInt.i64 (by omega) (by omega) ?_) | (refine XIx.mk (by omega) (by omega) rfl ?_) | (refine XCall.ret hK2 ?_)); conv => whnf) | fail
    exact XAgain.go 2 (by omega) (by omega) rfl ⟨rfl, rfl, rfl, rfl, rfl, trivial⟩
  · conv => whnf
    repeat' first | ((with_reducible apply XBr.dec) <;> (intro h; first | (exfalso; omega) | ((try simp only [List.length_map] at h); first | (exfalso; omega) | (conv => whnf)))) | ((refine XCall.ret awake04_c ?_); conv => whnf) | fail
    exact XOut.bool rfl
end GA
end
