/- Part 7 of a proof: D22. -/
import Derived.Test.YtfpggfdojnnaiaaP6
section
namespace GA
open Go Go.RowKit Go.Proofs
set_option pp.deepTerms true
set_option maxRecDepth 8000
set_option linter.unusedVariables false
set_option linter.unusedSimpArgs false

theorem take_sum {xs : List Int} {m : Nat} (h : m < xs.length) : (xs.take (m + 1)).sum = (xs.take m).sum + xs.getD m default := by
  rw [List.take_add_one, List.getElem?_eq_getElem h, List.sum_append, List.getD_eq_getElem?_getD, List.getElem?_eq_getElem h]
  simp
theorem take_sum_b {xs : List Int} {r : Int} (h : ∀ x ∈ xs, 0 ≤ x ∧ x ≤ r) (hr : r ≤ 120) : ∀ m, m ≤ xs.length → 0 ≤ (xs.take m).sum ∧ (xs.take m).sum ≤ 120 * m
  | 0, _ => by simp
  | m + 1, hm => by
    have ih := take_sum_b h hr m (by omega)
    have := h _ (getD_mem (d := default) (show m < xs.length by omega))
    rw [take_sum (by omega)]; omega
set_option maxHeartbeats 4000000 in
theorem bedPlanned_c (n1 n2 : Bool) (xs ys : List Int) (p : Int) (hx : xs.length < 9223372036854775808) (hy : ys.length < 9223372036854775808) (hp : 0 ≤ p ∧ p ≤ 255) :
    Comp Try.prog 16 [.sl n1 (bytes xs), .sl n2 (bytes ys), .int .u8 p] (.bool true) := by
  obtain ⟨b, re, ch, u1, mo, B, -⟩ := made_facts (hp0_ok (nl := n1) hx) (room := 60) (months := 5) (by omega) (by omega) (by omega) (by omega)
  have ok := B.ok
  have r1 := ok.r1
  have r2 := ok.r2
  have m1 := ok.m1
  have m2 := ok.m2
  have f1 := ok.f1
  have f2 := ok.f2
  have u1' := ok.u1
  have u2 := ok.u2
  have hsh := left_b r1 hp
  have e1 : ((b.months.map moA).length : Int) = b.months.length := by rw [List.length_map]
  have hmt := most_c b (p.tmod (b.room + 1)) ((bedE_iff b).2 ok) B.sv hsh
  have hf := floor_all_c b (p.tmod (b.room + 1)) (by omega) (by have := ok.s1; omega)
  have hkz := keeps_c b false (List.replicate b.months.length 0) (p.tmod (b.room + 1)) (by omega) (by have := ok.s1; omega) (by rw [List.length_replicate]; omega)
  generalize hl : p.tmod (b.room + 1) = left at hsh hf hmt hkz
  have hE : bShareE b left = 0 := bShareE_iff.2 ⟨ok, hsh⟩
  have hlr : leastR b = max 0 (b.first - b.unsure) := rfl
  have hpz : planE b (List.replicate b.months.length 0) = 0 := planE_iff.2 ⟨ok, List.length_replicate, fun x hx => by rw [List.eq_of_mem_replicate hx]; omega⟩
  have hkz' : keepsA b (List.replicate b.months.length 0) left = .tup [.bool (keepB b (List.replicate b.months.length 0) left), .int .i64 0] := by
    unfold keepsA
    rw [if_neg (fun h => h hpz), if_neg (by rw [inZ_iff.2 hsh]; simp)]
  rw [hkz'] at hkz
  have hzero := (keepB_iff (b := b) (plan := List.replicate b.months.length 0) List.length_replicate (fun x hx => by rw [List.eq_of_mem_replicate hx]; omega) hsh.1).trans (okP_zero ok.toBedOk b.months.length (Nat.le_refl _) (leastR b).toNat (by omega))
  have hmax := planM_max ok.toBedOk left b.months.length (Nat.le_refl _) (leastR b).toNat
  have hzz : okP b left b.months.length (leastR b).toNat (List.replicate b.months.length 0) ↔ keepB b (List.replicate b.months.length 0) left = true := (keepB_iff (b := b) (plan := List.replicate b.months.length 0) List.length_replicate (fun x hx => by rw [List.eq_of_mem_replicate hx]; omega) hsh.1).symm
  have hlow1 : ∀ z n, lowL z (List.replicate n (AV.int .i64 0)) = true := fun z n => by
    have := lowI (n := z) (List.replicate n 0)
    unfold ints at this
    rw [List.map_replicate] at this; exact this
  have hlow0 := hlow1 0
  have hzr : ints (List.replicate b.months.length 0) = List.replicate (((b.months.map moA).length : Int)).toNat (AV.int .i64 0) := by
    unfold ints
    rw [List.map_replicate, show (((b.months.map moA).length : Int)).toNat = b.months.length by omega]
  rw [hzr] at hkz
  have hpb := planM_bd ok.toBedOk left b.months.length (Nat.le_refl _) (leastR b).toNat
  have hz0 : valM b left b.months.length (leastR b).toNat ≠ -1 → keepB b (List.replicate b.months.length 0) left = true := fun h => by
    have hk := (hmax.1 h).1
    exact hzz.1 (okP_mono ok.toBedOk (Nat.le_refl _) hk (Nat.le_refl _) (leL_of (by rw [List.length_replicate, okP_len hk]) (fun y hy => by rw [List.eq_of_mem_replicate hy]; omega) fun i hi => by
      rw [List.length_replicate] at hi
      have e : (List.replicate b.months.length (0 : Int)).getD i default = 0 := List.eq_of_mem_replicate (getD_mem (by rw [List.length_replicate]; exact hi))
      rw [e]
      exact (hpb.1 _ (getD_mem (by rw [okP_len hk]; exact hi))).1))
  have hz1 : keepB b (List.replicate b.months.length 0) left = true → valM b left b.months.length (leastR b).toNat ≠ -1 := fun h => (hmax.2 _ (hzz.2 h)).1
  by_cases hv : valM b left b.months.length (leastR b).toNat = -1
  · have hkf : keepB b (List.replicate b.months.length 0) left = false := by
      cases h : keepB b (List.replicate b.months.length 0) left with
      | false => rfl
      | true => exact absurd hv (hz1 h)
    rw [hkf] at hkz hzero
    unfold mostA at hmt
    rw [if_pos hv] at hmt
    clear hmax hz0 hz1 hzz hpb
    cases hfl : flrL b left b.months.length with
    | none =>
      rw [floorA_none hE hfl] at hf
      refine Comp.body' (T := tab) (res := [.tmp 6]) tab_ok [] Try.func16 rfl (by kernel_rfl) Try.ntmps16 rfl (by simp only [List.length_cons, List.length_nil]; decide) (by simp only [lowL, AV.low, lowBy]; rfl) ?_; conv => whnf
      repeat' first | ((with_reducible apply XBr.ff); conv => whnf) | ((with_reducible apply XBr.beq) <;> (intro h; first | (exfalso; omega) | (conv => whnf))) | ((with_reducible apply XBr.bne) <;> (intro h; first | (exfalso; omega) | (conv => whnf))) | ((with_reducible refine XInt.i64 (by omega) (by omega) ?_); conv => whnf) | ((with_reducible refine XHold.mk ?_ ?_); (first | omega | rfl | decide | exact ⟨rfl, by decide, rfl⟩ | exact wideI _ | exact widePr _ | exact wideSk _ | (unfold Room; constructor <;> ((try simp) <;> omega)) | exact ⟨rfl, by simp only [List.length_map], by unfold Room; constructor <;> ((try simp) <;> omega)⟩ | exact ⟨by omega, by omega, by unfold Room; constructor <;> ((try simp) <;> omega)⟩); conv => whnf) | (with_reducible apply XAnd.mk) | ((first | (with_reducible apply Chk.go) | (with_reducible apply ChkA.go) | (with_reducible apply ChkF.go) | (with_reducible apply ChkB.go)); conv => whnf) | (exact XSame.mk rfl rfl) | (with_reducible exact trivial) | (apply Walk.drawN (id := 6) tab_ok mixed_ok [] [4] (hsC [_, _]) [_, _, _, _, _, _, _, _, _, _, _, _] (by kernel_rfl) rfl) | (apply Walk.drawN (id := 7) tab_ok mixed_ok [] [] (hsU _) [_, _, _, _, _, _, _, _, _, _, _, _, _, _, _, _, _, _, _, _, _, _, _, _, _, _, _, _, _, _, _, _, _, _, _, _, _, _, _, _, _, _, _, _, _, _, _, _, _, _, _] (by kernel_rfl) rfl) | ((with_reducible apply XNext.mk); conv => whnf) | (refine XCall.inl (T := tab) (res := [.tmp 2]) tab_ok [5] Try.func20 rfl (by kernel_rfl) Try.ntmps20 rfl (by simp only [List.length_append, List.length_cons, List.length_nil]; decide) ?_; conv => whnf) | ((first | (refine XCall.hp (j := 0) mo (by simp only [AV.low, lowL, bedL, lowI, lowPr]; rfl) rfl ?_) | (rw [hl]; refine XCall.ret hmt ?_) | (refine XCall.ret hf ?_) | (refine XCall.ret awake04_c ?_) | ((refine XCall.heap [hpC u1, .cells (bedC b), hpC (hp0 n2 ys), .grow 3 false (List.replicate (((b.months.map moA).length : Int)).toNat (.int .i64 0))] rfl ?_); (refine XCall.lend hkz (.cons (.low (bedL b)) (.cons (Froz.grow rfl (by rw [List.length_replicate]) (hlow0 _)) (.cons (.low rfl) .nil))) rfl ?_)) | (with_reducible refine XBr.no (by decide) ?_)); conv => whnf) | fail
      all_goals exact ⟨.low rfl⟩
    | some l =>
      have hlen := flrL_len hfl
      have hlen2 : ((ints l).length : Int) = b.months.length + 1 := by rw [ints_len]; omega
      have hl00 : l.getD (Int.toNat 0) default = l.headD 0 := by cases l <;> rfl
      have hlt' : decide (l.getD (Int.toNat 0) default ≤ max 0 (b.first - b.unsure)) = false := by
        rw [hl00]
        refine decide_eq_false fun h => ?_
        have := hzero.2 ⟨l, hfl, by rw [hlr]; omega⟩
        cases this
      rw [floorA_some hE hfl] at hf
      clear hzero
      refine Comp.body' (T := tab) (res := [.tmp 6]) tab_ok [] Try.func16 rfl (by kernel_rfl) Try.ntmps16 rfl (by simp only [List.length_cons, List.length_nil]; decide) (by simp only [lowL, AV.low, lowBy]; rfl) ?_; conv => whnf
      repeat' first | ((with_reducible apply XBr.ff); conv => whnf) | ((with_reducible apply XBr.beq) <;> (intro h; first | (exfalso; omega) | (conv => whnf))) | ((with_reducible apply XBr.bne) <;> (intro h; first | (exfalso; omega) | (conv => whnf))) | ((with_reducible refine XInt.i64 (by omega) (by omega) ?_); conv => whnf) | ((with_reducible refine XHold.mk ?_ ?_); (first | omega | rfl | decide | exact ⟨rfl, by decide, rfl⟩ | exact wideI _ | exact widePr _ | exact wideSk _ | (unfold Room; constructor <;> ((try simp) <;> omega)) | exact ⟨rfl, by simp only [List.length_map], by unfold Room; constructor <;> ((try simp) <;> omega)⟩ | exact ⟨by omega, by omega, by unfold Room; constructor <;> ((try simp) <;> omega)⟩); conv => whnf) | (((with_reducible refine XIx.map ?_ ?_ ?_ ?_); omega; omega; (intro _; rfl)); conv => whnf) | (with_reducible apply XAnd.mk) | ((first | (with_reducible apply Chk.go) | (with_reducible apply ChkA.go) | (with_reducible apply ChkF.go) | (with_reducible apply ChkB.go)); conv => whnf) | (exact XSame.mk rfl rfl) | (with_reducible exact trivial) | (apply Walk.drawN (id := 6) tab_ok mixed_ok [] [4] (hsC [_, _]) [_, _, _, _, _, _, _, _, _, _, _, _] (by kernel_rfl) rfl) | (apply Walk.drawN (id := 7) tab_ok mixed_ok [] [] (hsU _) [_, _, _, _, _, _, _, _, _, _, _, _, _, _, _, _, _, _, _, _, _, _, _, _, _, _, _, _, _, _, _, _, _, _, _, _, _, _, _, _, _, _, _, _, _, _, _, _, _, _, _] (by kernel_rfl) rfl) | ((with_reducible apply XNext.mk); conv => whnf) | (refine XCall.inl (T := tab) (res := [.tmp 2]) tab_ok [5] Try.func20 rfl (by kernel_rfl) Try.ntmps20 rfl (by simp only [List.length_append, List.length_cons, List.length_nil]; decide) ?_; conv => whnf) | ((first | (refine XCall.hp (j := 0) mo (by simp only [AV.low, lowL, bedL, lowI, lowPr]; rfl) rfl ?_) | (rw [hl]; refine XCall.ret hmt ?_) | (refine XCall.ret hf ?_) | (refine XCall.ret awake04_c ?_) | ((refine XCall.heap [hpC u1, .cells (bedC b), hpC (hp0 n2 ys), .grow 3 false (List.replicate (((b.months.map moA).length : Int)).toNat (.int .i64 0))] rfl ?_); (refine XCall.lend hkz (.cons (.low (bedL b)) (.cons (Froz.grow rfl (by rw [List.length_replicate]) (hlow0 _)) (.cons (.low rfl) .nil))) rfl ?_)) | (with_reducible refine XBr.no (by decide) ?_)); conv => whnf) | ((with_reducible apply XBr.mk') <;> (intro h; conv => whnf)) | fail
      · exfalso; rw [hlt'] at h; simp at h
      · exact ⟨.low rfl⟩
  · have hkt := hz0 hv
    rw [hkt] at hkz hzero
    obtain ⟨l, hfl, hl0⟩ := hzero.1 rfl
    have hlen := flrL_len hfl
    have hlen2 : ((ints l).length : Int) = b.months.length + 1 := by rw [ints_len]; omega
    have hl1 : ((leastR b).toNat : Int) = max 0 (b.first - b.unsure) := by rw [hlr]; exact Int.toNat_of_nonneg (Int.le_max_left 0 _)
    rw [hl1] at hl0
    have hlt' : decide (l.getD (Int.toNat 0) default ≤ max 0 (b.first - b.unsure)) = true := by
      rw [show l.getD (Int.toNat 0) default = l.headD 0 by cases l <;> rfl]
      exact decide_eq_true hl0
    rw [floorA_some hE hfl] at hf
    unfold mostA at hmt
    rw [if_neg hv] at hmt
    obtain ⟨hk1, hk2⟩ := hmax.1 hv
    have hbest := hmax.2
    have hpl := okP_len hk1
    have hpr := hpb.1
    rw [← hk2] at hbest
    clear hmax hz0 hz1 hzz hpb hzero hk2
    generalize planM b left b.months.length (leastR b).toNat = pl at hmt hk1 hbest hpl hpr
    have hpE : planE b pl = 0 := planE_iff.2 ⟨ok, hpl, hpr⟩
    have hkp := keeps_c b pl.isEmpty pl left (by omega) (by have := ok.s1; omega) (by omega)
    have hkp' : keepsA b pl left = .tup [.bool true, .int .i64 0] := by
      unfold keepsA
      rw [if_neg (fun h => h hpE), if_neg (by rw [inZ_iff.2 hsh]; simp), (keepB_iff hpl (fun x hx => (hpr x hx).1) hsh.1).2 hk1]
    rw [hkp'] at hkp
    unfold slA at hmt
    refine Comp.body' (T := tab) (res := [.tmp 6]) tab_ok [] Try.func16 rfl (by kernel_rfl) Try.ntmps16 rfl (by simp only [List.length_cons, List.length_nil]; decide) (by simp only [lowL, AV.low, lowBy]; rfl) ?_; conv => whnf
    repeat' first | ((first | (with_reducible apply XBr.tt) | (with_reducible apply XBr.ff)); conv => whnf) | (with_reducible apply XBr.not) | ((with_reducible apply XBr.beq) <;> (intro h; first | (exfalso; omega) | (conv => whnf))) | ((with_reducible apply XBr.bne) <;> (intro h; first | (exfalso; omega) | (conv => whnf))) | ((with_reducible refine XInt.i64 (by omega) (by omega) ?_); conv => whnf) | ((with_reducible refine XHold.mk ?_ ?_); (first | omega | rfl | decide | exact ⟨rfl, by decide, rfl⟩ | exact wideI _ | exact widePr _ | exact wideSk _ | (unfold Room; constructor <;> ((try simp) <;> omega)) | exact ⟨rfl, by simp only [List.length_map], by unfold Room; constructor <;> ((try simp) <;> omega)⟩ | exact ⟨by omega, by omega, by unfold Room; constructor <;> ((try simp) <;> omega)⟩); conv => whnf) | (((with_reducible refine XIx.map ?_ ?_ ?_ ?_); omega; omega; (intro _; rfl)); conv => whnf) | (with_reducible apply XAnd.mk) | ((first | (with_reducible apply Chk.go) | (with_reducible apply ChkA.go) | (with_reducible apply ChkF.go) | (with_reducible apply ChkB.go)); conv => whnf) | (exact XSame.mk rfl rfl) | (with_reducible exact trivial) | (apply Walk.drawN (id := 6) tab_ok mixed_ok [] [4] (hsC [_, _]) [_, _, _, _, _, _, _, _, _, _, _, _] (by kernel_rfl) rfl) | (apply Walk.drawN (id := 7) tab_ok mixed_ok [] [] (hsU _) [_, _, _, _, _, _, _, _, _, _, _, _, _, _, _, _, _, _, _, _, _, _, _, _, _, _, _, _, _, _, _, _, _, _, _, _, _, _, _, _, _, _, _, _, _, _, _, _, _, _, _] (by kernel_rfl) rfl) | ((with_reducible apply XNext.mk); conv => whnf) | (refine XCall.inl (T := tab) (res := [.tmp 2]) tab_ok [5] Try.func20 rfl (by kernel_rfl) Try.ntmps20 rfl (by simp only [List.length_append, List.length_cons, List.length_nil]; decide) ?_; conv => whnf) | ((first | (refine XCall.hp (j := 0) mo (by simp only [AV.low, lowL, bedL, lowI, lowPr]; rfl) rfl ?_) | (rw [hl]; refine XCall.ret hmt ?_) | (refine XCall.ret hf ?_) | ((refine XCall.heap [hpC u1, .cells (bedC b), hpC (hp0 n2 ys), .grow 3 false (List.replicate (((b.months.map moA).length : Int)).toNat (.int .i64 0))] rfl ?_); (refine XCall.lend hkz (.cons (.low (bedL b)) (.cons (Froz.grow rfl (by rw [List.length_replicate]) (hlow0 _)) (.cons (.low rfl) .nil))) rfl ?_)) | (with_reducible refine XBr.no (by decide) ?_) | (refine XCall.ret hkp ?_)); conv => whnf) | ((with_reducible apply XBr.mk') <;> (intro h; conv => whnf)) | fail
    · exfalso; rw [hlt'] at h; simp at h
    clear h
    have hil : ((ints pl).length : Int) = b.months.length := by rw [ints_len]; omega
    refine Walk.loopK tab_ok [] [(7, _), (10, _), (11, _), (12, _), (136, _), (137, _)] ⟨rfl, rfl, rfl, rfl, rfl, rfl, trivial⟩ (fun m : Nat => m ≤ b.months.length) (fun m => [(19, .int .i64 (pl.take m).sum), (138, natA m)]) (fun _ => [hpC u1, .cells (bedC b), hpC (hp0 n2 ys), .grow 3 false (List.replicate (((b.months.map moA).length : Int)).toNat (.int .i64 0))]) (fun m => b.months.length - m) 0 (Nat.zero_le _) rfl ⟨rfl, rfl, trivial⟩ ?_
    intro m hm
    have hsb := take_sum_b hpr r2 m (by omega)
    conv => whnf
    by_cases hlt : m < b.months.length
    · have hts := take_sum (xs := pl) (m := m) (by omega)
      have hsb2 := take_sum_b hpr r2 (m + 1) (by omega)
      have hgm := hpr _ (getD_mem (d := default) (show m < pl.length by omega))
      generalize (pl.take m).sum = sm at hsb hts
      repeat' first | ((with_reducible apply XBr.dec) <;> (intro h; first | (exfalso; omega) | ((try simp only [List.length_map] at h); first | (exfalso; omega) | (conv => whnf)))) | ((first | (with_reducible refine XInt.i64 (by omega) (by omega) ?_) | ((with_reducible refine XIx.nat ?_ ?_ ?_); omega; (intro _; rfl))); conv => whnf) | fail
      exact XAgain.go (m + 1) (by omega) (by omega) rfl ⟨rfl, rfl, rfl, rfl, rfl, rfl, by rw [hts]; rfl, rfl, trivial⟩
    · obtain rfl : m = b.months.length := by omega
      rw [List.take_of_length_le (by omega : pl.length ≤ b.months.length)]
      repeat' first | ((with_reducible apply XBr.dec) <;> (intro h; first | (exfalso; omega) | ((try simp only [List.length_map] at h); first | (exfalso; omega) | (conv => whnf)))) | fail
      clear hkz hzr hkz' hpz hkt hf hfl hl0 hlen hlen2 hlt' hl1 hsb hlt
      have hZl := fun z => hlow1 z (((b.months.map moA).length : Int)).toNat
      generalize List.replicate (((b.months.map moA).length : Int)).toNat (AV.int .i64 0) = Z at hZl
      have hdu : pl.length ≤ 100000 := by omega
      refine Walk.loopGK tab_ok [] [(7, _), (10, _), (11, _), (12, _), (19, _)] ⟨rfl, rfl, rfl, rfl, rfl, trivial⟩ (fun q : Nat × Hp => q.1 ≤ 6 ∧ q.2.Ok) (fun q => [(146, natA q.1)]) (fun q => [hpC u1, .cells (bedC b), hpC q.2, .grow 3 false Z]) (fun q => 6 - q.1) (0, hp0 n2 ys) ⟨by dsimp only; omega, hp0_ok hy⟩ rfl ⟨rfl, trivial⟩ ?_ (fun _ _ => (show (4 : Nat) ≤ 4 from Nat.le_refl 4)) ?_
      · intro q _
        refine ⟨fun z hz => ?_, fun z hz => ?_⟩
        · simp only [List.mem_cons, List.not_mem_nil, or_false] at hz
          rcases hz with rfl | rfl | rfl | rfl <;> first | exact hpC_low _ | exact lowBd b | exact hZl _
        · simp only [List.cons_append, List.nil_append, List.mem_cons, List.not_mem_nil, or_false] at hz
          rcases hz with rfl | rfl | rfl | rfl | rfl | rfl <;> first | rfl | exact lowI _
      rintro ⟨i, v⟩ ⟨hi, vo⟩
      dsimp only at hi vo ⊢
      have hfr := from_c v 1 3 vo (by omega) (by omega) (by omega) (by omega)
      have hfb := modV_bound v (3 - 1)
      obtain ⟨tries, htr⟩ : ∃ t : Nat, 1 + modV v (3 - 1) = t := ⟨(1 + modV v (3 - 1)).toNat, by omega⟩
      rw [htr] at hfr
      conv => whnf
      repeat' first | ((with_reducible apply XBr.dec) <;> (intro h; first | (exfalso; omega) | ((try simp only [List.length_map] at h); first | (exfalso; omega) | (conv => whnf)))) | ((first | (refine XCall.dup hdu ?_) | (refine XCall.hp (j := 2) hfr rfl rfl ?_) | (refine XCall.ret awake04_c ?_)); conv => whnf) | fail
      · refine Walk.loopK tab_ok [] [(7, _), (10, _), (11, _), (12, _), (19, _), (22, _), (146, _), (151, _)] ⟨rfl, rfl, rfl, rfl, rfl, rfl, rfl, rfl, trivial⟩ (fun q : Nat × List Int × Hp => q.1 ≤ tries ∧ q.2.1.length = b.months.length ∧ (∀ x ∈ q.2.1, 0 ≤ x ∧ x ≤ b.room) ∧ q.2.2.Ok) (fun q => [(152, natA q.1)]) (fun q => [hpC u1, .cells (bedC b), hpC q.2.2, .grow 3 false Z, .grow 3 false (ints q.2.1)]) (fun q => tries - q.1) (0, pl, hpS v) ⟨by dsimp only; omega, hpl, hpr, hpS_ok vo⟩ rfl ⟨rfl, trivial⟩ ?_
        rintro ⟨c, own, w⟩ ⟨hc, ol, ob, wo⟩
        dsimp only at hc ol ob wo ⊢
        have ol2 : (ints own).length = pl.length := by rw [ints_len]; omega
        conv => whnf
        by_cases hlt : c < tries
        · have hup := upto_c w ((pl.length : Int) - 1) wo (by omega) (by omega)
          have hub := modV_bound w ((pl.length : Int) - 1)
          obtain ⟨j, hj⟩ : ∃ j : Nat, modV w ((pl.length : Int) - 1) = j := ⟨(modV w ((pl.length : Int) - 1)).toNat, by omega⟩
          rw [hj] at hup hub
          have hgj := ob _ (getD_mem (d := default) (show j < own.length by omega))
          have wo1 := hpS_ok wo
          have hfr2 := from_c (hpS w) (-4) 4 wo1 (by omega) (by omega) (by omega) (by omega)
          have hfb2 := modV_bound (hpS w) (4 - -4)
          generalize hdv : -4 + modV (hpS w) (4 - -4) = dv at hfr2
          have ho1 : ∀ x ∈ own.set j (min b.room (max 0 (own.getD j default + dv))), 0 ≤ x ∧ x ≤ b.room := set_all ob (by omega)
          repeat' first | ((with_reducible apply XBr.dec) <;> (intro h; first | (exfalso; omega) | ((try simp only [List.length_map] at h); first | (exfalso; omega) | (conv => whnf)))) | ((with_reducible refine XInt.i64 (by omega) (by omega) ?_); conv => whnf) | ((with_reducible refine XHold.mk ?_ ?_); (first | omega | rfl | decide | exact ⟨rfl, by decide, rfl⟩ | exact wideI _ | exact widePr _ | exact wideSk _ | (unfold Room; constructor <;> ((try simp) <;> omega)) | exact ⟨rfl, by simp only [List.length_map], by unfold Room; constructor <;> ((try simp) <;> omega)⟩ | exact ⟨by omega, by omega, by unfold Room; constructor <;> ((try simp) <;> omega)⟩); conv => whnf) | (with_reducible apply XAnd.mk) | ((first | (with_reducible apply Chk.go) | (with_reducible apply ChkA.go) | (with_reducible apply ChkF.go) | (with_reducible apply ChkB.go)); conv => whnf) | (exact XSame.mk rfl rfl) | (with_reducible exact trivial) | (apply Walk.drawN (id := 26) tab_ok mixed_ok [] [9, 14] (hsC [_, _, _]) [_, _, _, _, _, _, _, _, _, _, _, _, _, _, _] (by kernel_rfl) rfl) | ((first | (with_reducible apply XNext.mk) | (refine XCall.hp (j := 2) hup rfl rfl ?_) | (refine XCall.hp (j := 2) hfr2 rfl rfl ?_) | ((refine XHold.mk ⟨ol2, rfl, by omega, by omega⟩ ?_); (rw [Int.toNat_natCast])) | (refine XGet.map (f := AV.int .i64) (xs := own) (by omega) (by omega) ?_) | (refine XPut.intsL j (by omega) (by omega) (by omega) ?_)); conv => whnf) | fail
          exact XAgain.go (c + 1, own.set j (min b.room (max 0 (own.getD j default + dv))), hpS (hpS w)) ⟨by dsimp only; omega, by dsimp only; rw [List.length_set]; exact ol, ho1, hpS_ok wo1⟩ (by dsimp only; omega) rfl ⟨rfl, rfl, rfl, rfl, rfl, rfl, rfl, rfl, rfl, trivial⟩
        · obtain rfl : c = tries := by omega
          repeat' first | ((with_reducible apply XBr.dec) <;> (intro h; first | (exfalso; omega) | ((try simp only [List.length_map] at h); first | (exfalso; omega) | (conv => whnf)))) | fail
          have hoE : planE b own = 0 := planE_iff.2 ⟨ok, ol, ob⟩
          have hko := keeps_c b false own left (by omega) (by have := ok.s1; omega) (by omega)
          have hko' : keepsA b own left = .tup [.bool (keepB b own left), .int .i64 0] := by
            unfold keepsA
            rw [if_neg (fun h => h hoE), if_neg (by rw [inZ_iff.2 hsh]; simp)]
          rw [hko'] at hko
          have hio := keepB_iff ol (fun x hx => (ob x hx).1) hsh.1
          have hend : keepB b own left = decide (left ≤ endR (withPlan b own)) := rfl
          generalize keepB b own left = r at hko hio hend
          refine XCall.lend hko (.cons (.low (bedL b)) (.cons (Froz.grow rfl ol2 (lowI _)) (.cons (.low rfl) .nil))) rfl ?_
          conv => whnf
          repeat' first | ((with_reducible apply XBr.bne) <;> (intro h; first | (exfalso; omega) | (conv => whnf))) | ((with_reducible refine XHold.mk ?_ ?_); (first | omega | rfl | decide | exact ⟨rfl, by decide, rfl⟩ | exact wideI _ | exact widePr _ | exact wideSk _ | (unfold Room; constructor <;> ((try simp) <;> omega)) | exact ⟨rfl, by simp only [List.length_map], by unfold Room; constructor <;> ((try simp) <;> omega)⟩ | exact ⟨by omega, by omega, by unfold Room; constructor <;> ((try simp) <;> omega)⟩); conv => whnf) | fail
          clear h
          have hol : ((pl.length : Nat) : Int) = b.months.length := by omega
          refine Walk.loopK tab_ok [] [(7, _), (10, _), (11, _), (12, _), (19, _), (22, _), (24, _), (146, _), (183, _), (184, _)] ⟨rfl, rfl, rfl, rfl, rfl, rfl, rfl, rfl, rfl, rfl, trivial⟩ (fun q : Nat × Bool => q.1 ≤ b.months.length ∧ (q.2 = true ↔ ∀ i, i < q.1 → own.getD i default ≤ pl.getD i default)) (fun q => [(26, .int .i64 (own.take q.1).sum), (27, .bool q.2), (185, natA q.1)]) (fun q => [hpC u1, .cells (bedC b), hpC w, .grow 3 false Z, .grow 3 false (ints own)]) (fun q => b.months.length - q.1) (0, true) ⟨Nat.zero_le _, by simp⟩ rfl ⟨rfl, rfl, rfl, trivial⟩ ?_
          rintro ⟨m, lb⟩ ⟨hm, hlb⟩
          dsimp only at hm hlb ⊢
          have hsb := take_sum_b ob r2 m (by omega)
          conv => whnf
          by_cases hlt2 : m < b.months.length
          · have hts := take_sum (xs := own) (m := m) (by omega)
            have hsb2 := take_sum_b ob r2 (m + 1) (by omega)
            have hgm := ob _ (getD_mem (d := default) (show m < own.length by omega))
            generalize (own.take m).sum = sm at hsb hts
            have hnx : ∀ i, i < m + 1 → i < m ∨ i = m := fun i hi => by omega
            cases lb
            · skip
              repeat' first | ((with_reducible apply XBr.ff); conv => whnf) | ((with_reducible apply XBr.dec) <;> (intro h; first | (exfalso; omega) | ((try simp only [List.length_map] at h); first | (exfalso; omega) | (conv => whnf)))) | ((first | (with_reducible refine XInt.i64 (by omega) (by omega) ?_) | ((refine XHold.mk ⟨ol2, rfl, by omega, by omega⟩ ?_); (rw [Int.toNat_natCast])) | (refine XGet.map (f := AV.int .i64) (xs := own) (by omega) (by omega) ?_)); conv => whnf) | fail
              refine XAgain.go (m + 1, false) ⟨by dsimp only; omega, ?_⟩ (by dsimp only; omega) rfl ⟨rfl, rfl, rfl, rfl, rfl, rfl, rfl, rfl, rfl, rfl, by rw [hts]; rfl, rfl, rfl, trivial⟩
              exact ⟨fun h => (by cases h), fun h => hlb.2 fun i hi => h i (by dsimp only; omega)⟩
            · skip
              repeat' first | ((with_reducible apply XBr.tt); conv => whnf) | ((with_reducible apply XBr.dec) <;> (intro h; first | (exfalso; omega) | ((try simp only [List.length_map] at h); first | (exfalso; omega) | (conv => whnf)))) | ((first | (with_reducible refine XInt.i64 (by omega) (by omega) ?_) | ((with_reducible refine XIx.nat ?_ ?_ ?_); omega; (intro _; rfl)) | ((refine XHold.mk ⟨ol2, rfl, by omega, by omega⟩ ?_); (rw [Int.toNat_natCast])) | (refine XGet.map (f := AV.int .i64) (xs := own) (by omega) (by omega) ?_)); conv => whnf) | fail
              refine XAgain.go (m + 1, decide (own.getD m default ≤ pl.getD m default)) ⟨by dsimp only; omega, ?_⟩ (by dsimp only; omega) rfl ⟨rfl, rfl, rfl, rfl, rfl, rfl, rfl, rfl, rfl, rfl, by rw [hts]; rfl, rfl, rfl, trivial⟩
              dsimp only
              rw [decide_eq_true_iff]
              exact ⟨fun h i hi => by rcases hnx i hi with h1 | rfl; exact hlb.1 rfl i h1; exact h, fun h => h m (by omega)⟩
          · obtain rfl : m = b.months.length := by omega
            have hta : own.take b.months.length = own := List.take_of_length_le (by omega)
            rw [hta]
            rw [hta] at hsb
            repeat' first | ((with_reducible apply XBr.dec) <;> (intro h; first | (exfalso; omega) | ((try simp only [List.length_map] at h); first | (exfalso; omega) | (conv => whnf)))) | fail
            clear h
            have hcm := compare_c false pl.isEmpty own pl (by omega) (by omega)
            have hle : r = true → own.sum ≤ pl.sum ∧ (own.sum = pl.sum → 0 ≤ cmpL own pl) := fun h => (hbest own (hio.1 h)).2
            have hlf : r = false → lb = false := fun h => by
              cases lb with
              | false => rfl
              | true =>
                have := hio.2 (okP_mono ok.toBedOk (Nat.le_refl _) hk1 (Nat.le_refl _) (leL_of (by omega) (fun y hy => (ob y hy).1) fun i hi => hlb.1 rfl i (by omega)))
                rw [h] at this; cases this
            have hwo := worst_all_c b false own (by omega) (by have := ok.s1; omega) (by omega)
            have hwo' : worstA b own = if endR (withPlan b own) < 0 then .tup [.sl true [], .int .i64 0, .int .i64 9] else .tup [.sl (worstL b).isEmpty (chsA (worstL b)), .int .i64 (endR (withPlan b own)), .int .i64 0] := by
              unfold worstA
              rw [if_neg (fun h => h hoE)]
            rw [hwo'] at hwo
            have hwl : ((chsA (worstL b)).length : Int) = (ints own).length := by rw [List.length_map]; unfold worstL; rw [List.length_map]; omega
            generalize endR (withPlan b own) = en at hend hwo
            cases r with
            | false =>
              obtain rfl := hlf rfl
              clear hlf hle hlb hbest hio
              have hen : en < left := by rcases Int.lt_or_le en left with h | h; exact h; rw [decide_eq_true h] at hend; cases hend
              by_cases hn : en < 0
              · rw [if_pos hn] at hwo
                refine Walk.keep tab_ok [] [hpC u1, .cells (bedC b), hpC w, .grow 3 false Z] [.grow 3 false (ints own)] [(7, _), (10, _), (11, _), (12, _), (19, _), (22, .sl false (ints own)), (24, _), (26, _), (27, _), (146, _)] rfl ?_ ⟨⟨_, rfl, .same (by first | rfl | (simp only [AV.low]; exact lowI _))⟩, ⟨_, rfl, .same (by first | rfl | (simp only [AV.low]; exact lowI _))⟩, ⟨_, rfl, .same (by first | rfl | (simp only [AV.low]; exact lowI _))⟩, ⟨_, rfl, .same (by first | rfl | (simp only [AV.low]; exact lowI _))⟩, ⟨_, rfl, .same (by first | rfl | (simp only [AV.low]; exact lowI _))⟩, ⟨_, rfl, .gr (show (4 : Nat) ≤ 4 from Nat.le_refl 4) rfl ol2 (lowI _)⟩, ⟨_, rfl, .same (by first | rfl | (simp only [AV.low]; exact lowI _))⟩, ⟨_, rfl, .same (by first | rfl | (simp only [AV.low]; exact lowI _))⟩, ⟨_, rfl, .same (by first | rfl | (simp only [AV.low]; exact lowI _))⟩, ⟨_, rfl, .same (by first | rfl | (simp only [AV.low]; exact lowI _))⟩, trivial⟩ rfl ?_
                · intro z hz
                  simp only [List.mem_cons, List.not_mem_nil, or_false] at hz
                  rcases hz with rfl | rfl | rfl | rfl <;> first | exact hpC_low _ | exact lowBd b | exact hZl _
                conv => whnf
                refine Walk.norm tab_ok [] [(7, _), (10, _), (11, _), (12, _), (19, _), (22, _), (24, _), (26, _), (27, _), (146, _)] ⟨rfl, rfl, rfl, rfl, rfl, rfl, rfl, rfl, rfl, rfl, trivial⟩ ?_
                conv => whnf
                repeat' first | ((first | (with_reducible apply XBr.ff) | (refine XCall.ret hwo ?_)); conv => whnf) | fail
                · skip
                  refine Walk.norm tab_ok [] [(7, _), (10, _), (11, _), (12, _), (19, _), (22, _), (24, _), (25, _), (30, _), (31, _), (146, _)] ⟨rfl, rfl, rfl, rfl, rfl, rfl, rfl, rfl, rfl, rfl, rfl, trivial⟩ ?_
                  conv => whnf
                  repeat' first | ((first | (with_reducible apply XBr.tt) | (with_reducible apply XBr.ff)); conv => whnf) | ((with_reducible apply XBr.beq) <;> (intro h; first | (exfalso; omega) | (conv => whnf))) | ((with_reducible apply XBr.bne) <;> (intro h; first | (exfalso; omega) | (conv => whnf))) | ((with_reducible refine XInt.i64 (by omega) (by omega) ?_); conv => whnf) | fail
                  all_goals first | exact XAgainG.go (i + 1, w) [.grow 3 false (ints own)] ⟨by dsimp only; omega, wo⟩ (by dsimp only; omega) rfl ⟨rfl, rfl, rfl, rfl, rfl, rfl, trivial⟩ | exact XAgainG.go (i + 1, w) [.dead] ⟨by dsimp only; omega, wo⟩ (by dsimp only; omega) rfl ⟨rfl, rfl, rfl, rfl, rfl, rfl, trivial⟩ | (exfalso; omega) | (exfalso; simp at h; done) | (exfalso; rw [← hend] at h; simp at h; done)
              · rw [if_neg hn] at hwo
                refine Walk.keep tab_ok [] [hpC u1, .cells (bedC b), hpC w, .grow 3 false Z] [.grow 3 false (ints own)] [(7, _), (10, _), (11, _), (12, _), (19, _), (22, .sl false (ints own)), (24, _), (26, _), (27, _), (146, _)] rfl ?_ ⟨⟨_, rfl, .same (by first | rfl | (simp only [AV.low]; exact lowI _))⟩, ⟨_, rfl, .same (by first | rfl | (simp only [AV.low]; exact lowI _))⟩, ⟨_, rfl, .same (by first | rfl | (simp only [AV.low]; exact lowI _))⟩, ⟨_, rfl, .same (by first | rfl | (simp only [AV.low]; exact lowI _))⟩, ⟨_, rfl, .same (by first | rfl | (simp only [AV.low]; exact lowI _))⟩, ⟨_, rfl, .gr (show (4 : Nat) ≤ 4 from Nat.le_refl 4) rfl ol2 (lowI _)⟩, ⟨_, rfl, .same (by first | rfl | (simp only [AV.low]; exact lowI _))⟩, ⟨_, rfl, .same (by first | rfl | (simp only [AV.low]; exact lowI _))⟩, ⟨_, rfl, .same (by first | rfl | (simp only [AV.low]; exact lowI _))⟩, ⟨_, rfl, .same (by first | rfl | (simp only [AV.low]; exact lowI _))⟩, trivial⟩ rfl ?_
                · intro z hz
                  simp only [List.mem_cons, List.not_mem_nil, or_false] at hz
                  rcases hz with rfl | rfl | rfl | rfl <;> first | exact hpC_low _ | exact lowBd b | exact hZl _
                conv => whnf
                refine Walk.norm tab_ok [] [(7, _), (10, _), (11, _), (12, _), (19, _), (22, _), (24, _), (26, _), (27, _), (146, _)] ⟨rfl, rfl, rfl, rfl, rfl, rfl, rfl, rfl, rfl, rfl, trivial⟩ ?_
                conv => whnf
                repeat' first | ((first | (with_reducible apply XBr.ff) | (refine XCall.ret hwo ?_)); conv => whnf) | fail
                · skip
                  refine Walk.norm tab_ok [] [(7, _), (10, _), (11, _), (12, _), (19, _), (22, _), (24, _), (25, _), (30, _), (31, _), (146, _)] ⟨rfl, rfl, rfl, rfl, rfl, rfl, rfl, rfl, rfl, rfl, rfl, trivial⟩ ?_
                  conv => whnf
                  repeat' first | ((first | (with_reducible apply XBr.tt) | (with_reducible apply XBr.ff)); conv => whnf) | ((with_reducible apply XBr.beq) <;> (intro h; first | (exfalso; omega) | (conv => whnf))) | ((with_reducible apply XBr.bne) <;> (intro h; first | (exfalso; omega) | (conv => whnf))) | ((with_reducible refine XInt.i64 (by omega) (by omega) ?_); conv => whnf) | ((with_reducible apply XBr.mk') <;> (intro h; conv => whnf)) | fail
                  all_goals first | exact XAgainG.go (i + 1, w) [.grow 3 false (ints own)] ⟨by dsimp only; omega, wo⟩ (by dsimp only; omega) rfl ⟨rfl, rfl, rfl, rfl, rfl, rfl, trivial⟩ | exact XAgainG.go (i + 1, w) [.dead] ⟨by dsimp only; omega, wo⟩ (by dsimp only; omega) rfl ⟨rfl, rfl, rfl, rfl, rfl, rfl, trivial⟩ | (exfalso; omega) | (exfalso; simp at h; done) | (exfalso; rw [← hend] at h; simp at h; done)
            | true =>
              obtain ⟨hs1, hs2⟩ := hle rfl
              clear hlf hle hlb hbest hio
              have hen : left ≤ en := of_decide_eq_true hend.symm
              rw [if_neg (by omega)] at hwo
              refine Walk.keep tab_ok [] [hpC u1, .cells (bedC b), hpC w, .grow 3 false Z] [.grow 3 false (ints own)] [(7, _), (10, _), (11, _), (12, _), (19, _), (22, .sl false (ints own)), (24, _), (26, _), (27, _), (146, _)] rfl ?_ ⟨⟨_, rfl, .same (by first | rfl | (simp only [AV.low]; exact lowI _))⟩, ⟨_, rfl, .same (by first | rfl | (simp only [AV.low]; exact lowI _))⟩, ⟨_, rfl, .same (by first | rfl | (simp only [AV.low]; exact lowI _))⟩, ⟨_, rfl, .same (by first | rfl | (simp only [AV.low]; exact lowI _))⟩, ⟨_, rfl, .same (by first | rfl | (simp only [AV.low]; exact lowI _))⟩, ⟨_, rfl, .gr (show (4 : Nat) ≤ 4 from Nat.le_refl 4) rfl ol2 (lowI _)⟩, ⟨_, rfl, .same (by first | rfl | (simp only [AV.low]; exact lowI _))⟩, ⟨_, rfl, .same (by first | rfl | (simp only [AV.low]; exact lowI _))⟩, ⟨_, rfl, .same (by first | rfl | (simp only [AV.low]; exact lowI _))⟩, ⟨_, rfl, .same (by first | rfl | (simp only [AV.low]; exact lowI _))⟩, trivial⟩ rfl ?_
              · intro z hz
                simp only [List.mem_cons, List.not_mem_nil, or_false] at hz
                rcases hz with rfl | rfl | rfl | rfl <;> first | exact hpC_low _ | exact lowBd b | exact hZl _
              conv => whnf
              refine Walk.norm tab_ok [] [(7, _), (10, _), (11, _), (12, _), (19, _), (22, _), (24, _), (26, _), (27, _), (146, _)] ⟨rfl, rfl, rfl, rfl, rfl, rfl, rfl, rfl, rfl, rfl, trivial⟩ ?_
              conv => whnf
              repeat' first | ((first | (with_reducible apply XBr.tt) | (with_reducible apply XBr.ff)); conv => whnf) | (with_reducible apply XBr.not) | ((with_reducible apply XBr.dec) <;> (intro h; first | (exfalso; omega) | ((try simp only [List.length_map] at h); first | (exfalso; omega) | (conv => whnf)))) | ((with_reducible apply XBr.beq) <;> (intro h; first | (exfalso; omega) | (conv => whnf))) | ((first | (refine XCall.ret hcm ?_) | (refine XCall.ret hwo ?_)); conv => whnf) | ((with_reducible apply XBr.mk') <;> (intro h; conv => whnf)) | fail
              · skip
                refine Walk.norm tab_ok [] [(7, _), (10, _), (11, _), (12, _), (19, _), (22, _), (24, _), (25, _), (30, _), (31, _), (146, _)] ⟨rfl, rfl, rfl, rfl, rfl, rfl, rfl, rfl, rfl, rfl, rfl, trivial⟩ ?_
                conv => whnf
                repeat' first | ((first | (with_reducible apply XBr.tt) | (with_reducible apply XBr.ff)); conv => whnf) | ((with_reducible apply XBr.dec) <;> (intro h; first | (exfalso; omega) | ((try simp only [List.length_map] at h); first | (exfalso; omega) | (conv => whnf)))) | ((with_reducible apply XBr.beq) <;> (intro h; first | (exfalso; omega) | (conv => whnf))) | ((with_reducible apply XBr.bne) <;> (intro h; first | (exfalso; omega) | (conv => whnf))) | ((with_reducible refine XInt.i64 (by omega) (by omega) ?_); conv => whnf) | ((with_reducible apply XBr.mk') <;> (intro h; conv => whnf)) | fail
                all_goals first | exact XAgainG.go (i + 1, w) [.grow 3 false (ints own)] ⟨by dsimp only; omega, wo⟩ (by dsimp only; omega) rfl ⟨rfl, rfl, rfl, rfl, rfl, rfl, trivial⟩ | exact XAgainG.go (i + 1, w) [.dead] ⟨by dsimp only; omega, wo⟩ (by dsimp only; omega) rfl ⟨rfl, rfl, rfl, rfl, rfl, rfl, trivial⟩ | (exfalso; omega) | (exfalso; simp at h; done) | (exfalso; rw [← hend] at h; simp at h; done)
              · skip
                refine Walk.norm tab_ok [] [(7, _), (10, _), (11, _), (12, _), (19, _), (22, _), (24, _), (25, _), (30, _), (31, _), (146, _)] ⟨rfl, rfl, rfl, rfl, rfl, rfl, rfl, rfl, rfl, rfl, rfl, trivial⟩ ?_
                conv => whnf
                repeat' first | ((first | (with_reducible apply XBr.tt) | (with_reducible apply XBr.ff)); conv => whnf) | ((with_reducible apply XBr.dec) <;> (intro h; first | (exfalso; omega) | ((try simp only [List.length_map] at h); first | (exfalso; omega) | (conv => whnf)))) | ((with_reducible apply XBr.beq) <;> (intro h; first | (exfalso; omega) | (conv => whnf))) | ((with_reducible apply XBr.bne) <;> (intro h; first | (exfalso; omega) | (conv => whnf))) | ((with_reducible refine XInt.i64 (by omega) (by omega) ?_); conv => whnf) | ((with_reducible apply XBr.mk') <;> (intro h; conv => whnf)) | fail
                all_goals first | exact XAgainG.go (i + 1, w) [.grow 3 false (ints own)] ⟨by dsimp only; omega, wo⟩ (by dsimp only; omega) rfl ⟨rfl, rfl, rfl, rfl, rfl, rfl, trivial⟩ | exact XAgainG.go (i + 1, w) [.dead] ⟨by dsimp only; omega, wo⟩ (by dsimp only; omega) rfl ⟨rfl, rfl, rfl, rfl, rfl, rfl, trivial⟩ | (exfalso; omega) | (exfalso; simp at h; done) | (exfalso; rw [← hend] at h; simp at h; done)
              · skip
                refine Walk.norm tab_ok [] [(7, _), (10, _), (11, _), (12, _), (19, _), (22, _), (24, _), (25, _), (30, _), (31, _), (146, _)] ⟨rfl, rfl, rfl, rfl, rfl, rfl, rfl, rfl, rfl, rfl, rfl, trivial⟩ ?_
                conv => whnf
                repeat' first | ((first | (with_reducible apply XBr.tt) | (with_reducible apply XBr.ff)); conv => whnf) | ((with_reducible apply XBr.dec) <;> (intro h; first | (exfalso; omega) | ((try simp only [List.length_map] at h); first | (exfalso; omega) | (conv => whnf)))) | ((with_reducible apply XBr.beq) <;> (intro h; first | (exfalso; omega) | (conv => whnf))) | ((with_reducible apply XBr.bne) <;> (intro h; first | (exfalso; omega) | (conv => whnf))) | ((with_reducible refine XInt.i64 (by omega) (by omega) ?_); conv => whnf) | ((with_reducible apply XBr.mk') <;> (intro h; conv => whnf)) | fail
                all_goals first | exact XAgainG.go (i + 1, w) [.grow 3 false (ints own)] ⟨by dsimp only; omega, wo⟩ (by dsimp only; omega) rfl ⟨rfl, rfl, rfl, rfl, rfl, rfl, trivial⟩ | exact XAgainG.go (i + 1, w) [.dead] ⟨by dsimp only; omega, wo⟩ (by dsimp only; omega) rfl ⟨rfl, rfl, rfl, rfl, rfl, rfl, trivial⟩ | (exfalso; omega) | (exfalso; simp at h; done) | (exfalso; rw [← hend] at h; simp at h; done)
              · skip
                refine Walk.norm tab_ok [] [(7, _), (10, _), (11, _), (12, _), (19, _), (22, _), (24, _), (25, _), (30, _), (31, _), (146, _)] ⟨rfl, rfl, rfl, rfl, rfl, rfl, rfl, rfl, rfl, rfl, rfl, trivial⟩ ?_
                conv => whnf
                repeat' first | ((first | (with_reducible apply XBr.tt) | (with_reducible apply XBr.ff)); conv => whnf) | ((with_reducible apply XBr.dec) <;> (intro h; first | (exfalso; omega) | ((try simp only [List.length_map] at h); first | (exfalso; omega) | (conv => whnf)))) | ((with_reducible apply XBr.beq) <;> (intro h; first | (exfalso; omega) | (conv => whnf))) | ((with_reducible apply XBr.bne) <;> (intro h; first | (exfalso; omega) | (conv => whnf))) | ((with_reducible refine XInt.i64 (by omega) (by omega) ?_); conv => whnf) | ((with_reducible apply XBr.mk') <;> (intro h; conv => whnf)) | fail
                all_goals first | exact XAgainG.go (i + 1, w) [.grow 3 false (ints own)] ⟨by dsimp only; omega, wo⟩ (by dsimp only; omega) rfl ⟨rfl, rfl, rfl, rfl, rfl, rfl, trivial⟩ | exact XAgainG.go (i + 1, w) [.dead] ⟨by dsimp only; omega, wo⟩ (by dsimp only; omega) rfl ⟨rfl, rfl, rfl, rfl, rfl, rfl, trivial⟩ | (exfalso; omega) | (exfalso; simp at h; done) | (exfalso; rw [← hend] at h; simp at h; done)
      · exact ⟨.low rfl⟩
end GA
end
