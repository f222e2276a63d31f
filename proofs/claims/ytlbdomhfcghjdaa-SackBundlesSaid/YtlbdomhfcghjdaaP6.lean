/- Part 6 of a proof: S77. -/
import Derived.Test.YtlbdomhfcghjdaaP5
section
namespace GA
open Go Go.RowKit Go.Proofs
set_option pp.deepTerms true
set_option maxRecDepth 8000
set_option linter.unusedVariables false
set_option linter.unusedSimpArgs false

theorem bundles1_c (nl : Bool) (xs : List Int) (p : Int × Int) (h1 : 0 ≤ p.1) (h2 : p.1 < xs.length) (h3 : 0 ≤ p.2) (h4 : p.2 < xs.length) :
    Comp Try.prog 72 [prA p, .pim [.sl nl (ints xs)]] (.bool (xs.getD p.1.toNat default != xs.getD p.2.toNat default)) := by
  refine Comp.body (T := tab) (res := [.tmp 3]) tab_ok [] Try.func72 rfl (by kernel_rfl) Try.ntmps72 rfl (by simp only [List.length_cons, List.length_nil]; decide) (by simp only [lowL, AV.low, prL, lowI]; rfl) ?_; conv => whnf
  apply Walk.drawX tab_ok mixed_ok [] [] (hsK _) [_, _, _, _, _, _, _, _, _, _, .bool (xs.getD p.1.toNat default != xs.getD p.2.toNat default), _] (by kernel_rfl) rfl
  · skip
    repeat' first | (((with_reducible refine XIx.map ?_ ?_ ?_ ?_); omega; omega; (intro _; rfl)); conv => whnf) | (with_reducible apply XAnd.mk) | ((first | (with_reducible apply Chk.go) | (with_reducible apply ChkA.go)); conv => whnf) | (exact XSame.mk rfl rfl) | (with_reducible exact trivial) | ((first | (with_reducible apply XArr.pim0) | (with_reducible apply XArr.pim1)); conv => whnf) | fail
  · skip
    repeat' first | (with_reducible apply XAnd.mk) | ((first | (with_reducible apply ChkF.go) | (with_reducible apply ChkB.go)); conv => whnf) | (with_reducible exact trivial) | fail
  conv => whnf
  skip
  all_goals exact XOut.bool rfl
theorem inS_next {n : Int} {a b : List Int} {j : Nat} (h : j < b.length) : inS n a (b.take (j + 1)) = (inS n a (b.take j)).set (b.getD j default).toNat n := by
  unfold inS; rw [take_next h, List.foldl_append]; rfl
theorem onS_next {o : List Bool} {b : List Int} {j : Nat} (h : j < b.length) : onS o (b.take (j + 1)) = (onS o (b.take j)).set (b.getD j default).toNat true := by
  unfold onS; rw [take_next h, List.foldl_append]; rfl
set_option maxHeartbeats 2000000 in
theorem sackBundles_c (n1 n2 : Bool) (xs ys : List Int) (hx : xs.length < 9223372036854775808) (hy : ys.length < 9223372036854775808) :
    Comp Try.prog 14 [.sl n1 (bytes xs), .sl n2 (bytes ys)] (.bool true) := by
  have mo := made_c (hp0 n1 xs) 9 8 (hp0_ok hx) (by omega) (by omega) (by omega) (by omega)
  have lo := madeL_ok (hp0 n1 xs) 9 8 (by omega) (by omega) (by omega) (by omega) (hp0_ok hx)
  have lw : LdW (madeL (hp0 n1 xs) 9 8) := ldW lo (fun h => by simpa [madeL] using h)
  generalize madeL (hp0 n1 xs) 9 8 = l at mo lo lw
  generalize madeH (hp0 n1 xs) 9 8 = u1 at mo
  have hn := lo.n
  have hnw := lo.nw
  have h0 := (checkR_ok l).2 lo
  have hbu := bundles_c l lw
  have hst := stuck_c l lw
  have e1 : ((l.sacks.map skA).length : Int) = l.sacks.length := by rw [List.length_map]
  unfold bundlesA at hbu
  unfold stuckA at hst
  rw [if_pos h0, show bunK l l.sacks.length = bunL l from bunK_eq l _] at hbu
  rw [if_pos h0, show stuK l l.sacks.length = stuL l from stuK_eq l _] at hst
  have hBl := bunL_len l
  have hK := fsL_len l
  have hBg := fun m (h : m < (fsL l).length) => bunL_get h
  have hbf := fun m (h : m < (fsL l).length) => bunFact lo (fsI_mem h)
  have hbe : ∀ m, m < (fsL l).length → BunFact l (fsI l m) ((bunL l).getD m default) := fun m h => by rw [hBg m h]; exact hbf m h
  have hfi := fun m m' (h : m < m') (h' : m' < (fsL l).length) => fsI_lt h h'
  have hcS := fun m (h : m < (fsL l).length) => stuck_has (fsI_mem h)
  have hmn : ∀ n, n < (fsL l).length → metK l (n + 1) = metK l n + ((bunL l).getD n default).length := fun n h => by rw [hBg n h]; exact metK_next h
  clear hbf hBg
  have hsl : (stuL l).length ≤ 100000 := by
    rw [← wrK_all]; unfold wrK
    have := List.length_filter_le (fun f => !rightB (openD l) (ndS l f)) ((fsL l).take (fsL l).length)
    rw [List.length_take] at this; omega
  have hct := fun v => contains_c (stuL l).isEmpty (stuL l) v hsl
  have hwa := wrK_all (l := l)
  have hma := metK_all lo
  have hwn := fun n (h : n < (fsL l).length) => wrK_next h
  have hiw := fun p (h : p ∈ l.wth) => in_with lo h
  have his := fun i k (hi : i < l.sacks.length) (hk : k < l.sacks.length) e => in_same lo (i := i) (k := k) hi hk e
  have hil := inK_len (bunL l) l.sacks.length
  have hi0 : inK (bunL l) l.sacks.length 0 = List.replicate l.sacks.length 0 := rfl
  have hin : ∀ n, inK (bunL l) l.sacks.length (n + 1) = inS n (inK (bunL l) l.sacks.length n) ((bunL l).getD n default) := fun n => rfl
  generalize stuL l = S at hst hsl hct hcS hwa
  generalize bunL l = B at hbu hBl hbe hmn hiw his hil hi0 hin
  generalize hfsK : (fsL l).length = K at *
  have hmb : ∀ n, n ≤ K → metK l n ≤ 62 * n := by
    intro n
    induction n with
    | zero => intro _; exact Nat.le_refl _
    | succ n ih => intro h; have := hmn n (by omega); have := (hbe n (by omega)).le; have := ih (by omega); omega
  have hwb : ∀ n, n ≤ K → wrK l n ≤ n := by
    intro n
    induction n with
    | zero => intro _; exact Nat.le_refl _
    | succ n ih => intro h; have h1 := hwn n (by omega); have h2 := ih (by omega); split at h1 <;> omega
  refine Comp.body' (T := tab) (res := [.tmp 4]) tab_ok [] Try.func14 rfl (by kernel_rfl) Try.ntmps14 rfl (by simp only [List.length_cons, List.length_nil]; decide) (by simp only [lowL, AV.low, lowBy]; rfl) ?_; conv => whnf
  repeat' first | ((with_reducible apply XBr.ff); conv => whnf) | ((with_reducible apply XBr.bne) <;> (intro h; first | (exfalso; omega) | (conv => whnf))) | ((with_reducible refine XHold.mk ?_ ?_); (first | omega | rfl | decide | exact ⟨rfl, by decide, rfl⟩ | exact wideI _ | exact widePr _ | exact wideSk _ | (unfold Room; constructor <;> ((try simp) <;> omega)) | exact ⟨rfl, by simp only [List.length_map], by unfold Room; constructor <;> ((try simp) <;> omega)⟩ | exact ⟨by omega, by omega, by unfold Room; constructor <;> ((try simp) <;> omega)⟩); conv => whnf) | (refine XCall.inl (T := tab) (res := [.tmp 2]) tab_ok [5] Try.func17 rfl (by kernel_rfl) Try.ntmps17 rfl (by simp only [List.length_append, List.length_cons, List.length_nil]; decide) ?_; conv => whnf) | ((first | (refine XCall.hp (j := 0) mo (ldL l) rfl ?_) | (refine XCall.ret hbu ?_) | (refine XCall.ret hst ?_)); conv => whnf) | fail
  refine Walk.loopG tab_ok [] (fun n : Nat => n ≤ K) (fun n => [(5, .ptr 1 0), (6, .ptr 2 0), (7, .sl B.isEmpty (rowsA B)), (9, slA S), (11, .ptr 4 0), (12, natA (metK l n)), (13, natA (wrK l n)), (54, .sl B.isEmpty (rowsA B)), (55, natA K), (56, natA n)])
    (fun n => [hpC u1, .cells (ldC l), hpC (hp0 n2 ys), .grow 3 false (ints (inK B l.sacks.length n)), .cells [.gr 3 l.sacks.length]]) (fun n => K - n) 0 (Nat.zero_le _) ?_ ⟨rfl, rfl, rfl, rfl, rfl, rfl, rfl, rfl, ?_, rfl, trivial⟩ ?_ ?_ ?_
  · rw [hi0]
    show _ = [hpC u1, Blk.cells (ldC l), hpC (hp0 n2 ys), Blk.grow 3 false (List.replicate ((l.sacks.map skA).length : Int).toNat (AV.int IntKind.i64 0)), Blk.cells [AV.gr 3 ((l.sacks.map skA).length : Int).toNat]]
    rw [e1]
    simp [ints]
  · exact congrArg (fun n => some (AV.int .i64 n)) (by rw [List.length_map, hBl])
  · intro n hnK
    refine ⟨fun x hx => ?_, fun p hp => ?_⟩
    · simp only [List.mem_cons, List.not_mem_nil, or_false] at hx
      rcases hx with rfl | rfl | rfl | rfl | rfl
      · exact hpC_low _
      · exact lowLd l
      · exact hpC_low _
      · exact lowI _
      · rfl
    · simp only [List.mem_cons, List.not_mem_nil, or_false] at hp
      rcases hp with rfl | rfl | rfl | rfl | rfl | rfl | rfl | rfl | rfl | rfl <;> first | rfl | exact lowRw _ | exact lowI _
  · intro n hnK; exact Nat.le_refl _
  intro n hnK
  conv => whnf
  repeat' first | ((with_reducible apply XBr.dec) <;> (intro h; first | (exfalso; omega) | ((try simp only [List.length_map] at h); first | (exfalso; omega) | (conv => whnf)))) | (((with_reducible refine XIx.nat ?_ ?_ ?_); omega; (intro _; rfl)); conv => whnf) | fail
  · have hb := hbe n (by omega)
    have hin' := hin n
    have hmn' := hmn n (by omega)
    have hbm := getD_mem (d := default) (show n < B.length by omega)
    have hpv : 0 < n → 0 < (B.getD ((n : Int) - 1).toNat default).length ∧ (B.getD ((n : Int) - 1).toNat default).getD 0 default = (fsI l (n - 1) : Int) ∧ fsI l (n - 1) < fsI l n := fun h => by
      rw [show ((n : Int) - 1).toNat = n - 1 by omega]
      exact ⟨(hbe (n - 1) (by omega)).pos, (hbe (n - 1) (by omega)).fst, hfi (n - 1) n (by omega) (by omega)⟩
    generalize B.getD n default = b at hb hin' hmn' hbm
    have hbp := hb.pos
    have hbl := hb.le
    have hso := sorted_c b.isEmpty b (by omega) hb.asc
    have hb0 : (((ints b).length : Int) == 0) = false := beq_eq_false_iff_ne.2 (by rw [List.length_map]; omega)
    apply lateG
    · intro rest
      by_cases hn0 : n = 0
      · have hn1 : decide ((0 : Int) < (n : Int)) = false := decide_eq_false (by omega)
        apply Walk.drawX tab_ok mixed_ok [] [] (hsK _) [_, _, .bool false, .bool false, _, .bool true, .bool false, .bool false, .bool false, _, .bool false, .bool false, _, _, _, _, _, _, _, _, _, _, _, .bool false, .bool false] (by kernel_rfl) rfl
        · skip
          repeat' first | ((with_reducible apply XBr.ff); conv => whnf) | (with_reducible apply XAnd.mk) | ((first | (with_reducible apply Chk.go) | (with_reducible apply ChkA.go)); conv => whnf) | (exact XSame.mk rfl rfl) | (with_reducible exact trivial) | ((refine XCall.ret hso ?_); conv => whnf) | (exact XSame.mk (congrArg AV.bool hb0) rfl) | (exact XSame.mk (congrArg AV.bool hn1) rfl) | fail
        · skip
          repeat' first | (with_reducible apply XAnd.mk) | ((first | (with_reducible apply ChkF.go) | (with_reducible apply ChkB.go)); conv => whnf) | (with_reducible exact trivial) | fail
        conv => whnf
        repeat' first | ((with_reducible apply XBr.ff); conv => whnf) | ((with_reducible refine XHold.mk ?_ ?_); (first | omega | rfl | decide | exact ⟨rfl, by decide, rfl⟩ | exact wideI _ | exact widePr _ | exact wideSk _ | (unfold Room; constructor <;> ((try simp) <;> omega)) | exact ⟨rfl, by simp only [List.length_map], by unfold Room; constructor <;> ((try simp) <;> omega)⟩ | exact ⟨by omega, by omega, by unfold Room; constructor <;> ((try simp) <;> omega)⟩); conv => whnf) | fail
        refine Walk.know [(5, .ptr 1 0), (6, .ptr 2 0), (7, .sl B.isEmpty (rowsA B)), (9, slA S), (11, .ptr 4 0), (12, natA (metK l n)), (13, natA (wrK l n)), (14, natA n), (15, slA b), (16, .gr 5 ((l.sacks.map skA).length : Int).toNat), (54, .sl B.isEmpty (rowsA B)), (55, natA K), (56, natA n), (90, slA b), (91, .int .i64 (ints b).length), (92, .int .i64 0)] ⟨rfl, rfl, rfl, rfl, rfl, rfl, rfl, rfl, rfl, rfl, rfl, rfl, rfl, rfl, rfl, rfl, trivial⟩ ?_
        exact rest.g
      · obtain ⟨hp0, hp1, hp2⟩ := hpv (by omega)
        have hn1 : decide ((0 : Int) < (n : Int)) = true := decide_eq_true (by omega)
        have hlt : decide (b.getD 0 default ≤ (B.getD ((n : Int) - 1).toNat default).getD 0 default) = false := by rw [hb.fst, hp1]; exact decide_eq_false (by omega)
        apply Walk.drawX tab_ok mixed_ok [] [] (hsK _) [_, _, .bool false, .bool false, _, .bool true, .bool false, .bool false, .bool false, _, .bool true, .bool true, _, _, _, _, _, _, _, _, _, _, .bool false, .bool false, .bool false] (by kernel_rfl) rfl
        · skip
          repeat' first | ((first | (with_reducible apply XBr.tt) | (with_reducible apply XBr.ff) | (with_reducible refine XInt.i64 (by omega) (by omega) ?_) | ((with_reducible refine XIx.map ?_ ?_ ?_ ?_); omega; omega; (intro _; rfl))); conv => whnf) | (with_reducible apply XAnd.mk) | ((first | (with_reducible apply Chk.go) | (with_reducible apply ChkA.go)); conv => whnf) | (exact XSame.mk rfl rfl) | (with_reducible exact trivial) | ((refine XCall.ret hso ?_); conv => whnf) | (exact XSame.mk (congrArg AV.bool hb0) rfl) | (exact XSame.mk (congrArg AV.bool hn1) rfl) | (exact XSame.mk (congrArg AV.bool hlt) rfl) | fail
        · skip
          repeat' first | (with_reducible apply XAnd.mk) | ((first | (with_reducible apply ChkF.go) | (with_reducible apply ChkB.go)); conv => whnf) | (with_reducible exact trivial) | fail
        conv => whnf
        repeat' first | ((with_reducible apply XBr.ff); conv => whnf) | ((with_reducible refine XHold.mk ?_ ?_); (first | omega | rfl | decide | exact ⟨rfl, by decide, rfl⟩ | exact wideI _ | exact widePr _ | exact wideSk _ | (unfold Room; constructor <;> ((try simp) <;> omega)) | exact ⟨rfl, by simp only [List.length_map], by unfold Room; constructor <;> ((try simp) <;> omega)⟩ | exact ⟨by omega, by omega, by unfold Room; constructor <;> ((try simp) <;> omega)⟩); conv => whnf) | fail
        refine Walk.know [(5, .ptr 1 0), (6, .ptr 2 0), (7, .sl B.isEmpty (rowsA B)), (9, slA S), (11, .ptr 4 0), (12, natA (metK l n)), (13, natA (wrK l n)), (14, natA n), (15, slA b), (16, .gr 5 ((l.sacks.map skA).length : Int).toNat), (54, .sl B.isEmpty (rowsA B)), (55, natA K), (56, natA n), (90, slA b), (91, .int .i64 (ints b).length), (92, .int .i64 0)] ⟨rfl, rfl, rfl, rfl, rfl, rfl, rfl, rfl, rfl, rfl, rfl, rfl, rfl, rfl, rfl, rfl, trivial⟩ ?_
        exact rest.g
    clear hpv hso hb0
    refine Walk.loop tab_ok [] (fun j : Nat => j ≤ b.length) (fun j => [(5, .ptr 1 0), (6, .ptr 2 0), (7, .sl B.isEmpty (rowsA B)), (9, slA S), (11, .ptr 4 0), (12, natA (metK l n + j)), (13, natA (wrK l n)), (14, natA n), (15, slA b), (16, .gr 5 l.sacks.length), (54, .sl B.isEmpty (rowsA B)), (55, natA K), (56, natA n), (90, slA b), (91, .int .i64 (ints b).length), (92, natA j)])
      (fun j => [hpC u1, .cells (ldC l), hpC (hp0 n2 ys), .grow 3 false (ints (inS n (inK B l.sacks.length n) (b.take j))), .cells [.gr 3 l.sacks.length], .grow 4 false (bools (onS (List.replicate l.sacks.length false) (b.take j)))]) (fun j => b.length - j) 0 (Nat.zero_le _) ?_ ⟨rfl, rfl, rfl, rfl, rfl, rfl, rfl, rfl, rfl, congrArg (fun n : Int => some (AV.gr 5 n.toNat)) e1, rfl, rfl, rfl, rfl, rfl, rfl, trivial⟩ ?_
    · show _ = [hpC u1, Blk.cells (ldC l), hpC (hp0 n2 ys), Blk.grow 3 false (ints (inK B l.sacks.length n)), Blk.cells [AV.gr 3 l.sacks.length], Blk.grow 4 false (List.replicate ((l.sacks.map skA).length : Int).toNat (AV.bool false))]
      rw [e1]
      simp [bools, inS, onS]
    intro j hj
    have hxi := fun h => hb.rng _ (getD_mem (xs := b) (i := j) (d := default) h)
    have il := (inS_len n (b.take j) (inK B l.sacks.length n)).trans (hil n)
    have ol : (onS (List.replicate l.sacks.length false) (b.take j)).length = l.sacks.length := onOf_len _ _
    have inx := fun h => inS_next (n := (n : Int)) (a := inK B l.sacks.length n) (b := b) (j := j) h
    have onx := fun h => onS_next (o := List.replicate l.sacks.length false) (b := b) (j := j) h
    have inE : j = b.length → inS n (inK B l.sacks.length n) (b.take j) = inK B l.sacks.length (n + 1) := fun h => by rw [h, List.take_length, hin']
    have onE : j = b.length → onS (List.replicate l.sacks.length false) (b.take j) = onOf l.sacks.length b := fun h => by rw [h, List.take_length]; rfl
    have hmb' := hmb n (by omega)
    generalize inS n (inK B l.sacks.length n) (b.take j) = ia at il inx inE
    generalize onS (List.replicate l.sacks.length false) (b.take j) = oa at ol onx onE
    conv => whnf
    repeat' first | ((with_reducible apply XBr.ff); conv => whnf) | ((with_reducible apply XBr.dec) <;> (intro h; first | (exfalso; omega) | ((try simp only [List.length_map] at h); first | (exfalso; omega) | (conv => whnf)))) | ((first | (with_reducible refine XInt.i64 (by omega) (by omega) ?_) | ((with_reducible refine XIx.nat ?_ ?_ ?_); omega; (intro _; rfl)) | (refine XHold.mk (by rw [List.length_map]; exact il) ?_) | (refine XHold.mk ⟨by rw [List.length_map]; first | exact il | exact ol, rfl, by have := hxi (by omega); omega, by have := hxi (by omega); omega⟩ ?_) | (refine XPut.ints ia _ rfl il.symm (by have := hxi (by omega); omega) ?_) | (refine XPut.bools oa _ rfl ol.symm (by have := hxi (by omega); omega) ?_)); conv => whnf) | fail
    · refine XAgain.go (j + 1) (show j + 1 ≤ b.length by omega) (by omega) ?_ ⟨rfl, rfl, rfl, rfl, rfl, rfl, rfl, rfl, rfl, rfl, rfl, rfl, rfl, rfl, rfl, rfl, trivial⟩
      rw [inx (by omega), onx (by omega)]
    · have hrc := rightX_c l b.isEmpty b lw (by omega)
      have hlr := lawRight_c l lo false oa ol
      have hc1 := hct (b.getD 0 default)
      rw [onE (by omega), hb.ro] at hlr
      rw [hb.ra, hb.re] at hrc
      rw [hb.fst, hcS n (by omega), ← hb.fst] at hc1
      have hwn' := hwn n (by omega)
      have hwb' := hwb n (by omega)
      have hia := inE (by omega)
      generalize rightB (openD l) (ndS l (fsI l n)) = R at hrc hlr hc1 hwn'
      have hRR : (R != R) = false := by cases R <;> rfl
      have hRn : (R == !R) = false := by cases R <;> rfl
      rw [onE (by omega)] at ol
      have hoa := onE (by omega)
      subst hoa
      repeat' first | ((refine XCall.ret hrc ?_); conv => whnf) | fail
      refine Walk.norm tab_ok [] [(5, .ptr 1 0), (6, .ptr 2 0), (7, .sl B.isEmpty (rowsA B)), (9, slA S), (11, .ptr 4 0), (12, natA (metK l n + j)), (13, natA (wrK l n)), (14, natA n), (15, slA b), (16, .gr 5 l.sacks.length), (19, .bool R), (20, .int .i64 0), (54, .sl B.isEmpty (rowsA B)), (55, natA K), (56, natA n)] ⟨rfl, rfl, rfl, rfl, rfl, rfl, rfl, rfl, rfl, rfl, rfl, rfl, rfl, rfl, rfl, trivial⟩ ?_
      conv => whnf
      repeat' first | ((with_reducible apply XBr.ff); conv => whnf) | (with_reducible apply XBr.not) | ((with_reducible apply XBr.bne) <;> (intro h; first | (exfalso; omega) | (conv => whnf))) | ((first | (with_reducible refine XInt.i64 (by omega) (by omega) ?_) | ((with_reducible refine XIx.map ?_ ?_ ?_ ?_); omega; omega; (intro _; rfl)) | (with_reducible refine XBr.no hRR ?_) | (with_reducible refine XBr.no hRn ?_) | (refine XCall.lend hlr (.cons (Froz.low (ldL l)) (.cons (Froz.grow (i := 5) rfl (by rw [List.length_map]; exact ol) (lowBo _)) .nil)) rfl ?_) | (refine XCall.ret hc1 ?_)); conv => whnf) | ((with_reducible apply XBr.mk') <;> (intro h; conv => whnf)) | fail
      all_goals
        refine XAgainG.go (n + 1) [.grow 4 false (bools (onOf l.sacks.length b))] (show n + 1 ≤ K by omega) (show K - (n + 1) < K - n by omega) (by rw [hia]; rfl) ⟨rfl, rfl, rfl, rfl, rfl, ?_, ?_, rfl, rfl, rfl, trivial⟩
        · show some (natA (metK l n + j)) = some (natA (metK l (n + 1)))
          rw [hmn', show j = b.length by omega]
      · show some (natA (wrK l n)) = some (natA (wrK l (n + 1)))
        rw [hwn', if_pos h]
      · show some (natA (wrK l n + 1)) = some (natA (wrK l (n + 1)))
        rw [hwn', if_neg (by rw [h]; simp)]
  · obtain rfl : n = K := by omega
    have hik := hil n
    have hcf := contf_pr l.nlw l.wth 72 [.pim [.sl false (ints (inK B l.sacks.length n))]] _ (by simp only [lowL, AV.low, lowI]; rfl) (by omega) fun p hp => bundles1_c false (inK B l.sacks.length n) p (lo.wp p hp).1 (by have := lo.wp p hp; omega) (lo.wp p hp).2.2.1 (by have := lo.wp p hp; omega)
    rw [show (l.wth.any fun x => (inK B l.sacks.length n).getD x.1.toNat default != (inK B l.sacks.length n).getD x.2.toNat default) = false from List.any_eq_false.2 fun p hp => by
      have := hiw p hp
      rw [show (inK B l.sacks.length n).getD p.1.toNat default = (inK B l.sacks.length n).getD p.2.toNat default from this]; simp] at hcf
    clear hiw hbe hmn hfi hcS hwn hmb hwb hin hi0 hil
    generalize inK B l.sacks.length n = I at hik hcf his
    have hSl : ((ints S).length : Int) = wrK l n := by rw [List.length_map, hwa]
    repeat' first | ((with_reducible apply XBr.ff); conv => whnf) | ((with_reducible apply XBr.bne) <;> (intro h; first | (exfalso; omega) | (conv => whnf))) | ((first | (refine XHold.mk (by rw [List.length_map]; exact hik) ?_) | (refine XCall.lend hcf (.cons (Froz.low (lowPr _)) (.cons (Froz.fn (.cons (Froz.ptr rfl (fun x hx => by rw [List.mem_singleton.1 hx]; rfl) (.cons (Froz.grow rfl (by rw [List.length_map]; exact hik) (lowI _)) .nil)) .nil)) .nil)) rfl ?_)); conv => whnf) | fail
    clear hcf hSl hma hwa hBl hbu hst
    refine Walk.loopG tab_ok [] (fun g : Nat × Hp => g.1 ≤ 8 ∧ g.2.Ok) (fun g => [(5, .ptr 1 0), (6, .ptr 2 0), (11, .ptr 4 0), (159, natA g.1)]) (fun g => [hpC u1, .cells (ldC l), hpC g.2, .grow 3 false (ints I), .cells [.gr 3 l.sacks.length]]) (fun g => 8 - g.1) (0, hp0 n2 ys) ⟨Nat.zero_le _, hp0_ok hy⟩ rfl ⟨rfl, rfl, rfl, rfl, trivial⟩ ?_ ?_ ?_
    · intro g hg
      refine ⟨fun x hx => ?_, fun p hp => ?_⟩
      · simp only [List.mem_cons, List.not_mem_nil, or_false] at hx
        rcases hx with rfl | rfl | rfl | rfl | rfl
        · exact hpC_low _
        · exact lowLd l
        · exact hpC_low _
        · exact lowI _
        · rfl
      · simp only [List.mem_cons, List.not_mem_nil, or_false] at hp
        rcases hp with rfl | rfl | rfl | rfl <;> rfl
    · intro g hg; exact Nat.le_refl _
    rintro ⟨k, v⟩ ⟨hk8, vo⟩
    dsimp only at hk8 vo ⊢
    have hor : HpOk 73 [natA (l.sacks.map skA).length] v (slA (ordK v l.sacks.length).1) (ordK v l.sacks.length).2 := by rw [List.length_map]; exact order_c v _ vo (by omega)
    have hov := ordK_ok vo l.sacks.length
    have hom := ordK_mem v l.sacks.length
    have hond := ordK_nd v l.sacks.length
    generalize ordK v l.sacks.length = W at hor hov hom hond
    obtain ⟨od, v1⟩ := W
    obtain ⟨v1o, hol⟩ := hov
    dsimp only at hor v1o hol hom hond
    conv => whnf
    repeat' first | ((with_reducible apply XBr.dec) <;> (intro h; first | (exfalso; omega) | ((try simp only [List.length_map] at h); first | (exfalso; omega) | (conv => whnf)))) | ((with_reducible refine XHold.mk ?_ ?_); (first | omega | rfl | decide | exact ⟨rfl, by decide, rfl⟩ | exact wideI _ | exact widePr _ | exact wideSk _ | (unfold Room; constructor <;> ((try simp) <;> omega)) | exact ⟨rfl, by simp only [List.length_map], by unfold Room; constructor <;> ((try simp) <;> omega)⟩ | exact ⟨by omega, by omega, by unfold Room; constructor <;> ((try simp) <;> omega)⟩); conv => whnf) | ((refine XCall.hp (j := 2) hor (lowI _) rfl ?_); conv => whnf) | fail
    · refine Walk.nilgr 21 3 rfl ?_
      refine Walk.loop tab_ok [] (fun g : Nat × List Int × Hp => g.1 ≤ l.sacks.length ∧ g.2.1.Sublist (od.take g.1) ∧ g.2.2.Ok) (fun g => [(5, .ptr 1 0), (6, .ptr 2 0), (11, .ptr 4 0), (22, .gr 5 l.sacks.length), (159, natA k), (169, slA od), (170, .int .i64 (ints od).length), (21, .gr 6 g.2.1.length), (171, natA g.1)])
        (fun g => [hpC u1, .cells (ldC l), hpC g.2.2, .grow 3 false (ints I), .cells [.gr 3 l.sacks.length], .grow 4 false (bools (onOf l.sacks.length g.2.1)), .grow 3 g.2.1.isEmpty (ints g.2.1)]) (fun g => l.sacks.length - g.1) (0, [], v1) ⟨Nat.zero_le _, List.Sublist.refl _, v1o⟩ ?_ ⟨rfl, rfl, rfl, congrArg (fun n : Int => some (AV.gr 5 n.toNat)) e1, rfl, rfl, rfl, rfl, rfl, trivial⟩ ?_
      · show _ = [hpC u1, Blk.cells (ldC l), hpC v1, Blk.grow 3 false (ints I), Blk.cells [AV.gr 3 l.sacks.length], Blk.grow 4 false (List.replicate ((l.sacks.map skA).length : Int).toNat (AV.bool false)), Blk.grow 3 true []]
        rw [e1]
        simp [bools, onOf, onS]
      rintro ⟨j, ca, v2⟩ ⟨hj, hsub, v2o⟩
      dsimp only at hj hsub v2o ⊢
      have hcl : ca.length ≤ 9 := by have := hsub.length_le; rw [List.length_take] at this; omega
      have hxm := fun h => (hom _).1 (getD_mem (xs := od) (i := j) (d := default) h)
      have hnx : j < od.length → (ca ++ [od.getD j default]).Sublist (od.take (j + 1)) := fun h => by rw [take_next h]; exact hsub.append (List.Sublist.refl _)
      have hns := fun h => hsub.trans (List.take_sublist_take_left (l := od) (show j ≤ j + 1 by omega))
      have hol2 := onOf_len l.sacks.length ca
      have honx : ∀ x, onOf l.sacks.length (ca ++ [x]) = (onOf l.sacks.length ca).set x.toNat true := fun x => by unfold onOf onS; rw [List.foldl_append]; rfl
      have hrg : ∀ x ∈ ca, 0 ≤ x ∧ x < l.sacks.length := fun x hx => (hom x).1 (List.mem_of_mem_take (hsub.subset hx))
      have hnd : ca.Nodup := (hsub.trans (List.take_sublist _ _)).nodup hond
      conv => whnf
      repeat' first | ((with_reducible apply XBr.dec) <;> (intro h; first | (exfalso; omega) | ((try simp only [List.length_map] at h); first | (exfalso; omega) | (conv => whnf)))) | ((with_reducible apply XBr.beq) <;> (intro h; first | (exfalso; omega) | (conv => whnf))) | ((with_reducible refine XInt.i64 (by omega) (by omega) ?_); conv => whnf) | ((with_reducible refine XHold.mk ?_ ?_); (first | omega | rfl | decide | exact ⟨rfl, by decide, rfl⟩ | exact wideI _ | exact widePr _ | exact wideSk _ | (unfold Room; constructor <;> ((try simp) <;> omega)) | exact ⟨rfl, by simp only [List.length_map], by unfold Room; constructor <;> ((try simp) <;> omega)⟩ | exact ⟨by omega, by omega, by unfold Room; constructor <;> ((try simp) <;> omega)⟩); conv => whnf) | ((first | ((with_reducible refine XIx.nat ?_ ?_ ?_); omega; (intro _; rfl)) | (refine XCall.hp (j := 2) (once_c v2 2 v2o (by omega) (by omega)) rfl rfl ?_) | (refine XHold.mk ⟨by rw [List.length_map]; exact hol2, rfl, by have := hxm (by omega); omega, by have := hxm (by omega); omega⟩ ?_) | (refine XPut.bools (onOf l.sacks.length ca) _ rfl hol2.symm (by have := hxm (by omega); omega) ?_)); conv => whnf) | fail
      · refine XAgain.go (j + 1, ca ++ [od.getD j default], hpS v2) ⟨by dsimp only; omega, hnx (by omega), hpS_ok v2o⟩ (by dsimp only; omega) ?_ ⟨rfl, rfl, rfl, rfl, rfl, rfl, rfl, ?_, rfl, trivial⟩
        rotate_left
        · show some (AV.gr 6 (ca.length + 1)) = some (AV.gr 6 (ca ++ [od.getD j default]).length)
          rw [List.length_append]; rfl
        show [hpC u1, Blk.cells (ldC l), hpC (hpS v2), Blk.grow 3 false (ints I), Blk.cells [AV.gr 3 l.sacks.length], Blk.grow 4 false (bools (onOf l.sacks.length (ca ++ [od.getD j default]))), Blk.grow 3 (ca ++ [od.getD j default]).isEmpty (List.map (AV.int .i64) (ca ++ [od.getD j default]))] = _
        rw [honx, isEmpty_app, List.map_append]
        rfl
      · exact XAgain.go (j + 1, ca, hpS v2) ⟨by dsimp only; omega, hns (by omega), hpS_ok v2o⟩ (by dsimp only; omega) rfl ⟨rfl, rfl, rfl, rfl, rfl, rfl, rfl, rfl, rfl, trivial⟩
      · have hrc := rightX_c l ca.isEmpty ca lw (by omega)
        have hlr := lawRight_c l lo false (onOf l.sacks.length ca) hol2
        obtain ⟨hra, hre⟩ := right_cart lo hrg hnd
        have hon := onOf_get hrg
        rw [right_on lo] at hlr
        rw [hra, hre] at hrc
        have hbit := setN_bit (onOf l.sacks.length ca)
        have hwh : rightB (openD l) (setN (onOf l.sacks.length ca)) = true → ∀ i k, i < l.sacks.length → k < l.sacks.length → I.getD i 0 = I.getD k 0 → (onOf l.sacks.length ca).getD i false = (onOf l.sacks.length ca).getD k false := fun hR i k hi hk e => by
          obtain ⟨f, h1, h2⟩ := his i k hi hk e
          rw [← hbit, ← hbit]
          exact whole_of lo ((right_iff lo (by have := setN_lt (onOf l.sacks.length ca); rwa [hol2] at this)).1 hR) h1 h2
        generalize rightB (openD l) (setN (onOf l.sacks.length ca)) = R at hrc hlr hwh
        have hRR : (R != R) = false := by cases R <;> rfl
        clear hnx hns hxm honx hsub hra hre hon hbit hrg hnd
        generalize onOf l.sacks.length ca = oa at hol2 hlr hwh
        refine XCall.lend hrc (.cons (Froz.low (ldL l)) (.cons (Froz.grow (i := 6) rfl (by rw [List.length_map]) (lowI _)) .nil)) rfl ?_
        conv => whnf
        repeat' first | ((with_reducible apply XBr.ff); conv => whnf) | ((with_reducible apply XBr.bne) <;> (intro h; first | (exfalso; omega) | (conv => whnf))) | ((first | (with_reducible refine XBr.no hRR ?_) | (refine XCall.lend hlr (.cons (Froz.low (ldL l)) (.cons (Froz.grow (i := 5) rfl (by rw [List.length_map]; exact hol2) (lowBo _)) .nil)) rfl ?_) | (refine XHold.mk (by rw [List.length_map]; exact hik) ?_)); conv => whnf) | fail
        refine Walk.loop tab_ok [] (fun i : Nat => i ≤ l.sacks.length) (fun i => [(5, .ptr 1 0), (6, .ptr 2 0), (11, .ptr 4 0), (22, .gr 5 l.sacks.length), (25, .bool R), (159, natA k), (201, natA l.sacks.length), (202, natA i)]) (fun _ => [hpC u1, .cells (ldC l), hpC v2, .grow 3 false (ints I), .cells [.gr 3 l.sacks.length], .grow 4 false (bools oa), .grow 3 ca.isEmpty (ints ca)]) (fun i => l.sacks.length - i) 0 (Nat.zero_le _) rfl ⟨rfl, rfl, rfl, rfl, rfl, rfl, rfl, rfl, trivial⟩ ?_
        intro i hi
        conv => whnf
        repeat' first | ((with_reducible apply XBr.dec) <;> (intro h; first | (exfalso; omega) | ((try simp only [List.length_map] at h); first | (exfalso; omega) | (conv => whnf)))) | ((first | (with_reducible refine XInt.i64 (by omega) (by omega) ?_) | (refine XHold.mk (by rw [List.length_map]; exact hik) ?_)); conv => whnf) | fail
        · refine Walk.loop tab_ok [] (fun m : Nat => m ≤ l.sacks.length) (fun m => [(5, .ptr 1 0), (6, .ptr 2 0), (11, .ptr 4 0), (22, .gr 5 l.sacks.length), (25, .bool R), (27, natA i), (159, natA k), (201, natA l.sacks.length), (202, natA i), (206, natA l.sacks.length), (207, natA m)]) (fun _ => [hpC u1, .cells (ldC l), hpC v2, .grow 3 false (ints I), .cells [.gr 3 l.sacks.length], .grow 4 false (bools oa), .grow 3 ca.isEmpty (ints ca)]) (fun m => l.sacks.length - m) 0 (Nat.zero_le _) rfl ⟨rfl, rfl, rfl, rfl, rfl, rfl, rfl, rfl, rfl, rfl, rfl, trivial⟩ ?_
          intro m hm
          conv => whnf
          repeat' first | ((with_reducible apply XBr.dec) <;> (intro h; first | (exfalso; omega) | ((try simp only [List.length_map] at h); first | (exfalso; omega) | (conv => whnf)))) | ((with_reducible refine XInt.i64 (by omega) (by omega) ?_); conv => whnf) | fail
          · have hsame := fun h : R = true => hwh h i m (by omega) (by omega)
            cases R with
            | false =>
              apply Walk.drawX tab_ok mixed_ok [] [] (hsK _) [_, _, _, _, _, _, _, _, _, _, _, .bool false, .bool false, _, _, _, _, _, _, _, _, _, .bool false] (by kernel_rfl) rfl
              · skip
                repeat' first | ((with_reducible apply XBr.ff); conv => whnf) | (with_reducible apply XAnd.mk) | ((first | (with_reducible apply Chk.go) | (with_reducible apply ChkA.go)); conv => whnf) | (exact XSame.mk rfl rfl) | (with_reducible exact trivial) | fail
              · skip
                repeat' first | (with_reducible apply XAnd.mk) | ((first | (with_reducible apply ChkF.go) | (with_reducible apply ChkB.go)); conv => whnf) | (with_reducible exact trivial) | fail
              conv => whnf
              repeat' first | ((first | (with_reducible apply XBr.ff) | (with_reducible refine XInt.i64 (by omega) (by omega) ?_)); conv => whnf) | fail
              exact XAgain.go (m + 1) (show m + 1 ≤ l.sacks.length by omega) (by omega) rfl ⟨rfl, rfl, rfl, rfl, rfl, rfl, rfl, rfl, rfl, rfl, rfl, trivial⟩
            | true =>
              by_cases he : I.getD i default = I.getD m default
              · have h1 : (I.getD i default == I.getD m default) = true := beq_iff_eq.2 he
                have h2 : (oa.getD i default != oa.getD m default) = false := by rw [show oa.getD i default = oa.getD m default from hsame rfl he]; simp
                apply Walk.drawX tab_ok mixed_ok [] [] (hsK _) [_, _, _, _, _, _, _, _, _, _, .bool true, .bool true, .bool true, _, _, _, _, _, _, _, _, .bool false, .bool false] (by kernel_rfl) rfl
                · skip
                  repeat' first | ((with_reducible apply XBr.tt); conv => whnf) | (with_reducible apply XAnd.mk) | ((first | (with_reducible apply Chk.go) | (with_reducible apply ChkA.go)); conv => whnf) | (exact XSame.mk rfl rfl) | (with_reducible exact trivial) | ((first | (refine XHold.mk ⟨by rw [List.length_map]; first | exact hik | exact hol2, rfl, by omega, by omega⟩ ?_) | (refine XGet.map (by first | exact hik.symm | exact hol2.symm) (by omega) ?_)); conv => whnf) | (exact XSame.mk (congrArg AV.bool h1) rfl) | (exact XSame.mk (congrArg AV.bool h2) rfl) | fail
                · skip
                  repeat' first | (with_reducible apply XAnd.mk) | ((first | (with_reducible apply ChkF.go) | (with_reducible apply ChkB.go)); conv => whnf) | (with_reducible exact trivial) | fail
                conv => whnf
                repeat' first | ((first | (with_reducible apply XBr.ff) | (with_reducible refine XInt.i64 (by omega) (by omega) ?_)); conv => whnf) | fail
                exact XAgain.go (m + 1) (show m + 1 ≤ l.sacks.length by omega) (by omega) rfl ⟨rfl, rfl, rfl, rfl, rfl, rfl, rfl, rfl, rfl, rfl, rfl, trivial⟩
              · have h1 : (I.getD i default == I.getD m default) = false := beq_eq_false_iff_ne.2 he
                apply Walk.drawX tab_ok mixed_ok [] [] (hsK _) [_, _, _, _, _, _, _, _, _, _, .bool false, .bool false, .bool false, _, _, _, _, _, _, _, _, _, .bool false] (by kernel_rfl) rfl
                · skip
                  repeat' first | ((first | (with_reducible apply XBr.tt) | (with_reducible apply XBr.ff)); conv => whnf) | (with_reducible apply XAnd.mk) | ((first | (with_reducible apply Chk.go) | (with_reducible apply ChkA.go)); conv => whnf) | (exact XSame.mk rfl rfl) | (with_reducible exact trivial) | ((first | (refine XHold.mk ⟨by rw [List.length_map]; first | exact hik | exact hol2, rfl, by omega, by omega⟩ ?_) | (refine XGet.map (by first | exact hik.symm | exact hol2.symm) (by omega) ?_)); conv => whnf) | (exact XSame.mk (congrArg AV.bool h1) rfl) | fail
                · skip
                  repeat' first | (with_reducible apply XAnd.mk) | ((first | (with_reducible apply ChkF.go) | (with_reducible apply ChkB.go)); conv => whnf) | (with_reducible exact trivial) | fail
                conv => whnf
                repeat' first | ((first | (with_reducible apply XBr.ff) | (with_reducible refine XInt.i64 (by omega) (by omega) ?_)); conv => whnf) | fail
                exact XAgain.go (m + 1) (show m + 1 ≤ l.sacks.length by omega) (by omega) rfl ⟨rfl, rfl, rfl, rfl, rfl, rfl, rfl, rfl, rfl, rfl, rfl, trivial⟩
          · exact XAgain.go (i + 1) (show i + 1 ≤ l.sacks.length by omega) (by omega) rfl ⟨rfl, rfl, rfl, rfl, rfl, rfl, rfl, rfl, trivial⟩
        · exact XAgainG.go (k + 1, v2) [.grow 4 false (bools oa), .grow 3 ca.isEmpty (ints ca)] ⟨by dsimp only; omega, v2o⟩ (by dsimp only; omega) rfl ⟨rfl, rfl, rfl, rfl, trivial⟩
    · refine XCall.ret awake_c ?_
      conv => whnf
      skip
      exact XOut.bool rfl
end GA
end
