/- Part 7 of a proof: D58. -/
import Derived.Test.YtfpggfdojnnaiaaP6
section
namespace GA
open Go Go.RowKit Go.Proofs
set_option pp.deepTerms true
set_option maxRecDepth 8000
set_option linter.unusedVariables false
set_option linter.unusedSimpArgs false

theorem bls_congr {W : Nat} {F G : Nat → Bool} (h : ∀ i, i < W → F i = G i) : bls W F = bls W G := congrArg (List.map AV.bool) (vecF_congr h)
theorem XGet.blsJ {W : Nat} {F : Nat → Bool} {n e : Nat} {k : List AV → Prop} (j : Nat) (he : e = j) (h1 : n = W) (h2 : j < W) (h : k [.bool (F j)]) : XGet (GA.bls W F) n e k := by
  subst he; exact XGet.bls h1 h2 h
def psR (b : Bd) (p : Nat → Bool) : Nat → Nat → Bool
  | 0, n => inZ n (b.first - b.unsure) (b.first + b.unsure) && agB b p 0 n
  | m + 1, n => (List.range (b.room + 1).toNat).any (fun k => psR b p m k && nxF b m k n) && agB b p (m + 1) n
def psRows (b : Bd) (p : Nat → Bool) : Nat → List Blk
  | 0 => []
  | m + 1 => psRows b p m ++ [.grow 4 false (bls (b.room + 1).toNat (psR b p m))]
def psOut (W m : Nat) : Blk := .grow 75 (decide (m = 0)) (vecF m fun i => .gr (i + 1) W)
def psG (b : Bd) (p : Nat → Bool) : Nat → Nat → Bool
  | 0, n => psR b p b.months.length n
  | k + 1, n => psR b p (b.months.length - (k + 1)) n && (List.range (b.room + 1).toNat).any fun q => nxF b (b.months.length - (k + 1)) n q && psG b p k q
def psF (b : Bd) (p : Nat → Bool) (m n : Nat) : Bool := psG b p (b.months.length - m) n
theorem psF_end (b : Bd) (p : Nat → Bool) (n : Nat) : psF b p b.months.length n = psR b p b.months.length n := by unfold psF; rw [Nat.sub_self]; rfl
theorem psF_step {b : Bd} {p : Nat → Bool} {m : Nat} (hm : m < b.months.length) (n : Nat) : psF b p m n = (psR b p m n && (List.range (b.room + 1).toNat).any fun q => nxF b m n q && psF b p (m + 1) q) := by
  obtain ⟨k, hk⟩ : ∃ k, b.months.length - m = k + 1 := ⟨b.months.length - m - 1, by omega⟩
  unfold psF
  rw [hk, psG, show b.months.length - (k + 1) = m by omega, show b.months.length - (m + 1) = k by omega]
theorem any_next (g : Nat → Bool) (k : Nat) : (List.range (k + 1)).any g = ((List.range k).any g || g k) := by
  rw [List.range_succ, List.any_append]; simp
theorem row_next {W n : Nat} {R : Nat → Bool} {v : Bool} (x : Bool) (hv : v = R n) : bls W (updV (updV (fun q => if q < n then R q else false) n x) n v) = bls W fun q => if q < n + 1 then R q else false := bls_congr fun q _ => by
  rw [updV_updV]
  unfold updV
  by_cases h : q = n
  · rw [if_pos h, if_pos (by omega), h, hv]
  · rw [if_neg h]
    show (if q < n then R q else false) = if q < n + 1 then R q else false
    by_cases h2 : q < n
    · rw [if_pos h2, if_pos (by omega)]
    · rw [if_neg h2, if_neg (by omega)]
theorem row_first {W n : Nat} {R : Nat → Bool} : bls W (updV (fun q => if q < n then R q else false) n false) = bls W fun q => if q < n then R q else false := bls_congr fun q _ => by
  unfold updV
  by_cases h : q = n
  · rw [if_pos h, if_neg (by omega)]
  · rw [if_neg h]
def psX (b : Bd) (p : Nat → Bool) (j k n : Nat) : Bool := if b.months.length ≤ k + j then psF b p k n else psR b p k n
def psB (b : Bd) (p : Nat → Bool) (j k : Nat) : Blk := if k ≤ b.months.length then .grow 4 false (bls (b.room + 1).toNat (psX b p j k)) else .grow 4 true []
def psP (b : Bd) (p : Nat → Bool) (j : Nat) : List Blk := [psOut (b.room + 1).toNat (b.months.length + 1), psB b p j 0, psB b p j 1, psB b p j 2, psB b p j 3, psB b p j 4, psB b p j 5, psB b p j 6, psB b p j 7, psB b p j 8, psB b p j 9, psB b p j 10]
theorem psB_cur {b : Bd} {p : Nat → Bool} {j k : Nat} (h : k + j + 1 = b.months.length) : psB b p j k = .grow 4 false (bls (b.room + 1).toNat (psR b p k)) := by
  unfold psB
  rw [if_pos (by omega)]
  exact congrArg (Blk.grow _ false) (bls_congr fun q _ => by unfold psX; rw [if_neg (by omega)])
theorem psB_fin {b : Bd} {p : Nat → Bool} {j k : Nat} (h : b.months.length ≤ k + j) (h2 : k ≤ b.months.length) : psB b p j k = .grow 4 false (bls (b.room + 1).toNat (psF b p k)) := by
  unfold psB
  rw [if_pos h2]
  exact congrArg (Blk.grow _ false) (bls_congr fun q _ => by unfold psX; rw [if_pos h])
theorem psB_other {b : Bd} {p : Nat → Bool} {j k : Nat} (h : k + j + 1 ≠ b.months.length) : psB b p (j + 1) k = psB b p j k := by
  unfold psB
  split
  · refine congrArg (Blk.grow _ false) (bls_congr fun q _ => ?_)
    unfold psX
    by_cases h2 : b.months.length ≤ k + j
    · rw [if_pos h2, if_pos (by omega)]
    · rw [if_neg h2, if_neg (by omega)]
  · rfl
theorem psRows_eq (b : Bd) (p : Nat → Bool) : ∀ N, psRows b p N = (List.range N).map fun k => .grow 4 false (bls (b.room + 1).toNat (psR b p k))
  | 0 => rfl
  | N + 1 => by rw [psRows, psRows_eq b p N, List.range_succ, List.map_append]; rfl
theorem psPad {b : Bd} {p : Nat → Bool} (hM : b.months.length ≤ 10) : psOut (b.room + 1).toNat (b.months.length + 1) :: psRows b p (b.months.length + 1) ++ List.replicate (10 - b.months.length) (.grow 4 true []) = psP b p 0 := by
  rw [psRows_eq, List.cons_append]
  show _ = psOut _ _ :: (List.range 11).map (psB b p 0)
  refine congrArg (List.cons _) (List.ext_getElem? fun i => ?_)
  have hl : ((List.range (b.months.length + 1)).map fun k => Blk.grow 4 false (bls (b.room + 1).toNat (psR b p k))).length = b.months.length + 1 := by rw [List.length_map, List.length_range]
  by_cases h : i < b.months.length + 1
  · rw [List.getElem?_append_left (by omega), List.getElem?_map, List.getElem?_map, List.getElem?_range h, List.getElem?_range (by omega)]
    show some _ = some (psB b p 0 i)
    unfold psB
    rw [if_pos (by omega)]
    refine congrArg (fun z => some (Blk.grow _ false z)) (bls_congr fun q _ => ?_)
    unfold psX
    by_cases h2 : b.months.length ≤ i + 0
    · obtain rfl : i = b.months.length := by omega
      rw [if_pos h2, psF_end]
    · rw [if_neg h2]
  · rw [List.getElem?_append_right (by omega), List.getElem?_replicate, List.getElem?_map]
    by_cases h2 : i < 11
    · rw [if_pos (by omega), List.getElem?_range h2]
      show _ = some (psB b p 0 i)
      unfold psB; rw [if_neg (by omega)]
    · rw [if_neg (by omega), List.getElem?_eq_none (by rw [List.length_range]; omega)]; rfl
theorem row_next2 {W n : Nat} {R F : Nat → Bool} {v : Bool} (hv : v = F n) : bls W (updV (fun q => if q < n then F q else R q) n v) = bls W fun q => if q < n + 1 then F q else R q := bls_congr fun q _ => by
  unfold updV
  by_cases h : q = n
  · rw [if_pos h, if_pos (by omega), h, hv]
  · rw [if_neg h]
    show (if q < n then F q else R q) = if q < n + 1 then F q else R q
    by_cases h2 : q < n
    · rw [if_pos h2, if_pos (by omega)]
    · rw [if_neg h2, if_neg (by omega)]
theorem Walk.nilrows {P : Program} {H : List Blk} {N : Nat} {r : Option Nat} {c : Code} {Q : Post} {D : List Nat} {σ : St} (te : TypeId) : ∀ k, Walk P N r c Q D σ (H ++ List.replicate k (.grow te true [])) → Walk P N r c Q D σ H
  | 0, x => by simpa using x
  | k + 1, x => by
    refine Walk.nilrows te k (Walk.nilrow te ?_)
    rw [List.append_assoc, ← List.replicate_succ']; exact x
set_option maxHeartbeats 4000000 in
theorem possible04_c (b : Bd) (ok : BedOk b) (hs : b.surveys.length ≤ 100000) (nl : Bool) (p : Nat → Bool) : Comp Try.prog 141 [bedA b, nextA b, .sl nl (bls b.surveys.length p)] (.sl false (vecF (b.months.length + 1) fun m => .sl false (bls (b.room + 1).toNat (psF b p m)))) := by
  have m1 := ok.m1
  have m2 := ok.m2
  have r1 := ok.r1
  have r2 := ok.r2
  have f1 := ok.f1
  have f2 := ok.f2
  have u1 := ok.u1
  have u2 := ok.u2
  have e1 : ((b.months.map moA).length : Int) = b.months.length := by rw [List.length_map]
  have hz0 : ∀ N, List.replicate (b.room + 1).toNat (AV.bool false) = bls (b.room + 1).toNat fun q => if q < 0 then psR b p N q else false := fun N => by
    rw [bls0]; exact bls_congr fun q _ => (if_neg (Nat.not_lt_zero q)).symm
  refine Comp.body (T := tab) (res := [.tmp 6]) tab_ok [] Try.func141 rfl (by kernel_rfl) Try.ntmps141 rfl (by simp only [List.length_cons, List.length_nil]; decide) (by simp only [lowL, bedL, AV.low, bls_low, nextA_low]; rfl) ?_; conv => whnf
  skip
  refine Walk.nilgr 7 75 rfl ?_
  refine Walk.loopK tab_ok [] [(1, _), (2, _), (3, _), (6, _)] ⟨rfl, rfl, rfl, rfl, trivial⟩ (fun m : Nat => m ≤ b.months.length + 1) (fun m => [(7, .gr 0 m), (8, natA m)]) (fun m => psOut (b.room + 1).toNat m :: psRows b p m) (fun m => b.months.length + 1 - m) 0 (Nat.zero_le _) (by unfold psOut; rw [vecF_eq] <;> rfl) ⟨rfl, rfl, trivial⟩ ?_
  intro m hm
  by_cases hmM : m ≤ b.months.length
  · have hmm : m = 0 ∨ m = 1 ∨ m = 2 ∨ m = 3 ∨ m = 4 ∨ m = 5 ∨ m = 6 ∨ m = 7 ∨ m = 8 ∨ m = 9 ∨ m = 10 := by omega
    rcases hmm with rfl | rfl | rfl | rfl | rfl | rfl | rfl | rfl | rfl | rfl | rfl
    · skip
      conv => whnf
      repeat' first | ((with_reducible apply XBr.dec) <;> (intro h; first | (exfalso; omega) | ((try simp only [List.length_map] at h); first | (exfalso; omega) | (conv => whnf)))) | ((with_reducible refine XInt.i64 (by omega) (by omega) ?_); conv => whnf) | ((with_reducible refine XHold.mk ?_ ?_); (first | omega | rfl | decide | exact ⟨rfl, by decide, rfl⟩ | exact wideI _ | exact widePr _ | exact wideSk _ | (unfold Room; constructor <;> ((try simp) <;> omega)) | exact ⟨rfl, by simp only [List.length_map], by unfold Room; constructor <;> ((try simp) <;> omega)⟩ | exact ⟨by omega, by omega, by unfold Room; constructor <;> ((try simp) <;> omega)⟩); conv => whnf) | fail
      refine Walk.loopK tab_ok [] [(1, _), (2, _), (3, _), (6, _), (7, _), (8, _), (9, .gr 1 (b.room + 1).toNat)] ⟨rfl, rfl, rfl, rfl, rfl, rfl, rfl, trivial⟩ (fun n : Nat => (n : Int) ≤ b.room + 1) (fun n => [(10, natA n)]) (fun n => psOut (b.room + 1).toNat 0 :: (psRows b p 0 ++ [.grow 4 false (bls (b.room + 1).toNat fun q => if q < n then psR b p 0 q else false)])) (fun n => (b.room + 1).toNat - n) 0 (by omega) (by rw [← hz0 0] <;> rfl) ⟨rfl, trivial⟩ ?_
      intro n hn
      have hbl := fun F => bls_len (b.room + 1).toNat F
      have hag := refAgrees1_c b nl p 0 n hs
      by_cases hlt : (n : Int) ≤ b.room
      · have hof := off04_c n (b.first - b.unsure) (b.first + b.unsure)
        have hps : psR b p 0 n = (inZ n (b.first - b.unsure) (b.first + b.unsure) && agB b p 0 n) := rfl
        obtain ⟨u, hu⟩ : ∃ u, inZ n (b.first - b.unsure) (b.first + b.unsure) = u := ⟨_, rfl⟩
        rw [hu] at hof
        conv => whnf
        repeat' first | ((with_reducible apply XBr.dec) <;> (intro h; first | (exfalso; omega) | ((try simp only [List.length_map] at h); first | (exfalso; omega) | (conv => whnf)))) | ((with_reducible apply XBr.beq) <;> (intro h; first | (exfalso; omega) | (conv => whnf))) | ((first | (with_reducible refine XInt.i64 (by omega) (by omega) ?_) | (refine XHold.mk ⟨hbl _, rfl, by omega, by omega⟩ ?_) | (refine XCall.ret hof ?_) | ((refine XPut.bls n (by omega) rfl (by omega) ?_); (try rw [Bool.not_not]))); conv => whnf) | fail
        refine Walk.loopK tab_ok [] [(1, _), (2, _), (3, _), (6, _), (7, _), (8, _), (9, _), (10, _)] ⟨rfl, rfl, rfl, rfl, rfl, rfl, rfl, rfl, trivial⟩ (fun _ : Unit => True) (fun _ => [(11, natA 0)]) (fun _ => psOut (b.room + 1).toNat 0 :: (psRows b p 0 ++ [.grow 4 false (bls (b.room + 1).toNat (updV (fun q => if q < n then psR b p 0 q else false) n u))])) (fun _ => 0) () trivial rfl ⟨rfl, trivial⟩ ?_
        intro _ _
        conv => whnf
        repeat' first | ((with_reducible apply XBr.ff); conv => whnf) | ((with_reducible apply XBr.dec) <;> (intro h; first | (exfalso; omega) | ((try simp only [List.length_map] at h); first | (exfalso; omega) | (conv => whnf)))) | fail
        obtain ⟨ag, hagv⟩ : ∃ ag, agB b p 0 n = ag := ⟨_, rfl⟩
        rw [hagv] at hag
        cases u with
        | false =>
          repeat' first | ((first | (with_reducible apply XBr.ff) | (with_reducible refine XInt.i64 (by omega) (by omega) ?_) | (refine XHold.mk ⟨hbl _, rfl, by omega, by omega⟩ ?_) | ((refine XGet.blsJ n (by omega) rfl (by omega) ?_); rw [updV_same]) | (refine XPut.bls n (by omega) rfl (by omega) ?_)); conv => whnf) | fail
          refine XAgain.go (n + 1) (by omega) (by omega) ?_ ⟨rfl, rfl, rfl, rfl, rfl, rfl, rfl, rfl, trivial⟩
          rw [← row_next false (show false = psR b p 0 n by rw [hps, hu]; rfl)] <;> rfl
        | true =>
          repeat' first | ((first | (with_reducible apply XBr.tt) | (with_reducible refine XInt.i64 (by omega) (by omega) ?_) | (refine XHold.mk ⟨hbl _, rfl, by omega, by omega⟩ ?_) | ((refine XGet.blsJ n (by omega) rfl (by omega) ?_); rw [updV_same]) | (refine XPut.bls n (by omega) rfl (by omega) ?_) | (refine XCall.ret hag ?_)); conv => whnf) | fail
          refine XAgain.go (n + 1) (by omega) (by omega) ?_ ⟨rfl, rfl, rfl, rfl, rfl, rfl, rfl, rfl, trivial⟩
          rw [← row_next true (show ag = psR b p 0 n by rw [hps, hu, hagv]; rfl)] <;> rfl
      · obtain rfl : n = (b.room + 1).toNat := by omega
        rw [show (bls (b.room + 1).toNat fun q => if q < (b.room + 1).toNat then psR b p 0 q else false) = bls (b.room + 1).toNat (psR b p 0) from bls_congr fun q hq => if_pos hq]
        conv => whnf
        repeat' first | ((with_reducible apply XBr.dec) <;> (intro h; first | (exfalso; omega) | ((try simp only [List.length_map] at h); first | (exfalso; omega) | (conv => whnf)))) | ((with_reducible refine XInt.i64 (by omega) (by omega) ?_); conv => whnf) | ((with_reducible refine XHold.mk ?_ ?_); (first | omega | rfl | decide | exact ⟨rfl, by decide, rfl⟩ | exact wideI _ | exact widePr _ | exact wideSk _ | (unfold Room; constructor <;> ((try simp) <;> omega)) | exact ⟨rfl, by simp only [List.length_map], by unfold Room; constructor <;> ((try simp) <;> omega)⟩ | exact ⟨by omega, by omega, by unfold Room; constructor <;> ((try simp) <;> omega)⟩); conv => whnf) | ((refine XHold.mk ⟨rfl, vecF_len _ _, by unfold Room; constructor <;> (simp only [List.length_cons, List.length_nil]; omega)⟩ ?_); conv => whnf) | fail
        refine XAgain.go 1 (by omega) (by omega) ?_ ⟨rfl, rfl, rfl, rfl, rfl, rfl, trivial⟩
        show psOut (b.room + 1).toNat (0 + 1) :: psRows b p (0 + 1) = _
        unfold psOut
        rw [vecF_succ]; rfl
    · skip
      conv => whnf
      repeat' first | ((with_reducible apply XBr.dec) <;> (intro h; first | (exfalso; omega) | ((try simp only [List.length_map] at h); first | (exfalso; omega) | (conv => whnf)))) | ((with_reducible refine XInt.i64 (by omega) (by omega) ?_); conv => whnf) | ((with_reducible refine XHold.mk ?_ ?_); (first | omega | rfl | decide | exact ⟨rfl, by decide, rfl⟩ | exact wideI _ | exact widePr _ | exact wideSk _ | (unfold Room; constructor <;> ((try simp) <;> omega)) | exact ⟨rfl, by simp only [List.length_map], by unfold Room; constructor <;> ((try simp) <;> omega)⟩ | exact ⟨by omega, by omega, by unfold Room; constructor <;> ((try simp) <;> omega)⟩); conv => whnf) | fail
      refine Walk.loopK tab_ok [] [(1, _), (2, _), (3, _), (6, _), (7, _), (8, _), (9, .gr 2 (b.room + 1).toNat)] ⟨rfl, rfl, rfl, rfl, rfl, rfl, rfl, trivial⟩ (fun n : Nat => (n : Int) ≤ b.room + 1) (fun n => [(10, natA n)]) (fun n => psOut (b.room + 1).toNat 1 :: (psRows b p 1 ++ [.grow 4 false (bls (b.room + 1).toNat fun q => if q < n then psR b p 1 q else false)])) (fun n => (b.room + 1).toNat - n) 0 (by omega) (by rw [← hz0 1] <;> rfl) ⟨rfl, trivial⟩ ?_
      intro n hn
      have hbl := fun F => bls_len (b.room + 1).toNat F
      have hag := refAgrees1_c b nl p 1 n hs
      by_cases hlt : (n : Int) ≤ b.room
      · have hps : psR b p 1 n = ((List.range (b.room + 1).toNat).any (fun k => psR b p 0 k && nxF b 0 k n) && agB b p 1 n) := rfl
        conv => whnf
        repeat' first | ((with_reducible apply XBr.dec) <;> (intro h; first | (exfalso; omega) | ((try simp only [List.length_map] at h); first | (exfalso; omega) | (conv => whnf)))) | ((with_reducible apply XBr.beq) <;> (intro h; first | (exfalso; omega) | (conv => whnf))) | fail
        refine Walk.loopK tab_ok [] [(1, _), (2, _), (3, _), (6, _), (7, _), (8, _), (9, _), (10, _)] ⟨rfl, rfl, rfl, rfl, rfl, rfl, rfl, rfl, trivial⟩ (fun k : Nat => (k : Int) ≤ b.room + 1) (fun k => [(11, natA k)]) (fun k => psOut (b.room + 1).toNat 1 :: (psRows b p 1 ++ [.grow 4 false (bls (b.room + 1).toNat (updV (fun q => if q < n then psR b p 1 q else false) n ((List.range k).any fun k => psR b p 0 k && nxF b 0 k n)))])) (fun k => (b.room + 1).toNat - k) 0 (by omega) (by rw [show ((List.range 0).any fun k => psR b p 0 k && nxF b 0 k n) = false from rfl, row_first] <;> rfl) ⟨rfl, trivial⟩ ?_
        intro k hk
        by_cases hltk : (k : Int) ≤ b.room
        · obtain ⟨r1, hr1⟩ : ∃ r1, psR b p 0 k = r1 := ⟨_, rfl⟩
          obtain ⟨r2, hr2⟩ : ∃ r2, nxF b 0 k n = r2 := ⟨_, rfl⟩
          obtain ⟨v, hv⟩ : ∃ v, ((List.range k).any fun k => psR b p 0 k && nxF b 0 k n) = v := ⟨_, rfl⟩
          rw [hv]
          conv => whnf
          repeat' first | ((with_reducible apply XBr.tt); conv => whnf) | ((with_reducible apply XBr.dec) <;> (intro h; first | (exfalso; omega) | ((try simp only [List.length_map] at h); first | (exfalso; omega) | (conv => whnf)))) | fail
          cases v with
          | true =>
            refine Walk.norm tab_ok [] [(1, _), (2, _), (3, _), (6, _), (7, _), (8, _), (9, _), (10, _), (11, _)] ⟨rfl, rfl, rfl, rfl, rfl, rfl, rfl, rfl, rfl, trivial⟩ ?_
            conv => whnf
            repeat' first | ((first | (with_reducible apply XBr.tt) | (with_reducible refine XInt.i64 (by omega) (by omega) ?_) | (refine XHold.mk ⟨hbl _, rfl, by omega, by omega⟩ ?_) | ((refine XGet.blsJ n (by omega) rfl (by omega) ?_); rw [updV_same]) | ((refine XPut.bls n (by omega) rfl (by omega) ?_); rw [updV_updV])); conv => whnf) | fail
            exact XAgain.go (k + 1) (by omega) (by omega) (by rw [any_next, hv, hr1, hr2] <;> rfl) ⟨rfl, rfl, rfl, rfl, rfl, rfl, rfl, rfl, rfl, trivial⟩
          | false =>
            cases r1 with
            | false =>
              refine Walk.norm tab_ok [] [(1, _), (2, _), (3, _), (6, _), (7, _), (8, _), (9, _), (10, _), (11, _)] ⟨rfl, rfl, rfl, rfl, rfl, rfl, rfl, rfl, rfl, trivial⟩ ?_
              conv => whnf
              repeat' first | ((first | (with_reducible apply XBr.ff) | (with_reducible refine XInt.i64 (by omega) (by omega) ?_) | (refine XHold.mk ⟨hbl _, rfl, by omega, by omega⟩ ?_) | ((refine XGet.blsJ n (by omega) rfl (by omega) ?_); rw [updV_same]) | (refine XHold.mk ⟨vecF_len _ _, rfl, by omega, by omega⟩ ?_) | (refine XGet.vecV 0 (by omega) rfl (by omega) ?_) | ((refine XGet.blsJ k (by omega) rfl (by omega) ?_); rw [hr1]) | ((refine XPut.bls n (by omega) rfl (by omega) ?_); rw [updV_updV])); conv => whnf) | fail
              exact XAgain.go (k + 1) (by omega) (by omega) (by rw [any_next, hv, hr1, hr2] <;> rfl) ⟨rfl, rfl, rfl, rfl, rfl, rfl, rfl, rfl, rfl, trivial⟩
            | true =>
              refine Walk.norm tab_ok [] [(1, _), (2, _), (3, _), (6, _), (7, _), (8, _), (9, _), (10, _), (11, _)] ⟨rfl, rfl, rfl, rfl, rfl, rfl, rfl, rfl, rfl, trivial⟩ ?_
              conv => whnf
              repeat' first | ((first | (with_reducible apply XBr.tt) | (with_reducible apply XBr.ff) | (with_reducible refine XInt.i64 (by omega) (by omega) ?_) | (refine XHold.mk ⟨hbl _, rfl, by omega, by omega⟩ ?_) | ((refine XGet.blsJ n (by omega) rfl (by omega) ?_); rw [updV_same]) | (refine XHold.mk ⟨vecF_len _ _, rfl, by omega, by omega⟩ ?_) | (refine XGet.vecV 0 (by omega) rfl (by omega) ?_) | ((refine XGet.blsJ k (by omega) rfl (by omega) ?_); rw [hr1]) | (refine XIx.vecV 0 (by omega) (by omega) rfl ?_) | (refine XIx.vecV k (by omega) (by omega) rfl ?_) | ((refine XIx.bls n (by omega) (by omega) ?_); rw [hr2]) | ((refine XPut.bls n (by omega) rfl (by omega) ?_); rw [updV_updV])); conv => whnf) | fail
              exact XAgain.go (k + 1) (by omega) (by omega) (by rw [any_next, hv, hr1, hr2] <;> rfl) ⟨rfl, rfl, rfl, rfl, rfl, rfl, rfl, rfl, rfl, trivial⟩
        · obtain rfl : k = (b.room + 1).toNat := by omega
          obtain ⟨u, hu⟩ : ∃ u, ((List.range (b.room + 1).toNat).any fun k => psR b p 0 k && nxF b 0 k n) = u := ⟨_, rfl⟩
          rw [hu]
          conv => whnf
          repeat' first | ((with_reducible apply XBr.tt); conv => whnf) | ((with_reducible apply XBr.dec) <;> (intro h; first | (exfalso; omega) | ((try simp only [List.length_map] at h); first | (exfalso; omega) | (conv => whnf)))) | fail
          obtain ⟨ag, hagv⟩ : ∃ ag, agB b p 1 n = ag := ⟨_, rfl⟩
          rw [hagv] at hag
          cases u with
          | false =>
            repeat' first | ((first | (with_reducible apply XBr.ff) | (with_reducible refine XInt.i64 (by omega) (by omega) ?_) | (refine XHold.mk ⟨hbl _, rfl, by omega, by omega⟩ ?_) | ((refine XGet.blsJ n (by omega) rfl (by omega) ?_); rw [updV_same]) | (refine XPut.bls n (by omega) rfl (by omega) ?_)); conv => whnf) | fail
            refine XAgain.go (n + 1) (by omega) (by omega) ?_ ⟨rfl, rfl, rfl, rfl, rfl, rfl, rfl, rfl, trivial⟩
            rw [← row_next false (show false = psR b p 1 n by rw [hps, hu]; rfl)] <;> rfl
          | true =>
            repeat' first | ((first | (with_reducible apply XBr.tt) | (with_reducible refine XInt.i64 (by omega) (by omega) ?_) | (refine XHold.mk ⟨hbl _, rfl, by omega, by omega⟩ ?_) | ((refine XGet.blsJ n (by omega) rfl (by omega) ?_); rw [updV_same]) | (refine XPut.bls n (by omega) rfl (by omega) ?_) | (refine XCall.ret hag ?_)); conv => whnf) | fail
            refine XAgain.go (n + 1) (by omega) (by omega) ?_ ⟨rfl, rfl, rfl, rfl, rfl, rfl, rfl, rfl, trivial⟩
            rw [← row_next true (show ag = psR b p 1 n by rw [hps, hu, hagv]; rfl)] <;> rfl
      · obtain rfl : n = (b.room + 1).toNat := by omega
        rw [show (bls (b.room + 1).toNat fun q => if q < (b.room + 1).toNat then psR b p 1 q else false) = bls (b.room + 1).toNat (psR b p 1) from bls_congr fun q hq => if_pos hq]
        conv => whnf
        repeat' first | ((with_reducible apply XBr.dec) <;> (intro h; first | (exfalso; omega) | ((try simp only [List.length_map] at h); first | (exfalso; omega) | (conv => whnf)))) | ((with_reducible refine XInt.i64 (by omega) (by omega) ?_); conv => whnf) | ((with_reducible refine XHold.mk ?_ ?_); (first | omega | rfl | decide | exact ⟨rfl, by decide, rfl⟩ | exact wideI _ | exact widePr _ | exact wideSk _ | (unfold Room; constructor <;> ((try simp) <;> omega)) | exact ⟨rfl, by simp only [List.length_map], by unfold Room; constructor <;> ((try simp) <;> omega)⟩ | exact ⟨by omega, by omega, by unfold Room; constructor <;> ((try simp) <;> omega)⟩); conv => whnf) | ((refine XHold.mk ⟨rfl, vecF_len _ _, by unfold Room; constructor <;> (simp only [List.length_cons, List.length_nil]; omega)⟩ ?_); conv => whnf) | fail
        refine XAgain.go 2 (by omega) (by omega) ?_ ⟨rfl, rfl, rfl, rfl, rfl, rfl, trivial⟩
        show psOut (b.room + 1).toNat (1 + 1) :: psRows b p (1 + 1) = _
        unfold psOut
        rw [vecF_succ]; rfl
    · skip
      conv => whnf
      repeat' first | ((with_reducible apply XBr.dec) <;> (intro h; first | (exfalso; omega) | ((try simp only [List.length_map] at h); first | (exfalso; omega) | (conv => whnf)))) | ((with_reducible refine XInt.i64 (by omega) (by omega) ?_); conv => whnf) | ((with_reducible refine XHold.mk ?_ ?_); (first | omega | rfl | decide | exact ⟨rfl, by decide, rfl⟩ | exact wideI _ | exact widePr _ | exact wideSk _ | (unfold Room; constructor <;> ((try simp) <;> omega)) | exact ⟨rfl, by simp only [List.length_map], by unfold Room; constructor <;> ((try simp) <;> omega)⟩ | exact ⟨by omega, by omega, by unfold Room; constructor <;> ((try simp) <;> omega)⟩); conv => whnf) | fail
      refine Walk.loopK tab_ok [] [(1, _), (2, _), (3, _), (6, _), (7, _), (8, _), (9, .gr 3 (b.room + 1).toNat)] ⟨rfl, rfl, rfl, rfl, rfl, rfl, rfl, trivial⟩ (fun n : Nat => (n : Int) ≤ b.room + 1) (fun n => [(10, natA n)]) (fun n => psOut (b.room + 1).toNat 2 :: (psRows b p 2 ++ [.grow 4 false (bls (b.room + 1).toNat fun q => if q < n then psR b p 2 q else false)])) (fun n => (b.room + 1).toNat - n) 0 (by omega) (by rw [← hz0 2] <;> rfl) ⟨rfl, trivial⟩ ?_
      intro n hn
      have hbl := fun F => bls_len (b.room + 1).toNat F
      have hag := refAgrees1_c b nl p 2 n hs
      by_cases hlt : (n : Int) ≤ b.room
      · have hps : psR b p 2 n = ((List.range (b.room + 1).toNat).any (fun k => psR b p 1 k && nxF b 1 k n) && agB b p 2 n) := rfl
        conv => whnf
        repeat' first | ((with_reducible apply XBr.dec) <;> (intro h; first | (exfalso; omega) | ((try simp only [List.length_map] at h); first | (exfalso; omega) | (conv => whnf)))) | ((with_reducible apply XBr.beq) <;> (intro h; first | (exfalso; omega) | (conv => whnf))) | fail
        refine Walk.loopK tab_ok [] [(1, _), (2, _), (3, _), (6, _), (7, _), (8, _), (9, _), (10, _)] ⟨rfl, rfl, rfl, rfl, rfl, rfl, rfl, rfl, trivial⟩ (fun k : Nat => (k : Int) ≤ b.room + 1) (fun k => [(11, natA k)]) (fun k => psOut (b.room + 1).toNat 2 :: (psRows b p 2 ++ [.grow 4 false (bls (b.room + 1).toNat (updV (fun q => if q < n then psR b p 2 q else false) n ((List.range k).any fun k => psR b p 1 k && nxF b 1 k n)))])) (fun k => (b.room + 1).toNat - k) 0 (by omega) (by rw [show ((List.range 0).any fun k => psR b p 1 k && nxF b 1 k n) = false from rfl, row_first] <;> rfl) ⟨rfl, trivial⟩ ?_
        intro k hk
        by_cases hltk : (k : Int) ≤ b.room
        · obtain ⟨r1, hr1⟩ : ∃ r1, psR b p 1 k = r1 := ⟨_, rfl⟩
          obtain ⟨r2, hr2⟩ : ∃ r2, nxF b 1 k n = r2 := ⟨_, rfl⟩
          obtain ⟨v, hv⟩ : ∃ v, ((List.range k).any fun k => psR b p 1 k && nxF b 1 k n) = v := ⟨_, rfl⟩
          rw [hv]
          conv => whnf
          repeat' first | ((with_reducible apply XBr.tt); conv => whnf) | ((with_reducible apply XBr.dec) <;> (intro h; first | (exfalso; omega) | ((try simp only [List.length_map] at h); first | (exfalso; omega) | (conv => whnf)))) | fail
          cases v with
          | true =>
            refine Walk.norm tab_ok [] [(1, _), (2, _), (3, _), (6, _), (7, _), (8, _), (9, _), (10, _), (11, _)] ⟨rfl, rfl, rfl, rfl, rfl, rfl, rfl, rfl, rfl, trivial⟩ ?_
            conv => whnf
            repeat' first | ((first | (with_reducible apply XBr.tt) | (with_reducible refine XInt.i64 (by omega) (by omega) ?_) | (refine XHold.mk ⟨hbl _, rfl, by omega, by omega⟩ ?_) | ((refine XGet.blsJ n (by omega) rfl (by omega) ?_); rw [updV_same]) | ((refine XPut.bls n (by omega) rfl (by omega) ?_); rw [updV_updV])); conv => whnf) | fail
            exact XAgain.go (k + 1) (by omega) (by omega) (by rw [any_next, hv, hr1, hr2] <;> rfl) ⟨rfl, rfl, rfl, rfl, rfl, rfl, rfl, rfl, rfl, trivial⟩
          | false =>
            cases r1 with
            | false =>
              refine Walk.norm tab_ok [] [(1, _), (2, _), (3, _), (6, _), (7, _), (8, _), (9, _), (10, _), (11, _)] ⟨rfl, rfl, rfl, rfl, rfl, rfl, rfl, rfl, rfl, trivial⟩ ?_
              conv => whnf
              repeat' first | ((first | (with_reducible apply XBr.ff) | (with_reducible refine XInt.i64 (by omega) (by omega) ?_) | (refine XHold.mk ⟨hbl _, rfl, by omega, by omega⟩ ?_) | ((refine XGet.blsJ n (by omega) rfl (by omega) ?_); rw [updV_same]) | (refine XHold.mk ⟨vecF_len _ _, rfl, by omega, by omega⟩ ?_) | (refine XGet.vecV 1 (by omega) rfl (by omega) ?_) | ((refine XGet.blsJ k (by omega) rfl (by omega) ?_); rw [hr1]) | ((refine XPut.bls n (by omega) rfl (by omega) ?_); rw [updV_updV])); conv => whnf) | fail
              exact XAgain.go (k + 1) (by omega) (by omega) (by rw [any_next, hv, hr1, hr2] <;> rfl) ⟨rfl, rfl, rfl, rfl, rfl, rfl, rfl, rfl, rfl, trivial⟩
            | true =>
              refine Walk.norm tab_ok [] [(1, _), (2, _), (3, _), (6, _), (7, _), (8, _), (9, _), (10, _), (11, _)] ⟨rfl, rfl, rfl, rfl, rfl, rfl, rfl, rfl, rfl, trivial⟩ ?_
              conv => whnf
              repeat' first | ((first | (with_reducible apply XBr.tt) | (with_reducible apply XBr.ff) | (with_reducible refine XInt.i64 (by omega) (by omega) ?_) | (refine XHold.mk ⟨hbl _, rfl, by omega, by omega⟩ ?_) | ((refine XGet.blsJ n (by omega) rfl (by omega) ?_); rw [updV_same]) | (refine XHold.mk ⟨vecF_len _ _, rfl, by omega, by omega⟩ ?_) | (refine XGet.vecV 1 (by omega) rfl (by omega) ?_) | ((refine XGet.blsJ k (by omega) rfl (by omega) ?_); rw [hr1]) | (refine XIx.vecV 1 (by omega) (by omega) rfl ?_) | (refine XIx.vecV k (by omega) (by omega) rfl ?_) | ((refine XIx.bls n (by omega) (by omega) ?_); rw [hr2]) | ((refine XPut.bls n (by omega) rfl (by omega) ?_); rw [updV_updV])); conv => whnf) | fail
              exact XAgain.go (k + 1) (by omega) (by omega) (by rw [any_next, hv, hr1, hr2] <;> rfl) ⟨rfl, rfl, rfl, rfl, rfl, rfl, rfl, rfl, rfl, trivial⟩
        · obtain rfl : k = (b.room + 1).toNat := by omega
          obtain ⟨u, hu⟩ : ∃ u, ((List.range (b.room + 1).toNat).any fun k => psR b p 1 k && nxF b 1 k n) = u := ⟨_, rfl⟩
          rw [hu]
          conv => whnf
          repeat' first | ((with_reducible apply XBr.tt); conv => whnf) | ((with_reducible apply XBr.dec) <;> (intro h; first | (exfalso; omega) | ((try simp only [List.length_map] at h); first | (exfalso; omega) | (conv => whnf)))) | fail
          obtain ⟨ag, hagv⟩ : ∃ ag, agB b p 2 n = ag := ⟨_, rfl⟩
          rw [hagv] at hag
          cases u with
          | false =>
            repeat' first | ((first | (with_reducible apply XBr.ff) | (with_reducible refine XInt.i64 (by omega) (by omega) ?_) | (refine XHold.mk ⟨hbl _, rfl, by omega, by omega⟩ ?_) | ((refine XGet.blsJ n (by omega) rfl (by omega) ?_); rw [updV_same]) | (refine XPut.bls n (by omega) rfl (by omega) ?_)); conv => whnf) | fail
            refine XAgain.go (n + 1) (by omega) (by omega) ?_ ⟨rfl, rfl, rfl, rfl, rfl, rfl, rfl, rfl, trivial⟩
            rw [← row_next false (show false = psR b p 2 n by rw [hps, hu]; rfl)] <;> rfl
          | true =>
            repeat' first | ((first | (with_reducible apply XBr.tt) | (with_reducible refine XInt.i64 (by omega) (by omega) ?_) | (refine XHold.mk ⟨hbl _, rfl, by omega, by omega⟩ ?_) | ((refine XGet.blsJ n (by omega) rfl (by omega) ?_); rw [updV_same]) | (refine XPut.bls n (by omega) rfl (by omega) ?_) | (refine XCall.ret hag ?_)); conv => whnf) | fail
            refine XAgain.go (n + 1) (by omega) (by omega) ?_ ⟨rfl, rfl, rfl, rfl, rfl, rfl, rfl, rfl, trivial⟩
            rw [← row_next true (show ag = psR b p 2 n by rw [hps, hu, hagv]; rfl)] <;> rfl
      · obtain rfl : n = (b.room + 1).toNat := by omega
        rw [show (bls (b.room + 1).toNat fun q => if q < (b.room + 1).toNat then psR b p 2 q else false) = bls (b.room + 1).toNat (psR b p 2) from bls_congr fun q hq => if_pos hq]
        conv => whnf
        repeat' first | ((with_reducible apply XBr.dec) <;> (intro h; first | (exfalso; omega) | ((try simp only [List.length_map] at h); first | (exfalso; omega) | (conv => whnf)))) | ((with_reducible refine XInt.i64 (by omega) (by omega) ?_); conv => whnf) | ((with_reducible refine XHold.mk ?_ ?_); (first | omega | rfl | decide | exact ⟨rfl, by decide, rfl⟩ | exact wideI _ | exact widePr _ | exact wideSk _ | (unfold Room; constructor <;> ((try simp) <;> omega)) | exact ⟨rfl, by simp only [List.length_map], by unfold Room; constructor <;> ((try simp) <;> omega)⟩ | exact ⟨by omega, by omega, by unfold Room; constructor <;> ((try simp) <;> omega)⟩); conv => whnf) | ((refine XHold.mk ⟨rfl, vecF_len _ _, by unfold Room; constructor <;> (simp only [List.length_cons, List.length_nil]; omega)⟩ ?_); conv => whnf) | fail
        refine XAgain.go 3 (by omega) (by omega) ?_ ⟨rfl, rfl, rfl, rfl, rfl, rfl, trivial⟩
        show psOut (b.room + 1).toNat (2 + 1) :: psRows b p (2 + 1) = _
        unfold psOut
        rw [vecF_succ]; rfl
    · skip
      conv => whnf
      repeat' first | ((with_reducible apply XBr.dec) <;> (intro h; first | (exfalso; omega) | ((try simp only [List.length_map] at h); first | (exfalso; omega) | (conv => whnf)))) | ((with_reducible refine XInt.i64 (by omega) (by omega) ?_); conv => whnf) | ((with_reducible refine XHold.mk ?_ ?_); (first | omega | rfl | decide | exact ⟨rfl, by decide, rfl⟩ | exact wideI _ | exact widePr _ | exact wideSk _ | (unfold Room; constructor <;> ((try simp) <;> omega)) | exact ⟨rfl, by simp only [List.length_map], by unfold Room; constructor <;> ((try simp) <;> omega)⟩ | exact ⟨by omega, by omega, by unfold Room; constructor <;> ((try simp) <;> omega)⟩); conv => whnf) | fail
      refine Walk.loopK tab_ok [] [(1, _), (2, _), (3, _), (6, _), (7, _), (8, _), (9, .gr 4 (b.room + 1).toNat)] ⟨rfl, rfl, rfl, rfl, rfl, rfl, rfl, trivial⟩ (fun n : Nat => (n : Int) ≤ b.room + 1) (fun n => [(10, natA n)]) (fun n => psOut (b.room + 1).toNat 3 :: (psRows b p 3 ++ [.grow 4 false (bls (b.room + 1).toNat fun q => if q < n then psR b p 3 q else false)])) (fun n => (b.room + 1).toNat - n) 0 (by omega) (by rw [← hz0 3] <;> rfl) ⟨rfl, trivial⟩ ?_
      intro n hn
      have hbl := fun F => bls_len (b.room + 1).toNat F
      have hag := refAgrees1_c b nl p 3 n hs
      by_cases hlt : (n : Int) ≤ b.room
      · have hps : psR b p 3 n = ((List.range (b.room + 1).toNat).any (fun k => psR b p 2 k && nxF b 2 k n) && agB b p 3 n) := rfl
        conv => whnf
        repeat' first | ((with_reducible apply XBr.dec) <;> (intro h; first | (exfalso; omega) | ((try simp only [List.length_map] at h); first | (exfalso; omega) | (conv => whnf)))) | ((with_reducible apply XBr.beq) <;> (intro h; first | (exfalso; omega) | (conv => whnf))) | fail
        refine Walk.loopK tab_ok [] [(1, _), (2, _), (3, _), (6, _), (7, _), (8, _), (9, _), (10, _)] ⟨rfl, rfl, rfl, rfl, rfl, rfl, rfl, rfl, trivial⟩ (fun k : Nat => (k : Int) ≤ b.room + 1) (fun k => [(11, natA k)]) (fun k => psOut (b.room + 1).toNat 3 :: (psRows b p 3 ++ [.grow 4 false (bls (b.room + 1).toNat (updV (fun q => if q < n then psR b p 3 q else false) n ((List.range k).any fun k => psR b p 2 k && nxF b 2 k n)))])) (fun k => (b.room + 1).toNat - k) 0 (by omega) (by rw [show ((List.range 0).any fun k => psR b p 2 k && nxF b 2 k n) = false from rfl, row_first] <;> rfl) ⟨rfl, trivial⟩ ?_
        intro k hk
        by_cases hltk : (k : Int) ≤ b.room
        · obtain ⟨r1, hr1⟩ : ∃ r1, psR b p 2 k = r1 := ⟨_, rfl⟩
          obtain ⟨r2, hr2⟩ : ∃ r2, nxF b 2 k n = r2 := ⟨_, rfl⟩
          obtain ⟨v, hv⟩ : ∃ v, ((List.range k).any fun k => psR b p 2 k && nxF b 2 k n) = v := ⟨_, rfl⟩
          rw [hv]
          conv => whnf
          repeat' first | ((with_reducible apply XBr.tt); conv => whnf) | ((with_reducible apply XBr.dec) <;> (intro h; first | (exfalso; omega) | ((try simp only [List.length_map] at h); first | (exfalso; omega) | (conv => whnf)))) | fail
          cases v with
          | true =>
            refine Walk.norm tab_ok [] [(1, _), (2, _), (3, _), (6, _), (7, _), (8, _), (9, _), (10, _), (11, _)] ⟨rfl, rfl, rfl, rfl, rfl, rfl, rfl, rfl, rfl, trivial⟩ ?_
            conv => whnf
            repeat' first | ((first | (with_reducible apply XBr.tt) | (with_reducible refine XInt.i64 (by omega) (by omega) ?_) | (refine XHold.mk ⟨hbl _, rfl, by omega, by omega⟩ ?_) | ((refine XGet.blsJ n (by omega) rfl (by omega) ?_); rw [updV_same]) | ((refine XPut.bls n (by omega) rfl (by omega) ?_); rw [updV_updV])); conv => whnf) | fail
            exact XAgain.go (k + 1) (by omega) (by omega) (by rw [any_next, hv, hr1, hr2] <;> rfl) ⟨rfl, rfl, rfl, rfl, rfl, rfl, rfl, rfl, rfl, trivial⟩
          | false =>
            cases r1 with
            | false =>
              refine Walk.norm tab_ok [] [(1, _), (2, _), (3, _), (6, _), (7, _), (8, _), (9, _), (10, _), (11, _)] ⟨rfl, rfl, rfl, rfl, rfl, rfl, rfl, rfl, rfl, trivial⟩ ?_
              conv => whnf
              repeat' first | ((first | (with_reducible apply XBr.ff) | (with_reducible refine XInt.i64 (by omega) (by omega) ?_) | (refine XHold.mk ⟨hbl _, rfl, by omega, by omega⟩ ?_) | ((refine XGet.blsJ n (by omega) rfl (by omega) ?_); rw [updV_same]) | (refine XHold.mk ⟨vecF_len _ _, rfl, by omega, by omega⟩ ?_) | (refine XGet.vecV 2 (by omega) rfl (by omega) ?_) | ((refine XGet.blsJ k (by omega) rfl (by omega) ?_); rw [hr1]) | ((refine XPut.bls n (by omega) rfl (by omega) ?_); rw [updV_updV])); conv => whnf) | fail
              exact XAgain.go (k + 1) (by omega) (by omega) (by rw [any_next, hv, hr1, hr2] <;> rfl) ⟨rfl, rfl, rfl, rfl, rfl, rfl, rfl, rfl, rfl, trivial⟩
            | true =>
              refine Walk.norm tab_ok [] [(1, _), (2, _), (3, _), (6, _), (7, _), (8, _), (9, _), (10, _), (11, _)] ⟨rfl, rfl, rfl, rfl, rfl, rfl, rfl, rfl, rfl, trivial⟩ ?_
              conv => whnf
              repeat' first | ((first | (with_reducible apply XBr.tt) | (with_reducible apply XBr.ff) | (with_reducible refine XInt.i64 (by omega) (by omega) ?_) | (refine XHold.mk ⟨hbl _, rfl, by omega, by omega⟩ ?_) | ((refine XGet.blsJ n (by omega) rfl (by omega) ?_); rw [updV_same]) | (refine XHold.mk ⟨vecF_len _ _, rfl, by omega, by omega⟩ ?_) | (refine XGet.vecV 2 (by omega) rfl (by omega) ?_) | ((refine XGet.blsJ k (by omega) rfl (by omega) ?_); rw [hr1]) | (refine XIx.vecV 2 (by omega) (by omega) rfl ?_) | (refine XIx.vecV k (by omega) (by omega) rfl ?_) | ((refine XIx.bls n (by omega) (by omega) ?_); rw [hr2]) | ((refine XPut.bls n (by omega) rfl (by omega) ?_); rw [updV_updV])); conv => whnf) | fail
              exact XAgain.go (k + 1) (by omega) (by omega) (by rw [any_next, hv, hr1, hr2] <;> rfl) ⟨rfl, rfl, rfl, rfl, rfl, rfl, rfl, rfl, rfl, trivial⟩
        · obtain rfl : k = (b.room + 1).toNat := by omega
          obtain ⟨u, hu⟩ : ∃ u, ((List.range (b.room + 1).toNat).any fun k => psR b p 2 k && nxF b 2 k n) = u := ⟨_, rfl⟩
          rw [hu]
          conv => whnf
          repeat' first | ((with_reducible apply XBr.tt); conv => whnf) | ((with_reducible apply XBr.dec) <;> (intro h; first | (exfalso; omega) | ((try simp only [List.length_map] at h); first | (exfalso; omega) | (conv => whnf)))) | fail
          obtain ⟨ag, hagv⟩ : ∃ ag, agB b p 3 n = ag := ⟨_, rfl⟩
          rw [hagv] at hag
          cases u with
          | false =>
            repeat' first | ((first | (with_reducible apply XBr.ff) | (with_reducible refine XInt.i64 (by omega) (by omega) ?_) | (refine XHold.mk ⟨hbl _, rfl, by omega, by omega⟩ ?_) | ((refine XGet.blsJ n (by omega) rfl (by omega) ?_); rw [updV_same]) | (refine XPut.bls n (by omega) rfl (by omega) ?_)); conv => whnf) | fail
            refine XAgain.go (n + 1) (by omega) (by omega) ?_ ⟨rfl, rfl, rfl, rfl, rfl, rfl, rfl, rfl, trivial⟩
            rw [← row_next false (show false = psR b p 3 n by rw [hps, hu]; rfl)] <;> rfl
          | true =>
            repeat' first | ((first | (with_reducible apply XBr.tt) | (with_reducible refine XInt.i64 (by omega) (by omega) ?_) | (refine XHold.mk ⟨hbl _, rfl, by omega, by omega⟩ ?_) | ((refine XGet.blsJ n (by omega) rfl (by omega) ?_); rw [updV_same]) | (refine XPut.bls n (by omega) rfl (by omega) ?_) | (refine XCall.ret hag ?_)); conv => whnf) | fail
            refine XAgain.go (n + 1) (by omega) (by omega) ?_ ⟨rfl, rfl, rfl, rfl, rfl, rfl, rfl, rfl, trivial⟩
            rw [← row_next true (show ag = psR b p 3 n by rw [hps, hu, hagv]; rfl)] <;> rfl
      · obtain rfl : n = (b.room + 1).toNat := by omega
        rw [show (bls (b.room + 1).toNat fun q => if q < (b.room + 1).toNat then psR b p 3 q else false) = bls (b.room + 1).toNat (psR b p 3) from bls_congr fun q hq => if_pos hq]
        conv => whnf
        repeat' first | ((with_reducible apply XBr.dec) <;> (intro h; first | (exfalso; omega) | ((try simp only [List.length_map] at h); first | (exfalso; omega) | (conv => whnf)))) | ((with_reducible refine XInt.i64 (by omega) (by omega) ?_); conv => whnf) | ((with_reducible refine XHold.mk ?_ ?_); (first | omega | rfl | decide | exact ⟨rfl, by decide, rfl⟩ | exact wideI _ | exact widePr _ | exact wideSk _ | (unfold Room; constructor <;> ((try simp) <;> omega)) | exact ⟨rfl, by simp only [List.length_map], by unfold Room; constructor <;> ((try simp) <;> omega)⟩ | exact ⟨by omega, by omega, by unfold Room; constructor <;> ((try simp) <;> omega)⟩); conv => whnf) | ((refine XHold.mk ⟨rfl, vecF_len _ _, by unfold Room; constructor <;> (simp only [List.length_cons, List.length_nil]; omega)⟩ ?_); conv => whnf) | fail
        refine XAgain.go 4 (by omega) (by omega) ?_ ⟨rfl, rfl, rfl, rfl, rfl, rfl, trivial⟩
        show psOut (b.room + 1).toNat (3 + 1) :: psRows b p (3 + 1) = _
        unfold psOut
        rw [vecF_succ]; rfl
    · skip
      conv => whnf
      repeat' first | ((with_reducible apply XBr.dec) <;> (intro h; first | (exfalso; omega) | ((try simp only [List.length_map] at h); first | (exfalso; omega) | (conv => whnf)))) | ((with_reducible refine XInt.i64 (by omega) (by omega) ?_); conv => whnf) | ((with_reducible refine XHold.mk ?_ ?_); (first | omega | rfl | decide | exact ⟨rfl, by decide, rfl⟩ | exact wideI _ | exact widePr _ | exact wideSk _ | (unfold Room; constructor <;> ((try simp) <;> omega)) | exact ⟨rfl, by simp only [List.length_map], by unfold Room; constructor <;> ((try simp) <;> omega)⟩ | exact ⟨by omega, by omega, by unfold Room; constructor <;> ((try simp) <;> omega)⟩); conv => whnf) | fail
      refine Walk.loopK tab_ok [] [(1, _), (2, _), (3, _), (6, _), (7, _), (8, _), (9, .gr 5 (b.room + 1).toNat)] ⟨rfl, rfl, rfl, rfl, rfl, rfl, rfl, trivial⟩ (fun n : Nat => (n : Int) ≤ b.room + 1) (fun n => [(10, natA n)]) (fun n => psOut (b.room + 1).toNat 4 :: (psRows b p 4 ++ [.grow 4 false (bls (b.room + 1).toNat fun q => if q < n then psR b p 4 q else false)])) (fun n => (b.room + 1).toNat - n) 0 (by omega) (by rw [← hz0 4] <;> rfl) ⟨rfl, trivial⟩ ?_
      intro n hn
      have hbl := fun F => bls_len (b.room + 1).toNat F
      have hag := refAgrees1_c b nl p 4 n hs
      by_cases hlt : (n : Int) ≤ b.room
      · have hps : psR b p 4 n = ((List.range (b.room + 1).toNat).any (fun k => psR b p 3 k && nxF b 3 k n) && agB b p 4 n) := rfl
        conv => whnf
        repeat' first | ((with_reducible apply XBr.dec) <;> (intro h; first | (exfalso; omega) | ((try simp only [List.length_map] at h); first | (exfalso; omega) | (conv => whnf)))) | ((with_reducible apply XBr.beq) <;> (intro h; first | (exfalso; omega) | (conv => whnf))) | fail
        refine Walk.loopK tab_ok [] [(1, _), (2, _), (3, _), (6, _), (7, _), (8, _), (9, _), (10, _)] ⟨rfl, rfl, rfl, rfl, rfl, rfl, rfl, rfl, trivial⟩ (fun k : Nat => (k : Int) ≤ b.room + 1) (fun k => [(11, natA k)]) (fun k => psOut (b.room + 1).toNat 4 :: (psRows b p 4 ++ [.grow 4 false (bls (b.room + 1).toNat (updV (fun q => if q < n then psR b p 4 q else false) n ((List.range k).any fun k => psR b p 3 k && nxF b 3 k n)))])) (fun k => (b.room + 1).toNat - k) 0 (by omega) (by rw [show ((List.range 0).any fun k => psR b p 3 k && nxF b 3 k n) = false from rfl, row_first] <;> rfl) ⟨rfl, trivial⟩ ?_
        intro k hk
        by_cases hltk : (k : Int) ≤ b.room
        · obtain ⟨r1, hr1⟩ : ∃ r1, psR b p 3 k = r1 := ⟨_, rfl⟩
          obtain ⟨r2, hr2⟩ : ∃ r2, nxF b 3 k n = r2 := ⟨_, rfl⟩
          obtain ⟨v, hv⟩ : ∃ v, ((List.range k).any fun k => psR b p 3 k && nxF b 3 k n) = v := ⟨_, rfl⟩
          rw [hv]
          conv => whnf
          repeat' first | ((with_reducible apply XBr.tt); conv => whnf) | ((with_reducible apply XBr.dec) <;> (intro h; first | (exfalso; omega) | ((try simp only [List.length_map] at h); first | (exfalso; omega) | (conv => whnf)))) | fail
          cases v with
          | true =>
            refine Walk.norm tab_ok [] [(1, _), (2, _), (3, _), (6, _), (7, _), (8, _), (9, _), (10, _), (11, _)] ⟨rfl, rfl, rfl, rfl, rfl, rfl, rfl, rfl, rfl, trivial⟩ ?_
            conv => whnf
            repeat' first | ((first | (with_reducible apply XBr.tt) | (with_reducible refine XInt.i64 (by omega) (by omega) ?_) | (refine XHold.mk ⟨hbl _, rfl, by omega, by omega⟩ ?_) | ((refine XGet.blsJ n (by omega) rfl (by omega) ?_); rw [updV_same]) | ((refine XPut.bls n (by omega) rfl (by omega) ?_); rw [updV_updV])); conv => whnf) | fail
            exact XAgain.go (k + 1) (by omega) (by omega) (by rw [any_next, hv, hr1, hr2] <;> rfl) ⟨rfl, rfl, rfl, rfl, rfl, rfl, rfl, rfl, rfl, trivial⟩
          | false =>
            cases r1 with
            | false =>
              refine Walk.norm tab_ok [] [(1, _), (2, _), (3, _), (6, _), (7, _), (8, _), (9, _), (10, _), (11, _)] ⟨rfl, rfl, rfl, rfl, rfl, rfl, rfl, rfl, rfl, trivial⟩ ?_
              conv => whnf
              repeat' first | ((first | (with_reducible apply XBr.ff) | (with_reducible refine XInt.i64 (by omega) (by omega) ?_) | (refine XHold.mk ⟨hbl _, rfl, by omega, by omega⟩ ?_) | ((refine XGet.blsJ n (by omega) rfl (by omega) ?_); rw [updV_same]) | (refine XHold.mk ⟨vecF_len _ _, rfl, by omega, by omega⟩ ?_) | (refine XGet.vecV 3 (by omega) rfl (by omega) ?_) | ((refine XGet.blsJ k (by omega) rfl (by omega) ?_); rw [hr1]) | ((refine XPut.bls n (by omega) rfl (by omega) ?_); rw [updV_updV])); conv => whnf) | fail
              exact XAgain.go (k + 1) (by omega) (by omega) (by rw [any_next, hv, hr1, hr2] <;> rfl) ⟨rfl, rfl, rfl, rfl, rfl, rfl, rfl, rfl, rfl, trivial⟩
            | true =>
              refine Walk.norm tab_ok [] [(1, _), (2, _), (3, _), (6, _), (7, _), (8, _), (9, _), (10, _), (11, _)] ⟨rfl, rfl, rfl, rfl, rfl, rfl, rfl, rfl, rfl, trivial⟩ ?_
              conv => whnf
              repeat' first | ((first | (with_reducible apply XBr.tt) | (with_reducible apply XBr.ff) | (with_reducible refine XInt.i64 (by omega) (by omega) ?_) | (refine XHold.mk ⟨hbl _, rfl, by omega, by omega⟩ ?_) | ((refine XGet.blsJ n (by omega) rfl (by omega) ?_); rw [updV_same]) | (refine XHold.mk ⟨vecF_len _ _, rfl, by omega, by omega⟩ ?_) | (refine XGet.vecV 3 (by omega) rfl (by omega) ?_) | ((refine XGet.blsJ k (by omega) rfl (by omega) ?_); rw [hr1]) | (refine XIx.vecV 3 (by omega) (by omega) rfl ?_) | (refine XIx.vecV k (by omega) (by omega) rfl ?_) | ((refine XIx.bls n (by omega) (by omega) ?_); rw [hr2]) | ((refine XPut.bls n (by omega) rfl (by omega) ?_); rw [updV_updV])); conv => whnf) | fail
              exact XAgain.go (k + 1) (by omega) (by omega) (by rw [any_next, hv, hr1, hr2] <;> rfl) ⟨rfl, rfl, rfl, rfl, rfl, rfl, rfl, rfl, rfl, trivial⟩
        · obtain rfl : k = (b.room + 1).toNat := by omega
          obtain ⟨u, hu⟩ : ∃ u, ((List.range (b.room + 1).toNat).any fun k => psR b p 3 k && nxF b 3 k n) = u := ⟨_, rfl⟩
          rw [hu]
          conv => whnf
          repeat' first | ((with_reducible apply XBr.tt); conv => whnf) | ((with_reducible apply XBr.dec) <;> (intro h; first | (exfalso; omega) | ((try simp only [List.length_map] at h); first | (exfalso; omega) | (conv => whnf)))) | fail
          obtain ⟨ag, hagv⟩ : ∃ ag, agB b p 4 n = ag := ⟨_, rfl⟩
          rw [hagv] at hag
          cases u with
          | false =>
            repeat' first | ((first | (with_reducible apply XBr.ff) | (with_reducible refine XInt.i64 (by omega) (by omega) ?_) | (refine XHold.mk ⟨hbl _, rfl, by omega, by omega⟩ ?_) | ((refine XGet.blsJ n (by omega) rfl (by omega) ?_); rw [updV_same]) | (refine XPut.bls n (by omega) rfl (by omega) ?_)); conv => whnf) | fail
            refine XAgain.go (n + 1) (by omega) (by omega) ?_ ⟨rfl, rfl, rfl, rfl, rfl, rfl, rfl, rfl, trivial⟩
            rw [← row_next false (show false = psR b p 4 n by rw [hps, hu]; rfl)] <;> rfl
          | true =>
            repeat' first | ((first | (with_reducible apply XBr.tt) | (with_reducible refine XInt.i64 (by omega) (by omega) ?_) | (refine XHold.mk ⟨hbl _, rfl, by omega, by omega⟩ ?_) | ((refine XGet.blsJ n (by omega) rfl (by omega) ?_); rw [updV_same]) | (refine XPut.bls n (by omega) rfl (by omega) ?_) | (refine XCall.ret hag ?_)); conv => whnf) | fail
            refine XAgain.go (n + 1) (by omega) (by omega) ?_ ⟨rfl, rfl, rfl, rfl, rfl, rfl, rfl, rfl, trivial⟩
            rw [← row_next true (show ag = psR b p 4 n by rw [hps, hu, hagv]; rfl)] <;> rfl
      · obtain rfl : n = (b.room + 1).toNat := by omega
        rw [show (bls (b.room + 1).toNat fun q => if q < (b.room + 1).toNat then psR b p 4 q else false) = bls (b.room + 1).toNat (psR b p 4) from bls_congr fun q hq => if_pos hq]
        conv => whnf
        repeat' first | ((with_reducible apply XBr.dec) <;> (intro h; first | (exfalso; omega) | ((try simp only [List.length_map] at h); first | (exfalso; omega) | (conv => whnf)))) | ((with_reducible refine XInt.i64 (by omega) (by omega) ?_); conv => whnf) | ((with_reducible refine XHold.mk ?_ ?_); (first | omega | rfl | decide | exact ⟨rfl, by decide, rfl⟩ | exact wideI _ | exact widePr _ | exact wideSk _ | (unfold Room; constructor <;> ((try simp) <;> omega)) | exact ⟨rfl, by simp only [List.length_map], by unfold Room; constructor <;> ((try simp) <;> omega)⟩ | exact ⟨by omega, by omega, by unfold Room; constructor <;> ((try simp) <;> omega)⟩); conv => whnf) | ((refine XHold.mk ⟨rfl, vecF_len _ _, by unfold Room; constructor <;> (simp only [List.length_cons, List.length_nil]; omega)⟩ ?_); conv => whnf) | fail
        refine XAgain.go 5 (by omega) (by omega) ?_ ⟨rfl, rfl, rfl, rfl, rfl, rfl, trivial⟩
        show psOut (b.room + 1).toNat (4 + 1) :: psRows b p (4 + 1) = _
        unfold psOut
        rw [vecF_succ]; rfl
    · skip
      conv => whnf
      repeat' first | ((with_reducible apply XBr.dec) <;> (intro h; first | (exfalso; omega) | ((try simp only [List.length_map] at h); first | (exfalso; omega) | (conv => whnf)))) | ((with_reducible refine XInt.i64 (by omega) (by omega) ?_); conv => whnf) | ((with_reducible refine XHold.mk ?_ ?_); (first | omega | rfl | decide | exact ⟨rfl, by decide, rfl⟩ | exact wideI _ | exact widePr _ | exact wideSk _ | (unfold Room; constructor <;> ((try simp) <;> omega)) | exact ⟨rfl, by simp only [List.length_map], by unfold Room; constructor <;> ((try simp) <;> omega)⟩ | exact ⟨by omega, by omega, by unfold Room; constructor <;> ((try simp) <;> omega)⟩); conv => whnf) | fail
      refine Walk.loopK tab_ok [] [(1, _), (2, _), (3, _), (6, _), (7, _), (8, _), (9, .gr 6 (b.room + 1).toNat)] ⟨rfl, rfl, rfl, rfl, rfl, rfl, rfl, trivial⟩ (fun n : Nat => (n : Int) ≤ b.room + 1) (fun n => [(10, natA n)]) (fun n => psOut (b.room + 1).toNat 5 :: (psRows b p 5 ++ [.grow 4 false (bls (b.room + 1).toNat fun q => if q < n then psR b p 5 q else false)])) (fun n => (b.room + 1).toNat - n) 0 (by omega) (by rw [← hz0 5] <;> rfl) ⟨rfl, trivial⟩ ?_
      intro n hn
      have hbl := fun F => bls_len (b.room + 1).toNat F
      have hag := refAgrees1_c b nl p 5 n hs
      by_cases hlt : (n : Int) ≤ b.room
      · have hps : psR b p 5 n = ((List.range (b.room + 1).toNat).any (fun k => psR b p 4 k && nxF b 4 k n) && agB b p 5 n) := rfl
        conv => whnf
        repeat' first | ((with_reducible apply XBr.dec) <;> (intro h; first | (exfalso; omega) | ((try simp only [List.length_map] at h); first | (exfalso; omega) | (conv => whnf)))) | ((with_reducible apply XBr.beq) <;> (intro h; first | (exfalso; omega) | (conv => whnf))) | fail
        refine Walk.loopK tab_ok [] [(1, _), (2, _), (3, _), (6, _), (7, _), (8, _), (9, _), (10, _)] ⟨rfl, rfl, rfl, rfl, rfl, rfl, rfl, rfl, trivial⟩ (fun k : Nat => (k : Int) ≤ b.room + 1) (fun k => [(11, natA k)]) (fun k => psOut (b.room + 1).toNat 5 :: (psRows b p 5 ++ [.grow 4 false (bls (b.room + 1).toNat (updV (fun q => if q < n then psR b p 5 q else false) n ((List.range k).any fun k => psR b p 4 k && nxF b 4 k n)))])) (fun k => (b.room + 1).toNat - k) 0 (by omega) (by rw [show ((List.range 0).any fun k => psR b p 4 k && nxF b 4 k n) = false from rfl, row_first] <;> rfl) ⟨rfl, trivial⟩ ?_
        intro k hk
        by_cases hltk : (k : Int) ≤ b.room
        · obtain ⟨r1, hr1⟩ : ∃ r1, psR b p 4 k = r1 := ⟨_, rfl⟩
          obtain ⟨r2, hr2⟩ : ∃ r2, nxF b 4 k n = r2 := ⟨_, rfl⟩
          obtain ⟨v, hv⟩ : ∃ v, ((List.range k).any fun k => psR b p 4 k && nxF b 4 k n) = v := ⟨_, rfl⟩
          rw [hv]
          conv => whnf
          repeat' first | ((with_reducible apply XBr.tt); conv => whnf) | ((with_reducible apply XBr.dec) <;> (intro h; first | (exfalso; omega) | ((try simp only [List.length_map] at h); first | (exfalso; omega) | (conv => whnf)))) | fail
          cases v with
          | true =>
            refine Walk.norm tab_ok [] [(1, _), (2, _), (3, _), (6, _), (7, _), (8, _), (9, _), (10, _), (11, _)] ⟨rfl, rfl, rfl, rfl, rfl, rfl, rfl, rfl, rfl, trivial⟩ ?_
            conv => whnf
            repeat' first | ((first | (with_reducible apply XBr.tt) | (with_reducible refine XInt.i64 (by omega) (by omega) ?_) | (refine XHold.mk ⟨hbl _, rfl, by omega, by omega⟩ ?_) | ((refine XGet.blsJ n (by omega) rfl (by omega) ?_); rw [updV_same]) | ((refine XPut.bls n (by omega) rfl (by omega) ?_); rw [updV_updV])); conv => whnf) | fail
            exact XAgain.go (k + 1) (by omega) (by omega) (by rw [any_next, hv, hr1, hr2] <;> rfl) ⟨rfl, rfl, rfl, rfl, rfl, rfl, rfl, rfl, rfl, trivial⟩
          | false =>
            cases r1 with
            | false =>
              refine Walk.norm tab_ok [] [(1, _), (2, _), (3, _), (6, _), (7, _), (8, _), (9, _), (10, _), (11, _)] ⟨rfl, rfl, rfl, rfl, rfl, rfl, rfl, rfl, rfl, trivial⟩ ?_
              conv => whnf
              repeat' first | ((first | (with_reducible apply XBr.ff) | (with_reducible refine XInt.i64 (by omega) (by omega) ?_) | (refine XHold.mk ⟨hbl _, rfl, by omega, by omega⟩ ?_) | ((refine XGet.blsJ n (by omega) rfl (by omega) ?_); rw [updV_same]) | (refine XHold.mk ⟨vecF_len _ _, rfl, by omega, by omega⟩ ?_) | (refine XGet.vecV 4 (by omega) rfl (by omega) ?_) | ((refine XGet.blsJ k (by omega) rfl (by omega) ?_); rw [hr1]) | ((refine XPut.bls n (by omega) rfl (by omega) ?_); rw [updV_updV])); conv => whnf) | fail
              exact XAgain.go (k + 1) (by omega) (by omega) (by rw [any_next, hv, hr1, hr2] <;> rfl) ⟨rfl, rfl, rfl, rfl, rfl, rfl, rfl, rfl, rfl, trivial⟩
            | true =>
              refine Walk.norm tab_ok [] [(1, _), (2, _), (3, _), (6, _), (7, _), (8, _), (9, _), (10, _), (11, _)] ⟨rfl, rfl, rfl, rfl, rfl, rfl, rfl, rfl, rfl, trivial⟩ ?_
              conv => whnf
              repeat' first | ((first | (with_reducible apply XBr.tt) | (with_reducible apply XBr.ff) | (with_reducible refine XInt.i64 (by omega) (by omega) ?_) | (refine XHold.mk ⟨hbl _, rfl, by omega, by omega⟩ ?_) | ((refine XGet.blsJ n (by omega) rfl (by omega) ?_); rw [updV_same]) | (refine XHold.mk ⟨vecF_len _ _, rfl, by omega, by omega⟩ ?_) | (refine XGet.vecV 4 (by omega) rfl (by omega) ?_) | ((refine XGet.blsJ k (by omega) rfl (by omega) ?_); rw [hr1]) | (refine XIx.vecV 4 (by omega) (by omega) rfl ?_) | (refine XIx.vecV k (by omega) (by omega) rfl ?_) | ((refine XIx.bls n (by omega) (by omega) ?_); rw [hr2]) | ((refine XPut.bls n (by omega) rfl (by omega) ?_); rw [updV_updV])); conv => whnf) | fail
              exact XAgain.go (k + 1) (by omega) (by omega) (by rw [any_next, hv, hr1, hr2] <;> rfl) ⟨rfl, rfl, rfl, rfl, rfl, rfl, rfl, rfl, rfl, trivial⟩
        · obtain rfl : k = (b.room + 1).toNat := by omega
          obtain ⟨u, hu⟩ : ∃ u, ((List.range (b.room + 1).toNat).any fun k => psR b p 4 k && nxF b 4 k n) = u := ⟨_, rfl⟩
          rw [hu]
          conv => whnf
          repeat' first | ((with_reducible apply XBr.tt); conv => whnf) | ((with_reducible apply XBr.dec) <;> (intro h; first | (exfalso; omega) | ((try simp only [List.length_map] at h); first | (exfalso; omega) | (conv => whnf)))) | fail
          obtain ⟨ag, hagv⟩ : ∃ ag, agB b p 5 n = ag := ⟨_, rfl⟩
          rw [hagv] at hag
          cases u with
          | false =>
            repeat' first | ((first | (with_reducible apply XBr.ff) | (with_reducible refine XInt.i64 (by omega) (by omega) ?_) | (refine XHold.mk ⟨hbl _, rfl, by omega, by omega⟩ ?_) | ((refine XGet.blsJ n (by omega) rfl (by omega) ?_); rw [updV_same]) | (refine XPut.bls n (by omega) rfl (by omega) ?_)); conv => whnf) | fail
            refine XAgain.go (n + 1) (by omega) (by omega) ?_ ⟨rfl, rfl, rfl, rfl, rfl, rfl, rfl, rfl, trivial⟩
            rw [← row_next false (show false = psR b p 5 n by rw [hps, hu]; rfl)] <;> rfl
          | true =>
            repeat' first | ((first | (with_reducible apply XBr.tt) | (with_reducible refine XInt.i64 (by omega) (by omega) ?_) | (refine XHold.mk ⟨hbl _, rfl, by omega, by omega⟩ ?_) | ((refine XGet.blsJ n (by omega) rfl (by omega) ?_); rw [updV_same]) | (refine XPut.bls n (by omega) rfl (by omega) ?_) | (refine XCall.ret hag ?_)); conv => whnf) | fail
            refine XAgain.go (n + 1) (by omega) (by omega) ?_ ⟨rfl, rfl, rfl, rfl, rfl, rfl, rfl, rfl, trivial⟩
            rw [← row_next true (show ag = psR b p 5 n by rw [hps, hu, hagv]; rfl)] <;> rfl
      · obtain rfl : n = (b.room + 1).toNat := by omega
        rw [show (bls (b.room + 1).toNat fun q => if q < (b.room + 1).toNat then psR b p 5 q else false) = bls (b.room + 1).toNat (psR b p 5) from bls_congr fun q hq => if_pos hq]
        conv => whnf
        repeat' first | ((with_reducible apply XBr.dec) <;> (intro h; first | (exfalso; omega) | ((try simp only [List.length_map] at h); first | (exfalso; omega) | (conv => whnf)))) | ((with_reducible refine XInt.i64 (by omega) (by omega) ?_); conv => whnf) | ((with_reducible refine XHold.mk ?_ ?_); (first | omega | rfl | decide | exact ⟨rfl, by decide, rfl⟩ | exact wideI _ | exact widePr _ | exact wideSk _ | (unfold Room; constructor <;> ((try simp) <;> omega)) | exact ⟨rfl, by simp only [List.length_map], by unfold Room; constructor <;> ((try simp) <;> omega)⟩ | exact ⟨by omega, by omega, by unfold Room; constructor <;> ((try simp) <;> omega)⟩); conv => whnf) | ((refine XHold.mk ⟨rfl, vecF_len _ _, by unfold Room; constructor <;> (simp only [List.length_cons, List.length_nil]; omega)⟩ ?_); conv => whnf) | fail
        refine XAgain.go 6 (by omega) (by omega) ?_ ⟨rfl, rfl, rfl, rfl, rfl, rfl, trivial⟩
        show psOut (b.room + 1).toNat (5 + 1) :: psRows b p (5 + 1) = _
        unfold psOut
        rw [vecF_succ]; rfl
    · skip
      conv => whnf
      repeat' first | ((with_reducible apply XBr.dec) <;> (intro h; first | (exfalso; omega) | ((try simp only [List.length_map] at h); first | (exfalso; omega) | (conv => whnf)))) | ((with_reducible refine XInt.i64 (by omega) (by omega) ?_); conv => whnf) | ((with_reducible refine XHold.mk ?_ ?_); (first | omega | rfl | decide | exact ⟨rfl, by decide, rfl⟩ | exact wideI _ | exact widePr _ | exact wideSk _ | (unfold Room; constructor <;> ((try simp) <;> omega)) | exact ⟨rfl, by simp only [List.length_map], by unfold Room; constructor <;> ((try simp) <;> omega)⟩ | exact ⟨by omega, by omega, by unfold Room; constructor <;> ((try simp) <;> omega)⟩); conv => whnf) | fail
      refine Walk.loopK tab_ok [] [(1, _), (2, _), (3, _), (6, _), (7, _), (8, _), (9, .gr 7 (b.room + 1).toNat)] ⟨rfl, rfl, rfl, rfl, rfl, rfl, rfl, trivial⟩ (fun n : Nat => (n : Int) ≤ b.room + 1) (fun n => [(10, natA n)]) (fun n => psOut (b.room + 1).toNat 6 :: (psRows b p 6 ++ [.grow 4 false (bls (b.room + 1).toNat fun q => if q < n then psR b p 6 q else false)])) (fun n => (b.room + 1).toNat - n) 0 (by omega) (by rw [← hz0 6] <;> rfl) ⟨rfl, trivial⟩ ?_
      intro n hn
      have hbl := fun F => bls_len (b.room + 1).toNat F
      have hag := refAgrees1_c b nl p 6 n hs
      by_cases hlt : (n : Int) ≤ b.room
      · have hps : psR b p 6 n = ((List.range (b.room + 1).toNat).any (fun k => psR b p 5 k && nxF b 5 k n) && agB b p 6 n) := rfl
        conv => whnf
        repeat' first | ((with_reducible apply XBr.dec) <;> (intro h; first | (exfalso; omega) | ((try simp only [List.length_map] at h); first | (exfalso; omega) | (conv => whnf)))) | ((with_reducible apply XBr.beq) <;> (intro h; first | (exfalso; omega) | (conv => whnf))) | fail
        refine Walk.loopK tab_ok [] [(1, _), (2, _), (3, _), (6, _), (7, _), (8, _), (9, _), (10, _)] ⟨rfl, rfl, rfl, rfl, rfl, rfl, rfl, rfl, trivial⟩ (fun k : Nat => (k : Int) ≤ b.room + 1) (fun k => [(11, natA k)]) (fun k => psOut (b.room + 1).toNat 6 :: (psRows b p 6 ++ [.grow 4 false (bls (b.room + 1).toNat (updV (fun q => if q < n then psR b p 6 q else false) n ((List.range k).any fun k => psR b p 5 k && nxF b 5 k n)))])) (fun k => (b.room + 1).toNat - k) 0 (by omega) (by rw [show ((List.range 0).any fun k => psR b p 5 k && nxF b 5 k n) = false from rfl, row_first] <;> rfl) ⟨rfl, trivial⟩ ?_
        intro k hk
        by_cases hltk : (k : Int) ≤ b.room
        · obtain ⟨r1, hr1⟩ : ∃ r1, psR b p 5 k = r1 := ⟨_, rfl⟩
          obtain ⟨r2, hr2⟩ : ∃ r2, nxF b 5 k n = r2 := ⟨_, rfl⟩
          obtain ⟨v, hv⟩ : ∃ v, ((List.range k).any fun k => psR b p 5 k && nxF b 5 k n) = v := ⟨_, rfl⟩
          rw [hv]
          conv => whnf
          repeat' first | ((with_reducible apply XBr.tt); conv => whnf) | ((with_reducible apply XBr.dec) <;> (intro h; first | (exfalso; omega) | ((try simp only [List.length_map] at h); first | (exfalso; omega) | (conv => whnf)))) | fail
          cases v with
          | true =>
            refine Walk.norm tab_ok [] [(1, _), (2, _), (3, _), (6, _), (7, _), (8, _), (9, _), (10, _), (11, _)] ⟨rfl, rfl, rfl, rfl, rfl, rfl, rfl, rfl, rfl, trivial⟩ ?_
            conv => whnf
            repeat' first | ((first | (with_reducible apply XBr.tt) | (with_reducible refine XInt.i64 (by omega) (by omega) ?_) | (refine XHold.mk ⟨hbl _, rfl, by omega, by omega⟩ ?_) | ((refine XGet.blsJ n (by omega) rfl (by omega) ?_); rw [updV_same]) | ((refine XPut.bls n (by omega) rfl (by omega) ?_); rw [updV_updV])); conv => whnf) | fail
            exact XAgain.go (k + 1) (by omega) (by omega) (by rw [any_next, hv, hr1, hr2] <;> rfl) ⟨rfl, rfl, rfl, rfl, rfl, rfl, rfl, rfl, rfl, trivial⟩
          | false =>
            cases r1 with
            | false =>
              refine Walk.norm tab_ok [] [(1, _), (2, _), (3, _), (6, _), (7, _), (8, _), (9, _), (10, _), (11, _)] ⟨rfl, rfl, rfl, rfl, rfl, rfl, rfl, rfl, rfl, trivial⟩ ?_
              conv => whnf
              repeat' first | ((first | (with_reducible apply XBr.ff) | (with_reducible refine XInt.i64 (by omega) (by omega) ?_) | (refine XHold.mk ⟨hbl _, rfl, by omega, by omega⟩ ?_) | ((refine XGet.blsJ n (by omega) rfl (by omega) ?_); rw [updV_same]) | (refine XHold.mk ⟨vecF_len _ _, rfl, by omega, by omega⟩ ?_) | (refine XGet.vecV 5 (by omega) rfl (by omega) ?_) | ((refine XGet.blsJ k (by omega) rfl (by omega) ?_); rw [hr1]) | ((refine XPut.bls n (by omega) rfl (by omega) ?_); rw [updV_updV])); conv => whnf) | fail
              exact XAgain.go (k + 1) (by omega) (by omega) (by rw [any_next, hv, hr1, hr2] <;> rfl) ⟨rfl, rfl, rfl, rfl, rfl, rfl, rfl, rfl, rfl, trivial⟩
            | true =>
              refine Walk.norm tab_ok [] [(1, _), (2, _), (3, _), (6, _), (7, _), (8, _), (9, _), (10, _), (11, _)] ⟨rfl, rfl, rfl, rfl, rfl, rfl, rfl, rfl, rfl, trivial⟩ ?_
              conv => whnf
              repeat' first | ((first | (with_reducible apply XBr.tt) | (with_reducible apply XBr.ff) | (with_reducible refine XInt.i64 (by omega) (by omega) ?_) | (refine XHold.mk ⟨hbl _, rfl, by omega, by omega⟩ ?_) | ((refine XGet.blsJ n (by omega) rfl (by omega) ?_); rw [updV_same]) | (refine XHold.mk ⟨vecF_len _ _, rfl, by omega, by omega⟩ ?_) | (refine XGet.vecV 5 (by omega) rfl (by omega) ?_) | ((refine XGet.blsJ k (by omega) rfl (by omega) ?_); rw [hr1]) | (refine XIx.vecV 5 (by omega) (by omega) rfl ?_) | (refine XIx.vecV k (by omega) (by omega) rfl ?_) | ((refine XIx.bls n (by omega) (by omega) ?_); rw [hr2]) | ((refine XPut.bls n (by omega) rfl (by omega) ?_); rw [updV_updV])); conv => whnf) | fail
              exact XAgain.go (k + 1) (by omega) (by omega) (by rw [any_next, hv, hr1, hr2] <;> rfl) ⟨rfl, rfl, rfl, rfl, rfl, rfl, rfl, rfl, rfl, trivial⟩
        · obtain rfl : k = (b.room + 1).toNat := by omega
          obtain ⟨u, hu⟩ : ∃ u, ((List.range (b.room + 1).toNat).any fun k => psR b p 5 k && nxF b 5 k n) = u := ⟨_, rfl⟩
          rw [hu]
          conv => whnf
          repeat' first | ((with_reducible apply XBr.tt); conv => whnf) | ((with_reducible apply XBr.dec) <;> (intro h; first | (exfalso; omega) | ((try simp only [List.length_map] at h); first | (exfalso; omega) | (conv => whnf)))) | fail
          obtain ⟨ag, hagv⟩ : ∃ ag, agB b p 6 n = ag := ⟨_, rfl⟩
          rw [hagv] at hag
          cases u with
          | false =>
            repeat' first | ((first | (with_reducible apply XBr.ff) | (with_reducible refine XInt.i64 (by omega) (by omega) ?_) | (refine XHold.mk ⟨hbl _, rfl, by omega, by omega⟩ ?_) | ((refine XGet.blsJ n (by omega) rfl (by omega) ?_); rw [updV_same]) | (refine XPut.bls n (by omega) rfl (by omega) ?_)); conv => whnf) | fail
            refine XAgain.go (n + 1) (by omega) (by omega) ?_ ⟨rfl, rfl, rfl, rfl, rfl, rfl, rfl, rfl, trivial⟩
            rw [← row_next false (show false = psR b p 6 n by rw [hps, hu]; rfl)] <;> rfl
          | true =>
            repeat' first | ((first | (with_reducible apply XBr.tt) | (with_reducible refine XInt.i64 (by omega) (by omega) ?_) | (refine XHold.mk ⟨hbl _, rfl, by omega, by omega⟩ ?_) | ((refine XGet.blsJ n (by omega) rfl (by omega) ?_); rw [updV_same]) | (refine XPut.bls n (by omega) rfl (by omega) ?_) | (refine XCall.ret hag ?_)); conv => whnf) | fail
            refine XAgain.go (n + 1) (by omega) (by omega) ?_ ⟨rfl, rfl, rfl, rfl, rfl, rfl, rfl, rfl, trivial⟩
            rw [← row_next true (show ag = psR b p 6 n by rw [hps, hu, hagv]; rfl)] <;> rfl
      · obtain rfl : n = (b.room + 1).toNat := by omega
        rw [show (bls (b.room + 1).toNat fun q => if q < (b.room + 1).toNat then psR b p 6 q else false) = bls (b.room + 1).toNat (psR b p 6) from bls_congr fun q hq => if_pos hq]
        conv => whnf
        repeat' first | ((with_reducible apply XBr.dec) <;> (intro h; first | (exfalso; omega) | ((try simp only [List.length_map] at h); first | (exfalso; omega) | (conv => whnf)))) | ((with_reducible refine XInt.i64 (by omega) (by omega) ?_); conv => whnf) | ((with_reducible refine XHold.mk ?_ ?_); (first | omega | rfl | decide | exact ⟨rfl, by decide, rfl⟩ | exact wideI _ | exact widePr _ | exact wideSk _ | (unfold Room; constructor <;> ((try simp) <;> omega)) | exact ⟨rfl, by simp only [List.length_map], by unfold Room; constructor <;> ((try simp) <;> omega)⟩ | exact ⟨by omega, by omega, by unfold Room; constructor <;> ((try simp) <;> omega)⟩); conv => whnf) | ((refine XHold.mk ⟨rfl, vecF_len _ _, by unfold Room; constructor <;> (simp only [List.length_cons, List.length_nil]; omega)⟩ ?_); conv => whnf) | fail
        refine XAgain.go 7 (by omega) (by omega) ?_ ⟨rfl, rfl, rfl, rfl, rfl, rfl, trivial⟩
        show psOut (b.room + 1).toNat (6 + 1) :: psRows b p (6 + 1) = _
        unfold psOut
        rw [vecF_succ]; rfl
    · skip
      conv => whnf
      repeat' first | ((with_reducible apply XBr.dec) <;> (intro h; first | (exfalso; omega) | ((try simp only [List.length_map] at h); first | (exfalso; omega) | (conv => whnf)))) | ((with_reducible refine XInt.i64 (by omega) (by omega) ?_); conv => whnf) | ((with_reducible refine XHold.mk ?_ ?_); (first | omega | rfl | decide | exact ⟨rfl, by decide, rfl⟩ | exact wideI _ | exact widePr _ | exact wideSk _ | (unfold Room; constructor <;> ((try simp) <;> omega)) | exact ⟨rfl, by simp only [List.length_map], by unfold Room; constructor <;> ((try simp) <;> omega)⟩ | exact ⟨by omega, by omega, by unfold Room; constructor <;> ((try simp) <;> omega)⟩); conv => whnf) | fail
      refine Walk.loopK tab_ok [] [(1, _), (2, _), (3, _), (6, _), (7, _), (8, _), (9, .gr 8 (b.room + 1).toNat)] ⟨rfl, rfl, rfl, rfl, rfl, rfl, rfl, trivial⟩ (fun n : Nat => (n : Int) ≤ b.room + 1) (fun n => [(10, natA n)]) (fun n => psOut (b.room + 1).toNat 7 :: (psRows b p 7 ++ [.grow 4 false (bls (b.room + 1).toNat fun q => if q < n then psR b p 7 q else false)])) (fun n => (b.room + 1).toNat - n) 0 (by omega) (by rw [← hz0 7] <;> rfl) ⟨rfl, trivial⟩ ?_
      intro n hn
      have hbl := fun F => bls_len (b.room + 1).toNat F
      have hag := refAgrees1_c b nl p 7 n hs
      by_cases hlt : (n : Int) ≤ b.room
      · have hps : psR b p 7 n = ((List.range (b.room + 1).toNat).any (fun k => psR b p 6 k && nxF b 6 k n) && agB b p 7 n) := rfl
        conv => whnf
        repeat' first | ((with_reducible apply XBr.dec) <;> (intro h; first | (exfalso; omega) | ((try simp only [List.length_map] at h); first | (exfalso; omega) | (conv => whnf)))) | ((with_reducible apply XBr.beq) <;> (intro h; first | (exfalso; omega) | (conv => whnf))) | fail
        refine Walk.loopK tab_ok [] [(1, _), (2, _), (3, _), (6, _), (7, _), (8, _), (9, _), (10, _)] ⟨rfl, rfl, rfl, rfl, rfl, rfl, rfl, rfl, trivial⟩ (fun k : Nat => (k : Int) ≤ b.room + 1) (fun k => [(11, natA k)]) (fun k => psOut (b.room + 1).toNat 7 :: (psRows b p 7 ++ [.grow 4 false (bls (b.room + 1).toNat (updV (fun q => if q < n then psR b p 7 q else false) n ((List.range k).any fun k => psR b p 6 k && nxF b 6 k n)))])) (fun k => (b.room + 1).toNat - k) 0 (by omega) (by rw [show ((List.range 0).any fun k => psR b p 6 k && nxF b 6 k n) = false from rfl, row_first] <;> rfl) ⟨rfl, trivial⟩ ?_
        intro k hk
        by_cases hltk : (k : Int) ≤ b.room
        · obtain ⟨r1, hr1⟩ : ∃ r1, psR b p 6 k = r1 := ⟨_, rfl⟩
          obtain ⟨r2, hr2⟩ : ∃ r2, nxF b 6 k n = r2 := ⟨_, rfl⟩
          obtain ⟨v, hv⟩ : ∃ v, ((List.range k).any fun k => psR b p 6 k && nxF b 6 k n) = v := ⟨_, rfl⟩
          rw [hv]
          conv => whnf
          repeat' first | ((with_reducible apply XBr.tt); conv => whnf) | ((with_reducible apply XBr.dec) <;> (intro h; first | (exfalso; omega) | ((try simp only [List.length_map] at h); first | (exfalso; omega) | (conv => whnf)))) | fail
          cases v with
          | true =>
            refine Walk.norm tab_ok [] [(1, _), (2, _), (3, _), (6, _), (7, _), (8, _), (9, _), (10, _), (11, _)] ⟨rfl, rfl, rfl, rfl, rfl, rfl, rfl, rfl, rfl, trivial⟩ ?_
            conv => whnf
            repeat' first | ((first | (with_reducible apply XBr.tt) | (with_reducible refine XInt.i64 (by omega) (by omega) ?_) | (refine XHold.mk ⟨hbl _, rfl, by omega, by omega⟩ ?_) | ((refine XGet.blsJ n (by omega) rfl (by omega) ?_); rw [updV_same]) | ((refine XPut.bls n (by omega) rfl (by omega) ?_); rw [updV_updV])); conv => whnf) | fail
            exact XAgain.go (k + 1) (by omega) (by omega) (by rw [any_next, hv, hr1, hr2] <;> rfl) ⟨rfl, rfl, rfl, rfl, rfl, rfl, rfl, rfl, rfl, trivial⟩
          | false =>
            cases r1 with
            | false =>
              refine Walk.norm tab_ok [] [(1, _), (2, _), (3, _), (6, _), (7, _), (8, _), (9, _), (10, _), (11, _)] ⟨rfl, rfl, rfl, rfl, rfl, rfl, rfl, rfl, rfl, trivial⟩ ?_
              conv => whnf
              repeat' first | ((first | (with_reducible apply XBr.ff) | (with_reducible refine XInt.i64 (by omega) (by omega) ?_) | (refine XHold.mk ⟨hbl _, rfl, by omega, by omega⟩ ?_) | ((refine XGet.blsJ n (by omega) rfl (by omega) ?_); rw [updV_same]) | (refine XHold.mk ⟨vecF_len _ _, rfl, by omega, by omega⟩ ?_) | (refine XGet.vecV 6 (by omega) rfl (by omega) ?_) | ((refine XGet.blsJ k (by omega) rfl (by omega) ?_); rw [hr1]) | ((refine XPut.bls n (by omega) rfl (by omega) ?_); rw [updV_updV])); conv => whnf) | fail
              exact XAgain.go (k + 1) (by omega) (by omega) (by rw [any_next, hv, hr1, hr2] <;> rfl) ⟨rfl, rfl, rfl, rfl, rfl, rfl, rfl, rfl, rfl, trivial⟩
            | true =>
              refine Walk.norm tab_ok [] [(1, _), (2, _), (3, _), (6, _), (7, _), (8, _), (9, _), (10, _), (11, _)] ⟨rfl, rfl, rfl, rfl, rfl, rfl, rfl, rfl, rfl, trivial⟩ ?_
              conv => whnf
              repeat' first | ((first | (with_reducible apply XBr.tt) | (with_reducible apply XBr.ff) | (with_reducible refine XInt.i64 (by omega) (by omega) ?_) | (refine XHold.mk ⟨hbl _, rfl, by omega, by omega⟩ ?_) | ((refine XGet.blsJ n (by omega) rfl (by omega) ?_); rw [updV_same]) | (refine XHold.mk ⟨vecF_len _ _, rfl, by omega, by omega⟩ ?_) | (refine XGet.vecV 6 (by omega) rfl (by omega) ?_) | ((refine XGet.blsJ k (by omega) rfl (by omega) ?_); rw [hr1]) | (refine XIx.vecV 6 (by omega) (by omega) rfl ?_) | (refine XIx.vecV k (by omega) (by omega) rfl ?_) | ((refine XIx.bls n (by omega) (by omega) ?_); rw [hr2]) | ((refine XPut.bls n (by omega) rfl (by omega) ?_); rw [updV_updV])); conv => whnf) | fail
              exact XAgain.go (k + 1) (by omega) (by omega) (by rw [any_next, hv, hr1, hr2] <;> rfl) ⟨rfl, rfl, rfl, rfl, rfl, rfl, rfl, rfl, rfl, trivial⟩
        · obtain rfl : k = (b.room + 1).toNat := by omega
          obtain ⟨u, hu⟩ : ∃ u, ((List.range (b.room + 1).toNat).any fun k => psR b p 6 k && nxF b 6 k n) = u := ⟨_, rfl⟩
          rw [hu]
          conv => whnf
          repeat' first | ((with_reducible apply XBr.tt); conv => whnf) | ((with_reducible apply XBr.dec) <;> (intro h; first | (exfalso; omega) | ((try simp only [List.length_map] at h); first | (exfalso; omega) | (conv => whnf)))) | fail
          obtain ⟨ag, hagv⟩ : ∃ ag, agB b p 7 n = ag := ⟨_, rfl⟩
          rw [hagv] at hag
          cases u with
          | false =>
            repeat' first | ((first | (with_reducible apply XBr.ff) | (with_reducible refine XInt.i64 (by omega) (by omega) ?_) | (refine XHold.mk ⟨hbl _, rfl, by omega, by omega⟩ ?_) | ((refine XGet.blsJ n (by omega) rfl (by omega) ?_); rw [updV_same]) | (refine XPut.bls n (by omega) rfl (by omega) ?_)); conv => whnf) | fail
            refine XAgain.go (n + 1) (by omega) (by omega) ?_ ⟨rfl, rfl, rfl, rfl, rfl, rfl, rfl, rfl, trivial⟩
            rw [← row_next false (show false = psR b p 7 n by rw [hps, hu]; rfl)] <;> rfl
          | true =>
            repeat' first | ((first | (with_reducible apply XBr.tt) | (with_reducible refine XInt.i64 (by omega) (by omega) ?_) | (refine XHold.mk ⟨hbl _, rfl, by omega, by omega⟩ ?_) | ((refine XGet.blsJ n (by omega) rfl (by omega) ?_); rw [updV_same]) | (refine XPut.bls n (by omega) rfl (by omega) ?_) | (refine XCall.ret hag ?_)); conv => whnf) | fail
            refine XAgain.go (n + 1) (by omega) (by omega) ?_ ⟨rfl, rfl, rfl, rfl, rfl, rfl, rfl, rfl, trivial⟩
            rw [← row_next true (show ag = psR b p 7 n by rw [hps, hu, hagv]; rfl)] <;> rfl
      · obtain rfl : n = (b.room + 1).toNat := by omega
        rw [show (bls (b.room + 1).toNat fun q => if q < (b.room + 1).toNat then psR b p 7 q else false) = bls (b.room + 1).toNat (psR b p 7) from bls_congr fun q hq => if_pos hq]
        conv => whnf
        repeat' first | ((with_reducible apply XBr.dec) <;> (intro h; first | (exfalso; omega) | ((try simp only [List.length_map] at h); first | (exfalso; omega) | (conv => whnf)))) | ((with_reducible refine XInt.i64 (by omega) (by omega) ?_); conv => whnf) | ((with_reducible refine XHold.mk ?_ ?_); (first | omega | rfl | decide | exact ⟨rfl, by decide, rfl⟩ | exact wideI _ | exact widePr _ | exact wideSk _ | (unfold Room; constructor <;> ((try simp) <;> omega)) | exact ⟨rfl, by simp only [List.length_map], by unfold Room; constructor <;> ((try simp) <;> omega)⟩ | exact ⟨by omega, by omega, by unfold Room; constructor <;> ((try simp) <;> omega)⟩); conv => whnf) | ((refine XHold.mk ⟨rfl, vecF_len _ _, by unfold Room; constructor <;> (simp only [List.length_cons, List.length_nil]; omega)⟩ ?_); conv => whnf) | fail
        refine XAgain.go 8 (by omega) (by omega) ?_ ⟨rfl, rfl, rfl, rfl, rfl, rfl, trivial⟩
        show psOut (b.room + 1).toNat (7 + 1) :: psRows b p (7 + 1) = _
        unfold psOut
        rw [vecF_succ]; rfl
    · skip
      conv => whnf
      repeat' first | ((with_reducible apply XBr.dec) <;> (intro h; first | (exfalso; omega) | ((try simp only [List.length_map] at h); first | (exfalso; omega) | (conv => whnf)))) | ((with_reducible refine XInt.i64 (by omega) (by omega) ?_); conv => whnf) | ((with_reducible refine XHold.mk ?_ ?_); (first | omega | rfl | decide | exact ⟨rfl, by decide, rfl⟩ | exact wideI _ | exact widePr _ | exact wideSk _ | (unfold Room; constructor <;> ((try simp) <;> omega)) | exact ⟨rfl, by simp only [List.length_map], by unfold Room; constructor <;> ((try simp) <;> omega)⟩ | exact ⟨by omega, by omega, by unfold Room; constructor <;> ((try simp) <;> omega)⟩); conv => whnf) | fail
      refine Walk.loopK tab_ok [] [(1, _), (2, _), (3, _), (6, _), (7, _), (8, _), (9, .gr 9 (b.room + 1).toNat)] ⟨rfl, rfl, rfl, rfl, rfl, rfl, rfl, trivial⟩ (fun n : Nat => (n : Int) ≤ b.room + 1) (fun n => [(10, natA n)]) (fun n => psOut (b.room + 1).toNat 8 :: (psRows b p 8 ++ [.grow 4 false (bls (b.room + 1).toNat fun q => if q < n then psR b p 8 q else false)])) (fun n => (b.room + 1).toNat - n) 0 (by omega) (by rw [← hz0 8] <;> rfl) ⟨rfl, trivial⟩ ?_
      intro n hn
      have hbl := fun F => bls_len (b.room + 1).toNat F
      have hag := refAgrees1_c b nl p 8 n hs
      by_cases hlt : (n : Int) ≤ b.room
      · have hps : psR b p 8 n = ((List.range (b.room + 1).toNat).any (fun k => psR b p 7 k && nxF b 7 k n) && agB b p 8 n) := rfl
        conv => whnf
        repeat' first | ((with_reducible apply XBr.dec) <;> (intro h; first | (exfalso; omega) | ((try simp only [List.length_map] at h); first | (exfalso; omega) | (conv => whnf)))) | ((with_reducible apply XBr.beq) <;> (intro h; first | (exfalso; omega) | (conv => whnf))) | fail
        refine Walk.loopK tab_ok [] [(1, _), (2, _), (3, _), (6, _), (7, _), (8, _), (9, _), (10, _)] ⟨rfl, rfl, rfl, rfl, rfl, rfl, rfl, rfl, trivial⟩ (fun k : Nat => (k : Int) ≤ b.room + 1) (fun k => [(11, natA k)]) (fun k => psOut (b.room + 1).toNat 8 :: (psRows b p 8 ++ [.grow 4 false (bls (b.room + 1).toNat (updV (fun q => if q < n then psR b p 8 q else false) n ((List.range k).any fun k => psR b p 7 k && nxF b 7 k n)))])) (fun k => (b.room + 1).toNat - k) 0 (by omega) (by rw [show ((List.range 0).any fun k => psR b p 7 k && nxF b 7 k n) = false from rfl, row_first] <;> rfl) ⟨rfl, trivial⟩ ?_
        intro k hk
        by_cases hltk : (k : Int) ≤ b.room
        · obtain ⟨r1, hr1⟩ : ∃ r1, psR b p 7 k = r1 := ⟨_, rfl⟩
          obtain ⟨r2, hr2⟩ : ∃ r2, nxF b 7 k n = r2 := ⟨_, rfl⟩
          obtain ⟨v, hv⟩ : ∃ v, ((List.range k).any fun k => psR b p 7 k && nxF b 7 k n) = v := ⟨_, rfl⟩
          rw [hv]
          conv => whnf
          repeat' first | ((with_reducible apply XBr.tt); conv => whnf) | ((with_reducible apply XBr.dec) <;> (intro h; first | (exfalso; omega) | ((try simp only [List.length_map] at h); first | (exfalso; omega) | (conv => whnf)))) | fail
          cases v with
          | true =>
            refine Walk.norm tab_ok [] [(1, _), (2, _), (3, _), (6, _), (7, _), (8, _), (9, _), (10, _), (11, _)] ⟨rfl, rfl, rfl, rfl, rfl, rfl, rfl, rfl, rfl, trivial⟩ ?_
            conv => whnf
            repeat' first | ((first | (with_reducible apply XBr.tt) | (with_reducible refine XInt.i64 (by omega) (by omega) ?_) | (refine XHold.mk ⟨hbl _, rfl, by omega, by omega⟩ ?_) | ((refine XGet.blsJ n (by omega) rfl (by omega) ?_); rw [updV_same]) | ((refine XPut.bls n (by omega) rfl (by omega) ?_); rw [updV_updV])); conv => whnf) | fail
            exact XAgain.go (k + 1) (by omega) (by omega) (by rw [any_next, hv, hr1, hr2] <;> rfl) ⟨rfl, rfl, rfl, rfl, rfl, rfl, rfl, rfl, rfl, trivial⟩
          | false =>
            cases r1 with
            | false =>
              refine Walk.norm tab_ok [] [(1, _), (2, _), (3, _), (6, _), (7, _), (8, _), (9, _), (10, _), (11, _)] ⟨rfl, rfl, rfl, rfl, rfl, rfl, rfl, rfl, rfl, trivial⟩ ?_
              conv => whnf
              repeat' first | ((first | (with_reducible apply XBr.ff) | (with_reducible refine XInt.i64 (by omega) (by omega) ?_) | (refine XHold.mk ⟨hbl _, rfl, by omega, by omega⟩ ?_) | ((refine XGet.blsJ n (by omega) rfl (by omega) ?_); rw [updV_same]) | (refine XHold.mk ⟨vecF_len _ _, rfl, by omega, by omega⟩ ?_) | (refine XGet.vecV 7 (by omega) rfl (by omega) ?_) | ((refine XGet.blsJ k (by omega) rfl (by omega) ?_); rw [hr1]) | ((refine XPut.bls n (by omega) rfl (by omega) ?_); rw [updV_updV])); conv => whnf) | fail
              exact XAgain.go (k + 1) (by omega) (by omega) (by rw [any_next, hv, hr1, hr2] <;> rfl) ⟨rfl, rfl, rfl, rfl, rfl, rfl, rfl, rfl, rfl, trivial⟩
            | true =>
              refine Walk.norm tab_ok [] [(1, _), (2, _), (3, _), (6, _), (7, _), (8, _), (9, _), (10, _), (11, _)] ⟨rfl, rfl, rfl, rfl, rfl, rfl, rfl, rfl, rfl, trivial⟩ ?_
              conv => whnf
              repeat' first | ((first | (with_reducible apply XBr.tt) | (with_reducible apply XBr.ff) | (with_reducible refine XInt.i64 (by omega) (by omega) ?_) | (refine XHold.mk ⟨hbl _, rfl, by omega, by omega⟩ ?_) | ((refine XGet.blsJ n (by omega) rfl (by omega) ?_); rw [updV_same]) | (refine XHold.mk ⟨vecF_len _ _, rfl, by omega, by omega⟩ ?_) | (refine XGet.vecV 7 (by omega) rfl (by omega) ?_) | ((refine XGet.blsJ k (by omega) rfl (by omega) ?_); rw [hr1]) | (refine XIx.vecV 7 (by omega) (by omega) rfl ?_) | (refine XIx.vecV k (by omega) (by omega) rfl ?_) | ((refine XIx.bls n (by omega) (by omega) ?_); rw [hr2]) | ((refine XPut.bls n (by omega) rfl (by omega) ?_); rw [updV_updV])); conv => whnf) | fail
              exact XAgain.go (k + 1) (by omega) (by omega) (by rw [any_next, hv, hr1, hr2] <;> rfl) ⟨rfl, rfl, rfl, rfl, rfl, rfl, rfl, rfl, rfl, trivial⟩
        · obtain rfl : k = (b.room + 1).toNat := by omega
          obtain ⟨u, hu⟩ : ∃ u, ((List.range (b.room + 1).toNat).any fun k => psR b p 7 k && nxF b 7 k n) = u := ⟨_, rfl⟩
          rw [hu]
          conv => whnf
          repeat' first | ((with_reducible apply XBr.tt); conv => whnf) | ((with_reducible apply XBr.dec) <;> (intro h; first | (exfalso; omega) | ((try simp only [List.length_map] at h); first | (exfalso; omega) | (conv => whnf)))) | fail
          obtain ⟨ag, hagv⟩ : ∃ ag, agB b p 8 n = ag := ⟨_, rfl⟩
          rw [hagv] at hag
          cases u with
          | false =>
            repeat' first | ((first | (with_reducible apply XBr.ff) | (with_reducible refine XInt.i64 (by omega) (by omega) ?_) | (refine XHold.mk ⟨hbl _, rfl, by omega, by omega⟩ ?_) | ((refine XGet.blsJ n (by omega) rfl (by omega) ?_); rw [updV_same]) | (refine XPut.bls n (by omega) rfl (by omega) ?_)); conv => whnf) | fail
            refine XAgain.go (n + 1) (by omega) (by omega) ?_ ⟨rfl, rfl, rfl, rfl, rfl, rfl, rfl, rfl, trivial⟩
            rw [← row_next false (show false = psR b p 8 n by rw [hps, hu]; rfl)] <;> rfl
          | true =>
            repeat' first | ((first | (with_reducible apply XBr.tt) | (with_reducible refine XInt.i64 (by omega) (by omega) ?_) | (refine XHold.mk ⟨hbl _, rfl, by omega, by omega⟩ ?_) | ((refine XGet.blsJ n (by omega) rfl (by omega) ?_); rw [updV_same]) | (refine XPut.bls n (by omega) rfl (by omega) ?_) | (refine XCall.ret hag ?_)); conv => whnf) | fail
            refine XAgain.go (n + 1) (by omega) (by omega) ?_ ⟨rfl, rfl, rfl, rfl, rfl, rfl, rfl, rfl, trivial⟩
            rw [← row_next true (show ag = psR b p 8 n by rw [hps, hu, hagv]; rfl)] <;> rfl
      · obtain rfl : n = (b.room + 1).toNat := by omega
        rw [show (bls (b.room + 1).toNat fun q => if q < (b.room + 1).toNat then psR b p 8 q else false) = bls (b.room + 1).toNat (psR b p 8) from bls_congr fun q hq => if_pos hq]
        conv => whnf
        repeat' first | ((with_reducible apply XBr.dec) <;> (intro h; first | (exfalso; omega) | ((try simp only [List.length_map] at h); first | (exfalso; omega) | (conv => whnf)))) | ((with_reducible refine XInt.i64 (by omega) (by omega) ?_); conv => whnf) | ((with_reducible refine XHold.mk ?_ ?_); (first | omega | rfl | decide | exact ⟨rfl, by decide, rfl⟩ | exact wideI _ | exact widePr _ | exact wideSk _ | (unfold Room; constructor <;> ((try simp) <;> omega)) | exact ⟨rfl, by simp only [List.length_map], by unfold Room; constructor <;> ((try simp) <;> omega)⟩ | exact ⟨by omega, by omega, by unfold Room; constructor <;> ((try simp) <;> omega)⟩); conv => whnf) | ((refine XHold.mk ⟨rfl, vecF_len _ _, by unfold Room; constructor <;> (simp only [List.length_cons, List.length_nil]; omega)⟩ ?_); conv => whnf) | fail
        refine XAgain.go 9 (by omega) (by omega) ?_ ⟨rfl, rfl, rfl, rfl, rfl, rfl, trivial⟩
        show psOut (b.room + 1).toNat (8 + 1) :: psRows b p (8 + 1) = _
        unfold psOut
        rw [vecF_succ]; rfl
    · skip
      conv => whnf
      repeat' first | ((with_reducible apply XBr.dec) <;> (intro h; first | (exfalso; omega) | ((try simp only [List.length_map] at h); first | (exfalso; omega) | (conv => whnf)))) | ((with_reducible refine XInt.i64 (by omega) (by omega) ?_); conv => whnf) | ((with_reducible refine XHold.mk ?_ ?_); (first | omega | rfl | decide | exact ⟨rfl, by decide, rfl⟩ | exact wideI _ | exact widePr _ | exact wideSk _ | (unfold Room; constructor <;> ((try simp) <;> omega)) | exact ⟨rfl, by simp only [List.length_map], by unfold Room; constructor <;> ((try simp) <;> omega)⟩ | exact ⟨by omega, by omega, by unfold Room; constructor <;> ((try simp) <;> omega)⟩); conv => whnf) | fail
      refine Walk.loopK tab_ok [] [(1, _), (2, _), (3, _), (6, _), (7, _), (8, _), (9, .gr 10 (b.room + 1).toNat)] ⟨rfl, rfl, rfl, rfl, rfl, rfl, rfl, trivial⟩ (fun n : Nat => (n : Int) ≤ b.room + 1) (fun n => [(10, natA n)]) (fun n => psOut (b.room + 1).toNat 9 :: (psRows b p 9 ++ [.grow 4 false (bls (b.room + 1).toNat fun q => if q < n then psR b p 9 q else false)])) (fun n => (b.room + 1).toNat - n) 0 (by omega) (by rw [← hz0 9] <;> rfl) ⟨rfl, trivial⟩ ?_
      intro n hn
      have hbl := fun F => bls_len (b.room + 1).toNat F
      have hag := refAgrees1_c b nl p 9 n hs
      by_cases hlt : (n : Int) ≤ b.room
      · have hps : psR b p 9 n = ((List.range (b.room + 1).toNat).any (fun k => psR b p 8 k && nxF b 8 k n) && agB b p 9 n) := rfl
        conv => whnf
        repeat' first | ((with_reducible apply XBr.dec) <;> (intro h; first | (exfalso; omega) | ((try simp only [List.length_map] at h); first | (exfalso; omega) | (conv => whnf)))) | ((with_reducible apply XBr.beq) <;> (intro h; first | (exfalso; omega) | (conv => whnf))) | fail
        refine Walk.loopK tab_ok [] [(1, _), (2, _), (3, _), (6, _), (7, _), (8, _), (9, _), (10, _)] ⟨rfl, rfl, rfl, rfl, rfl, rfl, rfl, rfl, trivial⟩ (fun k : Nat => (k : Int) ≤ b.room + 1) (fun k => [(11, natA k)]) (fun k => psOut (b.room + 1).toNat 9 :: (psRows b p 9 ++ [.grow 4 false (bls (b.room + 1).toNat (updV (fun q => if q < n then psR b p 9 q else false) n ((List.range k).any fun k => psR b p 8 k && nxF b 8 k n)))])) (fun k => (b.room + 1).toNat - k) 0 (by omega) (by rw [show ((List.range 0).any fun k => psR b p 8 k && nxF b 8 k n) = false from rfl, row_first] <;> rfl) ⟨rfl, trivial⟩ ?_
        intro k hk
        by_cases hltk : (k : Int) ≤ b.room
        · obtain ⟨r1, hr1⟩ : ∃ r1, psR b p 8 k = r1 := ⟨_, rfl⟩
          obtain ⟨r2, hr2⟩ : ∃ r2, nxF b 8 k n = r2 := ⟨_, rfl⟩
          obtain ⟨v, hv⟩ : ∃ v, ((List.range k).any fun k => psR b p 8 k && nxF b 8 k n) = v := ⟨_, rfl⟩
          rw [hv]
          conv => whnf
          repeat' first | ((with_reducible apply XBr.tt); conv => whnf) | ((with_reducible apply XBr.dec) <;> (intro h; first | (exfalso; omega) | ((try simp only [List.length_map] at h); first | (exfalso; omega) | (conv => whnf)))) | fail
          cases v with
          | true =>
            refine Walk.norm tab_ok [] [(1, _), (2, _), (3, _), (6, _), (7, _), (8, _), (9, _), (10, _), (11, _)] ⟨rfl, rfl, rfl, rfl, rfl, rfl, rfl, rfl, rfl, trivial⟩ ?_
            conv => whnf
            repeat' first | ((first | (with_reducible apply XBr.tt) | (with_reducible refine XInt.i64 (by omega) (by omega) ?_) | (refine XHold.mk ⟨hbl _, rfl, by omega, by omega⟩ ?_) | ((refine XGet.blsJ n (by omega) rfl (by omega) ?_); rw [updV_same]) | ((refine XPut.bls n (by omega) rfl (by omega) ?_); rw [updV_updV])); conv => whnf) | fail
            exact XAgain.go (k + 1) (by omega) (by omega) (by rw [any_next, hv, hr1, hr2] <;> rfl) ⟨rfl, rfl, rfl, rfl, rfl, rfl, rfl, rfl, rfl, trivial⟩
          | false =>
            cases r1 with
            | false =>
              refine Walk.norm tab_ok [] [(1, _), (2, _), (3, _), (6, _), (7, _), (8, _), (9, _), (10, _), (11, _)] ⟨rfl, rfl, rfl, rfl, rfl, rfl, rfl, rfl, rfl, trivial⟩ ?_
              conv => whnf
              repeat' first | ((first | (with_reducible apply XBr.ff) | (with_reducible refine XInt.i64 (by omega) (by omega) ?_) | (refine XHold.mk ⟨hbl _, rfl, by omega, by omega⟩ ?_) | ((refine XGet.blsJ n (by omega) rfl (by omega) ?_); rw [updV_same]) | (refine XHold.mk ⟨vecF_len _ _, rfl, by omega, by omega⟩ ?_) | (refine XGet.vecV 8 (by omega) rfl (by omega) ?_) | ((refine XGet.blsJ k (by omega) rfl (by omega) ?_); rw [hr1]) | ((refine XPut.bls n (by omega) rfl (by omega) ?_); rw [updV_updV])); conv => whnf) | fail
              exact XAgain.go (k + 1) (by omega) (by omega) (by rw [any_next, hv, hr1, hr2] <;> rfl) ⟨rfl, rfl, rfl, rfl, rfl, rfl, rfl, rfl, rfl, trivial⟩
            | true =>
              refine Walk.norm tab_ok [] [(1, _), (2, _), (3, _), (6, _), (7, _), (8, _), (9, _), (10, _), (11, _)] ⟨rfl, rfl, rfl, rfl, rfl, rfl, rfl, rfl, rfl, trivial⟩ ?_
              conv => whnf
              repeat' first | ((first | (with_reducible apply XBr.tt) | (with_reducible apply XBr.ff) | (with_reducible refine XInt.i64 (by omega) (by omega) ?_) | (refine XHold.mk ⟨hbl _, rfl, by omega, by omega⟩ ?_) | ((refine XGet.blsJ n (by omega) rfl (by omega) ?_); rw [updV_same]) | (refine XHold.mk ⟨vecF_len _ _, rfl, by omega, by omega⟩ ?_) | (refine XGet.vecV 8 (by omega) rfl (by omega) ?_) | ((refine XGet.blsJ k (by omega) rfl (by omega) ?_); rw [hr1]) | (refine XIx.vecV 8 (by omega) (by omega) rfl ?_) | (refine XIx.vecV k (by omega) (by omega) rfl ?_) | ((refine XIx.bls n (by omega) (by omega) ?_); rw [hr2]) | ((refine XPut.bls n (by omega) rfl (by omega) ?_); rw [updV_updV])); conv => whnf) | fail
              exact XAgain.go (k + 1) (by omega) (by omega) (by rw [any_next, hv, hr1, hr2] <;> rfl) ⟨rfl, rfl, rfl, rfl, rfl, rfl, rfl, rfl, rfl, trivial⟩
        · obtain rfl : k = (b.room + 1).toNat := by omega
          obtain ⟨u, hu⟩ : ∃ u, ((List.range (b.room + 1).toNat).any fun k => psR b p 8 k && nxF b 8 k n) = u := ⟨_, rfl⟩
          rw [hu]
          conv => whnf
          repeat' first | ((with_reducible apply XBr.tt); conv => whnf) | ((with_reducible apply XBr.dec) <;> (intro h; first | (exfalso; omega) | ((try simp only [List.length_map] at h); first | (exfalso; omega) | (conv => whnf)))) | fail
          obtain ⟨ag, hagv⟩ : ∃ ag, agB b p 9 n = ag := ⟨_, rfl⟩
          rw [hagv] at hag
          cases u with
          | false =>
            repeat' first | ((first | (with_reducible apply XBr.ff) | (with_reducible refine XInt.i64 (by omega) (by omega) ?_) | (refine XHold.mk ⟨hbl _, rfl, by omega, by omega⟩ ?_) | ((refine XGet.blsJ n (by omega) rfl (by omega) ?_); rw [updV_same]) | (refine XPut.bls n (by omega) rfl (by omega) ?_)); conv => whnf) | fail
            refine XAgain.go (n + 1) (by omega) (by omega) ?_ ⟨rfl, rfl, rfl, rfl, rfl, rfl, rfl, rfl, trivial⟩
            rw [← row_next false (show false = psR b p 9 n by rw [hps, hu]; rfl)] <;> rfl
          | true =>
            repeat' first | ((first | (with_reducible apply XBr.tt) | (with_reducible refine XInt.i64 (by omega) (by omega) ?_) | (refine XHold.mk ⟨hbl _, rfl, by omega, by omega⟩ ?_) | ((refine XGet.blsJ n (by omega) rfl (by omega) ?_); rw [updV_same]) | (refine XPut.bls n (by omega) rfl (by omega) ?_) | (refine XCall.ret hag ?_)); conv => whnf) | fail
            refine XAgain.go (n + 1) (by omega) (by omega) ?_ ⟨rfl, rfl, rfl, rfl, rfl, rfl, rfl, rfl, trivial⟩
            rw [← row_next true (show ag = psR b p 9 n by rw [hps, hu, hagv]; rfl)] <;> rfl
      · obtain rfl : n = (b.room + 1).toNat := by omega
        rw [show (bls (b.room + 1).toNat fun q => if q < (b.room + 1).toNat then psR b p 9 q else false) = bls (b.room + 1).toNat (psR b p 9) from bls_congr fun q hq => if_pos hq]
        conv => whnf
        repeat' first | ((with_reducible apply XBr.dec) <;> (intro h; first | (exfalso; omega) | ((try simp only [List.length_map] at h); first | (exfalso; omega) | (conv => whnf)))) | ((with_reducible refine XInt.i64 (by omega) (by omega) ?_); conv => whnf) | ((with_reducible refine XHold.mk ?_ ?_); (first | omega | rfl | decide | exact ⟨rfl, by decide, rfl⟩ | exact wideI _ | exact widePr _ | exact wideSk _ | (unfold Room; constructor <;> ((try simp) <;> omega)) | exact ⟨rfl, by simp only [List.length_map], by unfold Room; constructor <;> ((try simp) <;> omega)⟩ | exact ⟨by omega, by omega, by unfold Room; constructor <;> ((try simp) <;> omega)⟩); conv => whnf) | ((refine XHold.mk ⟨rfl, vecF_len _ _, by unfold Room; constructor <;> (simp only [List.length_cons, List.length_nil]; omega)⟩ ?_); conv => whnf) | fail
        refine XAgain.go 10 (by omega) (by omega) ?_ ⟨rfl, rfl, rfl, rfl, rfl, rfl, trivial⟩
        show psOut (b.room + 1).toNat (9 + 1) :: psRows b p (9 + 1) = _
        unfold psOut
        rw [vecF_succ]; rfl
    · skip
      conv => whnf
      repeat' first | ((with_reducible apply XBr.dec) <;> (intro h; first | (exfalso; omega) | ((try simp only [List.length_map] at h); first | (exfalso; omega) | (conv => whnf)))) | ((with_reducible refine XInt.i64 (by omega) (by omega) ?_); conv => whnf) | ((with_reducible refine XHold.mk ?_ ?_); (first | omega | rfl | decide | exact ⟨rfl, by decide, rfl⟩ | exact wideI _ | exact widePr _ | exact wideSk _ | (unfold Room; constructor <;> ((try simp) <;> omega)) | exact ⟨rfl, by simp only [List.length_map], by unfold Room; constructor <;> ((try simp) <;> omega)⟩ | exact ⟨by omega, by omega, by unfold Room; constructor <;> ((try simp) <;> omega)⟩); conv => whnf) | fail
      refine Walk.loopK tab_ok [] [(1, _), (2, _), (3, _), (6, _), (7, _), (8, _), (9, .gr 11 (b.room + 1).toNat)] ⟨rfl, rfl, rfl, rfl, rfl, rfl, rfl, trivial⟩ (fun n : Nat => (n : Int) ≤ b.room + 1) (fun n => [(10, natA n)]) (fun n => psOut (b.room + 1).toNat 10 :: (psRows b p 10 ++ [.grow 4 false (bls (b.room + 1).toNat fun q => if q < n then psR b p 10 q else false)])) (fun n => (b.room + 1).toNat - n) 0 (by omega) (by rw [← hz0 10] <;> rfl) ⟨rfl, trivial⟩ ?_
      intro n hn
      have hbl := fun F => bls_len (b.room + 1).toNat F
      have hag := refAgrees1_c b nl p 10 n hs
      by_cases hlt : (n : Int) ≤ b.room
      · have hps : psR b p 10 n = ((List.range (b.room + 1).toNat).any (fun k => psR b p 9 k && nxF b 9 k n) && agB b p 10 n) := rfl
        conv => whnf
        repeat' first | ((with_reducible apply XBr.dec) <;> (intro h; first | (exfalso; omega) | ((try simp only [List.length_map] at h); first | (exfalso; omega) | (conv => whnf)))) | ((with_reducible apply XBr.beq) <;> (intro h; first | (exfalso; omega) | (conv => whnf))) | fail
        refine Walk.loopK tab_ok [] [(1, _), (2, _), (3, _), (6, _), (7, _), (8, _), (9, _), (10, _)] ⟨rfl, rfl, rfl, rfl, rfl, rfl, rfl, rfl, trivial⟩ (fun k : Nat => (k : Int) ≤ b.room + 1) (fun k => [(11, natA k)]) (fun k => psOut (b.room + 1).toNat 10 :: (psRows b p 10 ++ [.grow 4 false (bls (b.room + 1).toNat (updV (fun q => if q < n then psR b p 10 q else false) n ((List.range k).any fun k => psR b p 9 k && nxF b 9 k n)))])) (fun k => (b.room + 1).toNat - k) 0 (by omega) (by rw [show ((List.range 0).any fun k => psR b p 9 k && nxF b 9 k n) = false from rfl, row_first] <;> rfl) ⟨rfl, trivial⟩ ?_
        intro k hk
        by_cases hltk : (k : Int) ≤ b.room
        · obtain ⟨r1, hr1⟩ : ∃ r1, psR b p 9 k = r1 := ⟨_, rfl⟩
          obtain ⟨r2, hr2⟩ : ∃ r2, nxF b 9 k n = r2 := ⟨_, rfl⟩
          obtain ⟨v, hv⟩ : ∃ v, ((List.range k).any fun k => psR b p 9 k && nxF b 9 k n) = v := ⟨_, rfl⟩
          rw [hv]
          conv => whnf
          repeat' first | ((with_reducible apply XBr.tt); conv => whnf) | ((with_reducible apply XBr.dec) <;> (intro h; first | (exfalso; omega) | ((try simp only [List.length_map] at h); first | (exfalso; omega) | (conv => whnf)))) | fail
          cases v with
          | true =>
            refine Walk.norm tab_ok [] [(1, _), (2, _), (3, _), (6, _), (7, _), (8, _), (9, _), (10, _), (11, _)] ⟨rfl, rfl, rfl, rfl, rfl, rfl, rfl, rfl, rfl, trivial⟩ ?_
            conv => whnf
            repeat' first | ((first | (with_reducible apply XBr.tt) | (with_reducible refine XInt.i64 (by omega) (by omega) ?_) | (refine XHold.mk ⟨hbl _, rfl, by omega, by omega⟩ ?_) | ((refine XGet.blsJ n (by omega) rfl (by omega) ?_); rw [updV_same]) | ((refine XPut.bls n (by omega) rfl (by omega) ?_); rw [updV_updV])); conv => whnf) | fail
            exact XAgain.go (k + 1) (by omega) (by omega) (by rw [any_next, hv, hr1, hr2] <;> rfl) ⟨rfl, rfl, rfl, rfl, rfl, rfl, rfl, rfl, rfl, trivial⟩
          | false =>
            cases r1 with
            | false =>
              refine Walk.norm tab_ok [] [(1, _), (2, _), (3, _), (6, _), (7, _), (8, _), (9, _), (10, _), (11, _)] ⟨rfl, rfl, rfl, rfl, rfl, rfl, rfl, rfl, rfl, trivial⟩ ?_
              conv => whnf
              repeat' first | ((first | (with_reducible apply XBr.ff) | (with_reducible refine XInt.i64 (by omega) (by omega) ?_) | (refine XHold.mk ⟨hbl _, rfl, by omega, by omega⟩ ?_) | ((refine XGet.blsJ n (by omega) rfl (by omega) ?_); rw [updV_same]) | (refine XHold.mk ⟨vecF_len _ _, rfl, by omega, by omega⟩ ?_) | (refine XGet.vecV 9 (by omega) rfl (by omega) ?_) | ((refine XGet.blsJ k (by omega) rfl (by omega) ?_); rw [hr1]) | ((refine XPut.bls n (by omega) rfl (by omega) ?_); rw [updV_updV])); conv => whnf) | fail
              exact XAgain.go (k + 1) (by omega) (by omega) (by rw [any_next, hv, hr1, hr2] <;> rfl) ⟨rfl, rfl, rfl, rfl, rfl, rfl, rfl, rfl, rfl, trivial⟩
            | true =>
              refine Walk.norm tab_ok [] [(1, _), (2, _), (3, _), (6, _), (7, _), (8, _), (9, _), (10, _), (11, _)] ⟨rfl, rfl, rfl, rfl, rfl, rfl, rfl, rfl, rfl, trivial⟩ ?_
              conv => whnf
              repeat' first | ((first | (with_reducible apply XBr.tt) | (with_reducible apply XBr.ff) | (with_reducible refine XInt.i64 (by omega) (by omega) ?_) | (refine XHold.mk ⟨hbl _, rfl, by omega, by omega⟩ ?_) | ((refine XGet.blsJ n (by omega) rfl (by omega) ?_); rw [updV_same]) | (refine XHold.mk ⟨vecF_len _ _, rfl, by omega, by omega⟩ ?_) | (refine XGet.vecV 9 (by omega) rfl (by omega) ?_) | ((refine XGet.blsJ k (by omega) rfl (by omega) ?_); rw [hr1]) | (refine XIx.vecV 9 (by omega) (by omega) rfl ?_) | (refine XIx.vecV k (by omega) (by omega) rfl ?_) | ((refine XIx.bls n (by omega) (by omega) ?_); rw [hr2]) | ((refine XPut.bls n (by omega) rfl (by omega) ?_); rw [updV_updV])); conv => whnf) | fail
              exact XAgain.go (k + 1) (by omega) (by omega) (by rw [any_next, hv, hr1, hr2] <;> rfl) ⟨rfl, rfl, rfl, rfl, rfl, rfl, rfl, rfl, rfl, trivial⟩
        · obtain rfl : k = (b.room + 1).toNat := by omega
          obtain ⟨u, hu⟩ : ∃ u, ((List.range (b.room + 1).toNat).any fun k => psR b p 9 k && nxF b 9 k n) = u := ⟨_, rfl⟩
          rw [hu]
          conv => whnf
          repeat' first | ((with_reducible apply XBr.tt); conv => whnf) | ((with_reducible apply XBr.dec) <;> (intro h; first | (exfalso; omega) | ((try simp only [List.length_map] at h); first | (exfalso; omega) | (conv => whnf)))) | fail
          obtain ⟨ag, hagv⟩ : ∃ ag, agB b p 10 n = ag := ⟨_, rfl⟩
          rw [hagv] at hag
          cases u with
          | false =>
            repeat' first | ((first | (with_reducible apply XBr.ff) | (with_reducible refine XInt.i64 (by omega) (by omega) ?_) | (refine XHold.mk ⟨hbl _, rfl, by omega, by omega⟩ ?_) | ((refine XGet.blsJ n (by omega) rfl (by omega) ?_); rw [updV_same]) | (refine XPut.bls n (by omega) rfl (by omega) ?_)); conv => whnf) | fail
            refine XAgain.go (n + 1) (by omega) (by omega) ?_ ⟨rfl, rfl, rfl, rfl, rfl, rfl, rfl, rfl, trivial⟩
            rw [← row_next false (show false = psR b p 10 n by rw [hps, hu]; rfl)] <;> rfl
          | true =>
            repeat' first | ((first | (with_reducible apply XBr.tt) | (with_reducible refine XInt.i64 (by omega) (by omega) ?_) | (refine XHold.mk ⟨hbl _, rfl, by omega, by omega⟩ ?_) | ((refine XGet.blsJ n (by omega) rfl (by omega) ?_); rw [updV_same]) | (refine XPut.bls n (by omega) rfl (by omega) ?_) | (refine XCall.ret hag ?_)); conv => whnf) | fail
            refine XAgain.go (n + 1) (by omega) (by omega) ?_ ⟨rfl, rfl, rfl, rfl, rfl, rfl, rfl, rfl, trivial⟩
            rw [← row_next true (show ag = psR b p 10 n by rw [hps, hu, hagv]; rfl)] <;> rfl
      · obtain rfl : n = (b.room + 1).toNat := by omega
        rw [show (bls (b.room + 1).toNat fun q => if q < (b.room + 1).toNat then psR b p 10 q else false) = bls (b.room + 1).toNat (psR b p 10) from bls_congr fun q hq => if_pos hq]
        conv => whnf
        repeat' first | ((with_reducible apply XBr.dec) <;> (intro h; first | (exfalso; omega) | ((try simp only [List.length_map] at h); first | (exfalso; omega) | (conv => whnf)))) | ((with_reducible refine XInt.i64 (by omega) (by omega) ?_); conv => whnf) | ((with_reducible refine XHold.mk ?_ ?_); (first | omega | rfl | decide | exact ⟨rfl, by decide, rfl⟩ | exact wideI _ | exact widePr _ | exact wideSk _ | (unfold Room; constructor <;> ((try simp) <;> omega)) | exact ⟨rfl, by simp only [List.length_map], by unfold Room; constructor <;> ((try simp) <;> omega)⟩ | exact ⟨by omega, by omega, by unfold Room; constructor <;> ((try simp) <;> omega)⟩); conv => whnf) | ((refine XHold.mk ⟨rfl, vecF_len _ _, by unfold Room; constructor <;> (simp only [List.length_cons, List.length_nil]; omega)⟩ ?_); conv => whnf) | fail
        refine XAgain.go 11 (by omega) (by omega) ?_ ⟨rfl, rfl, rfl, rfl, rfl, rfl, trivial⟩
        show psOut (b.room + 1).toNat (10 + 1) :: psRows b p (10 + 1) = _
        unfold psOut
        rw [vecF_succ]; rfl
  · obtain rfl : m = b.months.length + 1 := by omega
    conv => whnf
    repeat' first | ((with_reducible apply XBr.dec) <;> (intro h; first | (exfalso; omega) | ((try simp only [List.length_map] at h); first | (exfalso; omega) | (conv => whnf)))) | ((with_reducible refine XInt.i64 (by omega) (by omega) ?_); conv => whnf) | fail
    refine Walk.nilrows 4 (10 - b.months.length) ?_
    rw [psPad m2]
    have hvl : (vecF (b.months.length + 1) fun i => AV.gr (i + 1) (b.room + 1).toNat).length = b.months.length + 1 := vecF_len _ _
    refine Walk.loopK tab_ok [] [(1, _), (3, _), (6, _), (7, _)] ⟨rfl, rfl, rfl, rfl, trivial⟩ (fun j : Nat => j ≤ b.months.length) (fun j => [(12, .int .i64 ((b.months.length : Int) - 1 - j))]) (fun j => psP b p j) (fun j => b.months.length - j) 0 (Nat.zero_le _) rfl ⟨congrArg (fun z => some (AV.int .i64 z)) (by omega), trivial⟩ ?_
    intro j hj
    by_cases hltj : j < b.months.length
    · have hmj : j + 1 = b.months.length ∨ j + 2 = b.months.length ∨ j + 3 = b.months.length ∨ j + 4 = b.months.length ∨ j + 5 = b.months.length ∨ j + 6 = b.months.length ∨ j + 7 = b.months.length ∨ j + 8 = b.months.length ∨ j + 9 = b.months.length ∨ j + 10 = b.months.length := by omega
      rcases hmj with hmj | hmj | hmj | hmj | hmj | hmj | hmj | hmj | hmj | hmj
      · skip
        have hN : (b.months.length : Int) - 1 - j = ((0 : Nat) : Int) := by omega
        rw [hN, show psP b p j = [psOut (b.room + 1).toNat (b.months.length + 1), .grow 4 false (bls (b.room + 1).toNat (psR b p 0)), .grow 4 false (bls (b.room + 1).toNat (psF b p 1)), psB b p j 2, psB b p j 3, psB b p j 4, psB b p j 5, psB b p j 6, psB b p j 7, psB b p j 8, psB b p j 9, psB b p j 10] by unfold psP; rw [psB_cur (k := 0) (by omega), psB_fin (k := 1) (by omega) (by omega)]]
        conv => whnf
        repeat' first | ((with_reducible apply XBr.dec) <;> (intro h; first | (exfalso; omega) | ((try simp only [List.length_map] at h); first | (exfalso; omega) | (conv => whnf)))) | fail
        refine Walk.loopK tab_ok [] [(1, _), (3, _), (6, _), (7, _), (12, _)] ⟨rfl, rfl, rfl, rfl, rfl, trivial⟩ (fun n : Nat => (n : Int) ≤ b.room + 1) (fun n => [(13, natA n)]) (fun n => [psOut (b.room + 1).toNat (b.months.length + 1), .grow 4 false (bls (b.room + 1).toNat fun q => if q < n then psF b p 0 q else psR b p 0 q), .grow 4 false (bls (b.room + 1).toNat (psF b p 1)), psB b p j 2, psB b p j 3, psB b p j 4, psB b p j 5, psB b p j 6, psB b p j 7, psB b p j 8, psB b p j 9, psB b p j 10]) (fun n => (b.room + 1).toNat - n) 0 (by omega) (by rw [show (bls (b.room + 1).toNat fun q => if q < 0 then psF b p 0 q else psR b p 0 q) = bls (b.room + 1).toNat (psR b p 0) from bls_congr fun q _ => if_neg (Nat.not_lt_zero q)] <;> rfl) ⟨rfl, trivial⟩ ?_
        intro n hn
        have hbl := fun F => bls_len (b.room + 1).toNat F
        by_cases hlt : (n : Int) ≤ b.room
        · conv => whnf
          repeat' first | ((with_reducible apply XBr.dec) <;> (intro h; first | (exfalso; omega) | ((try simp only [List.length_map] at h); first | (exfalso; omega) | (conv => whnf)))) | fail
          refine Walk.loopK tab_ok [] [(1, _), (3, _), (6, _), (7, _), (12, _), (13, _)] ⟨rfl, rfl, rfl, rfl, rfl, rfl, trivial⟩ (fun k : Nat => (k : Int) ≤ b.room + 1) (fun k => [(14, .bool ((List.range k).any (fun q => nxF b 0 n q && psF b p 1 q))), (15, natA k)]) (fun _ => [psOut (b.room + 1).toNat (b.months.length + 1), .grow 4 false (bls (b.room + 1).toNat fun q => if q < n then psF b p 0 q else psR b p 0 q), .grow 4 false (bls (b.room + 1).toNat (psF b p 1)), psB b p j 2, psB b p j 3, psB b p j 4, psB b p j 5, psB b p j 6, psB b p j 7, psB b p j 8, psB b p j 9, psB b p j 10]) (fun k => (b.room + 1).toNat - k) 0 (by omega) rfl ⟨rfl, rfl, trivial⟩ ?_
          intro k hk
          by_cases hltk : (k : Int) ≤ b.room
          · obtain ⟨r1, hr1⟩ : ∃ r1, nxF b 0 n k = r1 := ⟨_, rfl⟩
            obtain ⟨r2, hr2⟩ : ∃ r2, psF b p 1 k = r2 := ⟨_, rfl⟩
            obtain ⟨v, hv⟩ : ∃ v, ((List.range k).any (fun q => nxF b 0 n q && psF b p 1 q)) = v := ⟨_, rfl⟩
            rw [hv]
            conv => whnf
            repeat' first | ((with_reducible apply XBr.dec) <;> (intro h; first | (exfalso; omega) | ((try simp only [List.length_map] at h); first | (exfalso; omega) | (conv => whnf)))) | fail
            cases v with
            | true =>
              refine Walk.norm tab_ok [] [(1, _), (3, _), (6, _), (7, _), (12, _), (13, _), (14, _), (15, _)] ⟨rfl, rfl, rfl, rfl, rfl, rfl, rfl, rfl, trivial⟩ ?_
              conv => whnf
              repeat' first | ((first | (with_reducible apply XBr.tt) | (with_reducible refine XInt.i64 (by omega) (by omega) ?_)); conv => whnf) | fail
              exact XAgain.go (k + 1) (by omega) (by omega) rfl ⟨rfl, rfl, rfl, rfl, rfl, rfl, congrArg (fun z => some (AV.bool z)) (by rw [any_next, hv, hr1, hr2] <;> rfl), rfl, trivial⟩
            | false =>
              cases r1 with
              | false =>
                refine Walk.norm tab_ok [] [(1, _), (3, _), (6, _), (7, _), (12, _), (13, _), (14, _), (15, _)] ⟨rfl, rfl, rfl, rfl, rfl, rfl, rfl, rfl, trivial⟩ ?_
                conv => whnf
                repeat' first | ((first | (with_reducible apply XBr.ff) | (with_reducible refine XInt.i64 (by omega) (by omega) ?_) | (refine XIx.vecV 0 (by omega) (by omega) rfl ?_) | (refine XIx.vecV n (by omega) (by omega) rfl ?_) | ((refine XIx.bls k (by omega) (by omega) ?_); rw [hr1])); conv => whnf) | fail
                exact XAgain.go (k + 1) (by omega) (by omega) rfl ⟨rfl, rfl, rfl, rfl, rfl, rfl, congrArg (fun z => some (AV.bool z)) (by rw [any_next, hv, hr1, hr2] <;> rfl), rfl, trivial⟩
              | true =>
                refine Walk.norm tab_ok [] [(1, _), (3, _), (6, _), (7, _), (12, _), (13, _), (14, _), (15, _)] ⟨rfl, rfl, rfl, rfl, rfl, rfl, rfl, rfl, trivial⟩ ?_
                conv => whnf
                repeat' first | ((first | (with_reducible apply XBr.tt) | (with_reducible apply XBr.ff) | (with_reducible refine XInt.i64 (by omega) (by omega) ?_) | (refine XIx.vecV 0 (by omega) (by omega) rfl ?_) | (refine XIx.vecV n (by omega) (by omega) rfl ?_) | ((refine XIx.bls k (by omega) (by omega) ?_); rw [hr1]) | (refine XHold.mk ⟨hvl, rfl, by omega, by omega⟩ ?_) | (refine XGet.vecV 1 (by omega) rfl (by omega) ?_) | (refine XHold.mk ⟨hbl _, rfl, by omega, by omega⟩ ?_) | ((refine XGet.blsJ k (by omega) rfl (by omega) ?_); rw [hr2])); conv => whnf) | fail
                exact XAgain.go (k + 1) (by omega) (by omega) rfl ⟨rfl, rfl, rfl, rfl, rfl, rfl, congrArg (fun z => some (AV.bool z)) (by rw [any_next, hv, hr1, hr2] <;> rfl), rfl, trivial⟩
          · obtain rfl : k = (b.room + 1).toNat := by omega
            obtain ⟨u, hu⟩ : ∃ u, ((List.range (b.room + 1).toNat).any (fun q => nxF b 0 n q && psF b p 1 q)) = u := ⟨_, rfl⟩
            obtain ⟨r0, hr0⟩ : ∃ r0, psR b p 0 n = r0 := ⟨_, rfl⟩
            rw [hu]
            conv => whnf
            cases r0 with
            | false =>
              repeat' first | ((with_reducible apply XBr.ff); conv => whnf) | ((with_reducible apply XBr.dec) <;> (intro h; first | (exfalso; omega) | ((try simp only [List.length_map] at h); first | (exfalso; omega) | (conv => whnf)))) | ((with_reducible refine XInt.i64 (by omega) (by omega) ?_); conv => whnf) | (with_reducible apply XAnd.mk) | ((first | (with_reducible apply Chk.go) | (with_reducible apply ChkA.go) | (with_reducible apply ChkF.go) | (with_reducible apply ChkB.go)); conv => whnf) | (exact XSame.mk rfl rfl) | (with_reducible exact trivial) | (apply Walk.drawN (id := 28) tab_ok mixed_ok [] [16] (hsC [_, _]) [_, _, _, _, _, _, _, _, _, _, _, _, _, _, _, _, _] (by kernel_rfl) rfl) | ((first | (with_reducible apply XNext.mk) | (refine XHold.mk ⟨hvl, rfl, by omega, by omega⟩ ?_) | (refine XGet.vecV 0 (by omega) rfl (by omega) ?_) | (refine XHold.mk ⟨hbl _, rfl, by omega, by omega⟩ ?_) | ((refine XGet.blsJ n (by omega) rfl (by omega) ?_); rw [if_neg (Nat.lt_irrefl n), hr0]) | (refine XPut.bls n (by omega) rfl (by omega) ?_)); conv => whnf) | fail
              refine XAgain.go (n + 1) (by omega) (by omega) ?_ ⟨rfl, rfl, rfl, rfl, rfl, rfl, trivial⟩
              rw [← row_next2 (show false = psF b p 0 n by rw [psF_step (by omega), hr0, hu] <;> rfl)] <;> rfl
            | true =>
              repeat' first | ((with_reducible apply XBr.tt); conv => whnf) | ((with_reducible apply XBr.dec) <;> (intro h; first | (exfalso; omega) | ((try simp only [List.length_map] at h); first | (exfalso; omega) | (conv => whnf)))) | ((with_reducible refine XInt.i64 (by omega) (by omega) ?_); conv => whnf) | (with_reducible apply XAnd.mk) | ((first | (with_reducible apply Chk.go) | (with_reducible apply ChkA.go) | (with_reducible apply ChkF.go) | (with_reducible apply ChkB.go)); conv => whnf) | (exact XSame.mk rfl rfl) | (with_reducible exact trivial) | (apply Walk.drawN (id := 28) tab_ok mixed_ok [] [16] (hsC [_, _]) [_, _, _, _, _, _, _, _, _, _, _, _, _, _, _, _, _] (by kernel_rfl) rfl) | ((first | (with_reducible apply XNext.mk) | (refine XHold.mk ⟨hvl, rfl, by omega, by omega⟩ ?_) | (refine XGet.vecV 0 (by omega) rfl (by omega) ?_) | (refine XHold.mk ⟨hbl _, rfl, by omega, by omega⟩ ?_) | ((refine XGet.blsJ n (by omega) rfl (by omega) ?_); rw [if_neg (Nat.lt_irrefl n), hr0]) | (refine XPut.bls n (by omega) rfl (by omega) ?_)); conv => whnf) | fail
              refine XAgain.go (n + 1) (by omega) (by omega) ?_ ⟨rfl, rfl, rfl, rfl, rfl, rfl, trivial⟩
              rw [← row_next2 (show u = psF b p 0 n by rw [psF_step (by omega), hr0, hu] <;> rfl)] <;> rfl
        · obtain rfl : n = (b.room + 1).toNat := by omega
          rw [show (bls (b.room + 1).toNat fun q => if q < (b.room + 1).toNat then psF b p 0 q else psR b p 0 q) = bls (b.room + 1).toNat (psF b p 0) from bls_congr fun q hq => if_pos hq]
          conv => whnf
          repeat' first | ((with_reducible apply XBr.dec) <;> (intro h; first | (exfalso; omega) | ((try simp only [List.length_map] at h); first | (exfalso; omega) | (conv => whnf)))) | ((with_reducible refine XInt.i64 (by omega) (by omega) ?_); conv => whnf) | fail
          refine XAgain.go (j + 1) (by omega) (by omega) ?_ ⟨rfl, rfl, rfl, rfl, congrArg (fun z => some (AV.int .i64 z)) (by omega), trivial⟩
          unfold psP
          rw [psB_fin (k := 0) (by omega) (by omega), psB_fin (k := 1) (by omega) (by omega), psB_other (k := 2) (by omega), psB_other (k := 3) (by omega), psB_other (k := 4) (by omega), psB_other (k := 5) (by omega), psB_other (k := 6) (by omega), psB_other (k := 7) (by omega), psB_other (k := 8) (by omega), psB_other (k := 9) (by omega), psB_other (k := 10) (by omega)] <;> rfl
      · skip
        have hN : (b.months.length : Int) - 1 - j = ((1 : Nat) : Int) := by omega
        rw [hN, show psP b p j = [psOut (b.room + 1).toNat (b.months.length + 1), psB b p j 0, .grow 4 false (bls (b.room + 1).toNat (psR b p 1)), .grow 4 false (bls (b.room + 1).toNat (psF b p 2)), psB b p j 3, psB b p j 4, psB b p j 5, psB b p j 6, psB b p j 7, psB b p j 8, psB b p j 9, psB b p j 10] by unfold psP; rw [psB_cur (k := 1) (by omega), psB_fin (k := 2) (by omega) (by omega)]]
        conv => whnf
        repeat' first | ((with_reducible apply XBr.dec) <;> (intro h; first | (exfalso; omega) | ((try simp only [List.length_map] at h); first | (exfalso; omega) | (conv => whnf)))) | fail
        refine Walk.loopK tab_ok [] [(1, _), (3, _), (6, _), (7, _), (12, _)] ⟨rfl, rfl, rfl, rfl, rfl, trivial⟩ (fun n : Nat => (n : Int) ≤ b.room + 1) (fun n => [(13, natA n)]) (fun n => [psOut (b.room + 1).toNat (b.months.length + 1), psB b p j 0, .grow 4 false (bls (b.room + 1).toNat fun q => if q < n then psF b p 1 q else psR b p 1 q), .grow 4 false (bls (b.room + 1).toNat (psF b p 2)), psB b p j 3, psB b p j 4, psB b p j 5, psB b p j 6, psB b p j 7, psB b p j 8, psB b p j 9, psB b p j 10]) (fun n => (b.room + 1).toNat - n) 0 (by omega) (by rw [show (bls (b.room + 1).toNat fun q => if q < 0 then psF b p 1 q else psR b p 1 q) = bls (b.room + 1).toNat (psR b p 1) from bls_congr fun q _ => if_neg (Nat.not_lt_zero q)] <;> rfl) ⟨rfl, trivial⟩ ?_
        intro n hn
        have hbl := fun F => bls_len (b.room + 1).toNat F
        by_cases hlt : (n : Int) ≤ b.room
        · conv => whnf
          repeat' first | ((with_reducible apply XBr.dec) <;> (intro h; first | (exfalso; omega) | ((try simp only [List.length_map] at h); first | (exfalso; omega) | (conv => whnf)))) | fail
          refine Walk.loopK tab_ok [] [(1, _), (3, _), (6, _), (7, _), (12, _), (13, _)] ⟨rfl, rfl, rfl, rfl, rfl, rfl, trivial⟩ (fun k : Nat => (k : Int) ≤ b.room + 1) (fun k => [(14, .bool ((List.range k).any (fun q => nxF b 1 n q && psF b p 2 q))), (15, natA k)]) (fun _ => [psOut (b.room + 1).toNat (b.months.length + 1), psB b p j 0, .grow 4 false (bls (b.room + 1).toNat fun q => if q < n then psF b p 1 q else psR b p 1 q), .grow 4 false (bls (b.room + 1).toNat (psF b p 2)), psB b p j 3, psB b p j 4, psB b p j 5, psB b p j 6, psB b p j 7, psB b p j 8, psB b p j 9, psB b p j 10]) (fun k => (b.room + 1).toNat - k) 0 (by omega) rfl ⟨rfl, rfl, trivial⟩ ?_
          intro k hk
          by_cases hltk : (k : Int) ≤ b.room
          · obtain ⟨r1, hr1⟩ : ∃ r1, nxF b 1 n k = r1 := ⟨_, rfl⟩
            obtain ⟨r2, hr2⟩ : ∃ r2, psF b p 2 k = r2 := ⟨_, rfl⟩
            obtain ⟨v, hv⟩ : ∃ v, ((List.range k).any (fun q => nxF b 1 n q && psF b p 2 q)) = v := ⟨_, rfl⟩
            rw [hv]
            conv => whnf
            repeat' first | ((with_reducible apply XBr.dec) <;> (intro h; first | (exfalso; omega) | ((try simp only [List.length_map] at h); first | (exfalso; omega) | (conv => whnf)))) | fail
            cases v with
            | true =>
              refine Walk.norm tab_ok [] [(1, _), (3, _), (6, _), (7, _), (12, _), (13, _), (14, _), (15, _)] ⟨rfl, rfl, rfl, rfl, rfl, rfl, rfl, rfl, trivial⟩ ?_
              conv => whnf
              repeat' first | ((first | (with_reducible apply XBr.tt) | (with_reducible refine XInt.i64 (by omega) (by omega) ?_)); conv => whnf) | fail
              exact XAgain.go (k + 1) (by omega) (by omega) rfl ⟨rfl, rfl, rfl, rfl, rfl, rfl, congrArg (fun z => some (AV.bool z)) (by rw [any_next, hv, hr1, hr2] <;> rfl), rfl, trivial⟩
            | false =>
              cases r1 with
              | false =>
                refine Walk.norm tab_ok [] [(1, _), (3, _), (6, _), (7, _), (12, _), (13, _), (14, _), (15, _)] ⟨rfl, rfl, rfl, rfl, rfl, rfl, rfl, rfl, trivial⟩ ?_
                conv => whnf
                repeat' first | ((first | (with_reducible apply XBr.ff) | (with_reducible refine XInt.i64 (by omega) (by omega) ?_) | (refine XIx.vecV 1 (by omega) (by omega) rfl ?_) | (refine XIx.vecV n (by omega) (by omega) rfl ?_) | ((refine XIx.bls k (by omega) (by omega) ?_); rw [hr1])); conv => whnf) | fail
                exact XAgain.go (k + 1) (by omega) (by omega) rfl ⟨rfl, rfl, rfl, rfl, rfl, rfl, congrArg (fun z => some (AV.bool z)) (by rw [any_next, hv, hr1, hr2] <;> rfl), rfl, trivial⟩
              | true =>
                refine Walk.norm tab_ok [] [(1, _), (3, _), (6, _), (7, _), (12, _), (13, _), (14, _), (15, _)] ⟨rfl, rfl, rfl, rfl, rfl, rfl, rfl, rfl, trivial⟩ ?_
                conv => whnf
                repeat' first | ((first | (with_reducible apply XBr.tt) | (with_reducible apply XBr.ff) | (with_reducible refine XInt.i64 (by omega) (by omega) ?_) | (refine XIx.vecV 1 (by omega) (by omega) rfl ?_) | (refine XIx.vecV n (by omega) (by omega) rfl ?_) | ((refine XIx.bls k (by omega) (by omega) ?_); rw [hr1]) | (refine XHold.mk ⟨hvl, rfl, by omega, by omega⟩ ?_) | (refine XGet.vecV 2 (by omega) rfl (by omega) ?_) | (refine XHold.mk ⟨hbl _, rfl, by omega, by omega⟩ ?_) | ((refine XGet.blsJ k (by omega) rfl (by omega) ?_); rw [hr2])); conv => whnf) | fail
                exact XAgain.go (k + 1) (by omega) (by omega) rfl ⟨rfl, rfl, rfl, rfl, rfl, rfl, congrArg (fun z => some (AV.bool z)) (by rw [any_next, hv, hr1, hr2] <;> rfl), rfl, trivial⟩
          · obtain rfl : k = (b.room + 1).toNat := by omega
            obtain ⟨u, hu⟩ : ∃ u, ((List.range (b.room + 1).toNat).any (fun q => nxF b 1 n q && psF b p 2 q)) = u := ⟨_, rfl⟩
            obtain ⟨r0, hr0⟩ : ∃ r0, psR b p 1 n = r0 := ⟨_, rfl⟩
            rw [hu]
            conv => whnf
            cases r0 with
            | false =>
              repeat' first | ((with_reducible apply XBr.ff); conv => whnf) | ((with_reducible apply XBr.dec) <;> (intro h; first | (exfalso; omega) | ((try simp only [List.length_map] at h); first | (exfalso; omega) | (conv => whnf)))) | ((with_reducible refine XInt.i64 (by omega) (by omega) ?_); conv => whnf) | (with_reducible apply XAnd.mk) | ((first | (with_reducible apply Chk.go) | (with_reducible apply ChkA.go) | (with_reducible apply ChkF.go) | (with_reducible apply ChkB.go)); conv => whnf) | (exact XSame.mk rfl rfl) | (with_reducible exact trivial) | (apply Walk.drawN (id := 28) tab_ok mixed_ok [] [16] (hsC [_, _]) [_, _, _, _, _, _, _, _, _, _, _, _, _, _, _, _, _] (by kernel_rfl) rfl) | ((first | (with_reducible apply XNext.mk) | (refine XHold.mk ⟨hvl, rfl, by omega, by omega⟩ ?_) | (refine XGet.vecV 1 (by omega) rfl (by omega) ?_) | (refine XHold.mk ⟨hbl _, rfl, by omega, by omega⟩ ?_) | ((refine XGet.blsJ n (by omega) rfl (by omega) ?_); rw [if_neg (Nat.lt_irrefl n), hr0]) | (refine XPut.bls n (by omega) rfl (by omega) ?_)); conv => whnf) | fail
              refine XAgain.go (n + 1) (by omega) (by omega) ?_ ⟨rfl, rfl, rfl, rfl, rfl, rfl, trivial⟩
              rw [← row_next2 (show false = psF b p 1 n by rw [psF_step (by omega), hr0, hu] <;> rfl)] <;> rfl
            | true =>
              repeat' first | ((with_reducible apply XBr.tt); conv => whnf) | ((with_reducible apply XBr.dec) <;> (intro h; first | (exfalso; omega) | ((try simp only [List.length_map] at h); first | (exfalso; omega) | (conv => whnf)))) | ((with_reducible refine XInt.i64 (by omega) (by omega) ?_); conv => whnf) | (with_reducible apply XAnd.mk) | ((first | (with_reducible apply Chk.go) | (with_reducible apply ChkA.go) | (with_reducible apply ChkF.go) | (with_reducible apply ChkB.go)); conv => whnf) | (exact XSame.mk rfl rfl) | (with_reducible exact trivial) | (apply Walk.drawN (id := 28) tab_ok mixed_ok [] [16] (hsC [_, _]) [_, _, _, _, _, _, _, _, _, _, _, _, _, _, _, _, _] (by kernel_rfl) rfl) | ((first | (with_reducible apply XNext.mk) | (refine XHold.mk ⟨hvl, rfl, by omega, by omega⟩ ?_) | (refine XGet.vecV 1 (by omega) rfl (by omega) ?_) | (refine XHold.mk ⟨hbl _, rfl, by omega, by omega⟩ ?_) | ((refine XGet.blsJ n (by omega) rfl (by omega) ?_); rw [if_neg (Nat.lt_irrefl n), hr0]) | (refine XPut.bls n (by omega) rfl (by omega) ?_)); conv => whnf) | fail
              refine XAgain.go (n + 1) (by omega) (by omega) ?_ ⟨rfl, rfl, rfl, rfl, rfl, rfl, trivial⟩
              rw [← row_next2 (show u = psF b p 1 n by rw [psF_step (by omega), hr0, hu] <;> rfl)] <;> rfl
        · obtain rfl : n = (b.room + 1).toNat := by omega
          rw [show (bls (b.room + 1).toNat fun q => if q < (b.room + 1).toNat then psF b p 1 q else psR b p 1 q) = bls (b.room + 1).toNat (psF b p 1) from bls_congr fun q hq => if_pos hq]
          conv => whnf
          repeat' first | ((with_reducible apply XBr.dec) <;> (intro h; first | (exfalso; omega) | ((try simp only [List.length_map] at h); first | (exfalso; omega) | (conv => whnf)))) | ((with_reducible refine XInt.i64 (by omega) (by omega) ?_); conv => whnf) | fail
          refine XAgain.go (j + 1) (by omega) (by omega) ?_ ⟨rfl, rfl, rfl, rfl, congrArg (fun z => some (AV.int .i64 z)) (by omega), trivial⟩
          unfold psP
          rw [psB_fin (k := 1) (by omega) (by omega), psB_fin (k := 2) (by omega) (by omega), psB_other (k := 0) (by omega), psB_other (k := 3) (by omega), psB_other (k := 4) (by omega), psB_other (k := 5) (by omega), psB_other (k := 6) (by omega), psB_other (k := 7) (by omega), psB_other (k := 8) (by omega), psB_other (k := 9) (by omega), psB_other (k := 10) (by omega)] <;> rfl
      · skip
        have hN : (b.months.length : Int) - 1 - j = ((2 : Nat) : Int) := by omega
        rw [hN, show psP b p j = [psOut (b.room + 1).toNat (b.months.length + 1), psB b p j 0, psB b p j 1, .grow 4 false (bls (b.room + 1).toNat (psR b p 2)), .grow 4 false (bls (b.room + 1).toNat (psF b p 3)), psB b p j 4, psB b p j 5, psB b p j 6, psB b p j 7, psB b p j 8, psB b p j 9, psB b p j 10] by unfold psP; rw [psB_cur (k := 2) (by omega), psB_fin (k := 3) (by omega) (by omega)]]
        conv => whnf
        repeat' first | ((with_reducible apply XBr.dec) <;> (intro h; first | (exfalso; omega) | ((try simp only [List.length_map] at h); first | (exfalso; omega) | (conv => whnf)))) | fail
        refine Walk.loopK tab_ok [] [(1, _), (3, _), (6, _), (7, _), (12, _)] ⟨rfl, rfl, rfl, rfl, rfl, trivial⟩ (fun n : Nat => (n : Int) ≤ b.room + 1) (fun n => [(13, natA n)]) (fun n => [psOut (b.room + 1).toNat (b.months.length + 1), psB b p j 0, psB b p j 1, .grow 4 false (bls (b.room + 1).toNat fun q => if q < n then psF b p 2 q else psR b p 2 q), .grow 4 false (bls (b.room + 1).toNat (psF b p 3)), psB b p j 4, psB b p j 5, psB b p j 6, psB b p j 7, psB b p j 8, psB b p j 9, psB b p j 10]) (fun n => (b.room + 1).toNat - n) 0 (by omega) (by rw [show (bls (b.room + 1).toNat fun q => if q < 0 then psF b p 2 q else psR b p 2 q) = bls (b.room + 1).toNat (psR b p 2) from bls_congr fun q _ => if_neg (Nat.not_lt_zero q)] <;> rfl) ⟨rfl, trivial⟩ ?_
        intro n hn
        have hbl := fun F => bls_len (b.room + 1).toNat F
        by_cases hlt : (n : Int) ≤ b.room
        · conv => whnf
          repeat' first | ((with_reducible apply XBr.dec) <;> (intro h; first | (exfalso; omega) | ((try simp only [List.length_map] at h); first | (exfalso; omega) | (conv => whnf)))) | fail
          refine Walk.loopK tab_ok [] [(1, _), (3, _), (6, _), (7, _), (12, _), (13, _)] ⟨rfl, rfl, rfl, rfl, rfl, rfl, trivial⟩ (fun k : Nat => (k : Int) ≤ b.room + 1) (fun k => [(14, .bool ((List.range k).any (fun q => nxF b 2 n q && psF b p 3 q))), (15, natA k)]) (fun _ => [psOut (b.room + 1).toNat (b.months.length + 1), psB b p j 0, psB b p j 1, .grow 4 false (bls (b.room + 1).toNat fun q => if q < n then psF b p 2 q else psR b p 2 q), .grow 4 false (bls (b.room + 1).toNat (psF b p 3)), psB b p j 4, psB b p j 5, psB b p j 6, psB b p j 7, psB b p j 8, psB b p j 9, psB b p j 10]) (fun k => (b.room + 1).toNat - k) 0 (by omega) rfl ⟨rfl, rfl, trivial⟩ ?_
          intro k hk
          by_cases hltk : (k : Int) ≤ b.room
          · obtain ⟨r1, hr1⟩ : ∃ r1, nxF b 2 n k = r1 := ⟨_, rfl⟩
            obtain ⟨r2, hr2⟩ : ∃ r2, psF b p 3 k = r2 := ⟨_, rfl⟩
            obtain ⟨v, hv⟩ : ∃ v, ((List.range k).any (fun q => nxF b 2 n q && psF b p 3 q)) = v := ⟨_, rfl⟩
            rw [hv]
            conv => whnf
            repeat' first | ((with_reducible apply XBr.dec) <;> (intro h; first | (exfalso; omega) | ((try simp only [List.length_map] at h); first | (exfalso; omega) | (conv => whnf)))) | fail
            cases v with
            | true =>
              refine Walk.norm tab_ok [] [(1, _), (3, _), (6, _), (7, _), (12, _), (13, _), (14, _), (15, _)] ⟨rfl, rfl, rfl, rfl, rfl, rfl, rfl, rfl, trivial⟩ ?_
              conv => whnf
              repeat' first | ((first | (with_reducible apply XBr.tt) | (with_reducible refine XInt.i64 (by omega) (by omega) ?_)); conv => whnf) | fail
              exact XAgain.go (k + 1) (by omega) (by omega) rfl ⟨rfl, rfl, rfl, rfl, rfl, rfl, congrArg (fun z => some (AV.bool z)) (by rw [any_next, hv, hr1, hr2] <;> rfl), rfl, trivial⟩
            | false =>
              cases r1 with
              | false =>
                refine Walk.norm tab_ok [] [(1, _), (3, _), (6, _), (7, _), (12, _), (13, _), (14, _), (15, _)] ⟨rfl, rfl, rfl, rfl, rfl, rfl, rfl, rfl, trivial⟩ ?_
                conv => whnf
                repeat' first | ((first | (with_reducible apply XBr.ff) | (with_reducible refine XInt.i64 (by omega) (by omega) ?_) | (refine XIx.vecV 2 (by omega) (by omega) rfl ?_) | (refine XIx.vecV n (by omega) (by omega) rfl ?_) | ((refine XIx.bls k (by omega) (by omega) ?_); rw [hr1])); conv => whnf) | fail
                exact XAgain.go (k + 1) (by omega) (by omega) rfl ⟨rfl, rfl, rfl, rfl, rfl, rfl, congrArg (fun z => some (AV.bool z)) (by rw [any_next, hv, hr1, hr2] <;> rfl), rfl, trivial⟩
              | true =>
                refine Walk.norm tab_ok [] [(1, _), (3, _), (6, _), (7, _), (12, _), (13, _), (14, _), (15, _)] ⟨rfl, rfl, rfl, rfl, rfl, rfl, rfl, rfl, trivial⟩ ?_
                conv => whnf
                repeat' first | ((first | (with_reducible apply XBr.tt) | (with_reducible apply XBr.ff) | (with_reducible refine XInt.i64 (by omega) (by omega) ?_) | (refine XIx.vecV 2 (by omega) (by omega) rfl ?_) | (refine XIx.vecV n (by omega) (by omega) rfl ?_) | ((refine XIx.bls k (by omega) (by omega) ?_); rw [hr1]) | (refine XHold.mk ⟨hvl, rfl, by omega, by omega⟩ ?_) | (refine XGet.vecV 3 (by omega) rfl (by omega) ?_) | (refine XHold.mk ⟨hbl _, rfl, by omega, by omega⟩ ?_) | ((refine XGet.blsJ k (by omega) rfl (by omega) ?_); rw [hr2])); conv => whnf) | fail
                exact XAgain.go (k + 1) (by omega) (by omega) rfl ⟨rfl, rfl, rfl, rfl, rfl, rfl, congrArg (fun z => some (AV.bool z)) (by rw [any_next, hv, hr1, hr2] <;> rfl), rfl, trivial⟩
          · obtain rfl : k = (b.room + 1).toNat := by omega
            obtain ⟨u, hu⟩ : ∃ u, ((List.range (b.room + 1).toNat).any (fun q => nxF b 2 n q && psF b p 3 q)) = u := ⟨_, rfl⟩
            obtain ⟨r0, hr0⟩ : ∃ r0, psR b p 2 n = r0 := ⟨_, rfl⟩
            rw [hu]
            conv => whnf
            cases r0 with
            | false =>
              repeat' first | ((with_reducible apply XBr.ff); conv => whnf) | ((with_reducible apply XBr.dec) <;> (intro h; first | (exfalso; omega) | ((try simp only [List.length_map] at h); first | (exfalso; omega) | (conv => whnf)))) | ((with_reducible refine XInt.i64 (by omega) (by omega) ?_); conv => whnf) | (with_reducible apply XAnd.mk) | ((first | (with_reducible apply Chk.go) | (with_reducible apply ChkA.go) | (with_reducible apply ChkF.go) | (with_reducible apply ChkB.go)); conv => whnf) | (exact XSame.mk rfl rfl) | (with_reducible exact trivial) | (apply Walk.drawN (id := 28) tab_ok mixed_ok [] [16] (hsC [_, _]) [_, _, _, _, _, _, _, _, _, _, _, _, _, _, _, _, _] (by kernel_rfl) rfl) | ((first | (with_reducible apply XNext.mk) | (refine XHold.mk ⟨hvl, rfl, by omega, by omega⟩ ?_) | (refine XGet.vecV 2 (by omega) rfl (by omega) ?_) | (refine XHold.mk ⟨hbl _, rfl, by omega, by omega⟩ ?_) | ((refine XGet.blsJ n (by omega) rfl (by omega) ?_); rw [if_neg (Nat.lt_irrefl n), hr0]) | (refine XPut.bls n (by omega) rfl (by omega) ?_)); conv => whnf) | fail
              refine XAgain.go (n + 1) (by omega) (by omega) ?_ ⟨rfl, rfl, rfl, rfl, rfl, rfl, trivial⟩
              rw [← row_next2 (show false = psF b p 2 n by rw [psF_step (by omega), hr0, hu] <;> rfl)] <;> rfl
            | true =>
              repeat' first | ((with_reducible apply XBr.tt); conv => whnf) | ((with_reducible apply XBr.dec) <;> (intro h; first | (exfalso; omega) | ((try simp only [List.length_map] at h); first | (exfalso; omega) | (conv => whnf)))) | ((with_reducible refine XInt.i64 (by omega) (by omega) ?_); conv => whnf) | (with_reducible apply XAnd.mk) | ((first | (with_reducible apply Chk.go) | (with_reducible apply ChkA.go) | (with_reducible apply ChkF.go) | (with_reducible apply ChkB.go)); conv => whnf) | (exact XSame.mk rfl rfl) | (with_reducible exact trivial) | (apply Walk.drawN (id := 28) tab_ok mixed_ok [] [16] (hsC [_, _]) [_, _, _, _, _, _, _, _, _, _, _, _, _, _, _, _, _] (by kernel_rfl) rfl) | ((first | (with_reducible apply XNext.mk) | (refine XHold.mk ⟨hvl, rfl, by omega, by omega⟩ ?_) | (refine XGet.vecV 2 (by omega) rfl (by omega) ?_) | (refine XHold.mk ⟨hbl _, rfl, by omega, by omega⟩ ?_) | ((refine XGet.blsJ n (by omega) rfl (by omega) ?_); rw [if_neg (Nat.lt_irrefl n), hr0]) | (refine XPut.bls n (by omega) rfl (by omega) ?_)); conv => whnf) | fail
              refine XAgain.go (n + 1) (by omega) (by omega) ?_ ⟨rfl, rfl, rfl, rfl, rfl, rfl, trivial⟩
              rw [← row_next2 (show u = psF b p 2 n by rw [psF_step (by omega), hr0, hu] <;> rfl)] <;> rfl
        · obtain rfl : n = (b.room + 1).toNat := by omega
          rw [show (bls (b.room + 1).toNat fun q => if q < (b.room + 1).toNat then psF b p 2 q else psR b p 2 q) = bls (b.room + 1).toNat (psF b p 2) from bls_congr fun q hq => if_pos hq]
          conv => whnf
          repeat' first | ((with_reducible apply XBr.dec) <;> (intro h; first | (exfalso; omega) | ((try simp only [List.length_map] at h); first | (exfalso; omega) | (conv => whnf)))) | ((with_reducible refine XInt.i64 (by omega) (by omega) ?_); conv => whnf) | fail
          refine XAgain.go (j + 1) (by omega) (by omega) ?_ ⟨rfl, rfl, rfl, rfl, congrArg (fun z => some (AV.int .i64 z)) (by omega), trivial⟩
          unfold psP
          rw [psB_fin (k := 2) (by omega) (by omega), psB_fin (k := 3) (by omega) (by omega), psB_other (k := 0) (by omega), psB_other (k := 1) (by omega), psB_other (k := 4) (by omega), psB_other (k := 5) (by omega), psB_other (k := 6) (by omega), psB_other (k := 7) (by omega), psB_other (k := 8) (by omega), psB_other (k := 9) (by omega), psB_other (k := 10) (by omega)] <;> rfl
      · skip
        have hN : (b.months.length : Int) - 1 - j = ((3 : Nat) : Int) := by omega
        rw [hN, show psP b p j = [psOut (b.room + 1).toNat (b.months.length + 1), psB b p j 0, psB b p j 1, psB b p j 2, .grow 4 false (bls (b.room + 1).toNat (psR b p 3)), .grow 4 false (bls (b.room + 1).toNat (psF b p 4)), psB b p j 5, psB b p j 6, psB b p j 7, psB b p j 8, psB b p j 9, psB b p j 10] by unfold psP; rw [psB_cur (k := 3) (by omega), psB_fin (k := 4) (by omega) (by omega)]]
        conv => whnf
        repeat' first | ((with_reducible apply XBr.dec) <;> (intro h; first | (exfalso; omega) | ((try simp only [List.length_map] at h); first | (exfalso; omega) | (conv => whnf)))) | fail
        refine Walk.loopK tab_ok [] [(1, _), (3, _), (6, _), (7, _), (12, _)] ⟨rfl, rfl, rfl, rfl, rfl, trivial⟩ (fun n : Nat => (n : Int) ≤ b.room + 1) (fun n => [(13, natA n)]) (fun n => [psOut (b.room + 1).toNat (b.months.length + 1), psB b p j 0, psB b p j 1, psB b p j 2, .grow 4 false (bls (b.room + 1).toNat fun q => if q < n then psF b p 3 q else psR b p 3 q), .grow 4 false (bls (b.room + 1).toNat (psF b p 4)), psB b p j 5, psB b p j 6, psB b p j 7, psB b p j 8, psB b p j 9, psB b p j 10]) (fun n => (b.room + 1).toNat - n) 0 (by omega) (by rw [show (bls (b.room + 1).toNat fun q => if q < 0 then psF b p 3 q else psR b p 3 q) = bls (b.room + 1).toNat (psR b p 3) from bls_congr fun q _ => if_neg (Nat.not_lt_zero q)] <;> rfl) ⟨rfl, trivial⟩ ?_
        intro n hn
        have hbl := fun F => bls_len (b.room + 1).toNat F
        by_cases hlt : (n : Int) ≤ b.room
        · conv => whnf
          repeat' first | ((with_reducible apply XBr.dec) <;> (intro h; first | (exfalso; omega) | ((try simp only [List.length_map] at h); first | (exfalso; omega) | (conv => whnf)))) | fail
          refine Walk.loopK tab_ok [] [(1, _), (3, _), (6, _), (7, _), (12, _), (13, _)] ⟨rfl, rfl, rfl, rfl, rfl, rfl, trivial⟩ (fun k : Nat => (k : Int) ≤ b.room + 1) (fun k => [(14, .bool ((List.range k).any (fun q => nxF b 3 n q && psF b p 4 q))), (15, natA k)]) (fun _ => [psOut (b.room + 1).toNat (b.months.length + 1), psB b p j 0, psB b p j 1, psB b p j 2, .grow 4 false (bls (b.room + 1).toNat fun q => if q < n then psF b p 3 q else psR b p 3 q), .grow 4 false (bls (b.room + 1).toNat (psF b p 4)), psB b p j 5, psB b p j 6, psB b p j 7, psB b p j 8, psB b p j 9, psB b p j 10]) (fun k => (b.room + 1).toNat - k) 0 (by omega) rfl ⟨rfl, rfl, trivial⟩ ?_
          intro k hk
          by_cases hltk : (k : Int) ≤ b.room
          · obtain ⟨r1, hr1⟩ : ∃ r1, nxF b 3 n k = r1 := ⟨_, rfl⟩
            obtain ⟨r2, hr2⟩ : ∃ r2, psF b p 4 k = r2 := ⟨_, rfl⟩
            obtain ⟨v, hv⟩ : ∃ v, ((List.range k).any (fun q => nxF b 3 n q && psF b p 4 q)) = v := ⟨_, rfl⟩
            rw [hv]
            conv => whnf
            repeat' first | ((with_reducible apply XBr.dec) <;> (intro h; first | (exfalso; omega) | ((try simp only [List.length_map] at h); first | (exfalso; omega) | (conv => whnf)))) | fail
            cases v with
            | true =>
              refine Walk.norm tab_ok [] [(1, _), (3, _), (6, _), (7, _), (12, _), (13, _), (14, _), (15, _)] ⟨rfl, rfl, rfl, rfl, rfl, rfl, rfl, rfl, trivial⟩ ?_
              conv => whnf
              repeat' first | ((first | (with_reducible apply XBr.tt) | (with_reducible refine XInt.i64 (by omega) (by omega) ?_)); conv => whnf) | fail
              exact XAgain.go (k + 1) (by omega) (by omega) rfl ⟨rfl, rfl, rfl, rfl, rfl, rfl, congrArg (fun z => some (AV.bool z)) (by rw [any_next, hv, hr1, hr2] <;> rfl), rfl, trivial⟩
            | false =>
              cases r1 with
              | false =>
                refine Walk.norm tab_ok [] [(1, _), (3, _), (6, _), (7, _), (12, _), (13, _), (14, _), (15, _)] ⟨rfl, rfl, rfl, rfl, rfl, rfl, rfl, rfl, trivial⟩ ?_
                conv => whnf
                repeat' first | ((first | (with_reducible apply XBr.ff) | (with_reducible refine XInt.i64 (by omega) (by omega) ?_) | (refine XIx.vecV 3 (by omega) (by omega) rfl ?_) | (refine XIx.vecV n (by omega) (by omega) rfl ?_) | ((refine XIx.bls k (by omega) (by omega) ?_); rw [hr1])); conv => whnf) | fail
                exact XAgain.go (k + 1) (by omega) (by omega) rfl ⟨rfl, rfl, rfl, rfl, rfl, rfl, congrArg (fun z => some (AV.bool z)) (by rw [any_next, hv, hr1, hr2] <;> rfl), rfl, trivial⟩
              | true =>
                refine Walk.norm tab_ok [] [(1, _), (3, _), (6, _), (7, _), (12, _), (13, _), (14, _), (15, _)] ⟨rfl, rfl, rfl, rfl, rfl, rfl, rfl, rfl, trivial⟩ ?_
                conv => whnf
                repeat' first | ((first | (with_reducible apply XBr.tt) | (with_reducible apply XBr.ff) | (with_reducible refine XInt.i64 (by omega) (by omega) ?_) | (refine XIx.vecV 3 (by omega) (by omega) rfl ?_) | (refine XIx.vecV n (by omega) (by omega) rfl ?_) | ((refine XIx.bls k (by omega) (by omega) ?_); rw [hr1]) | (refine XHold.mk ⟨hvl, rfl, by omega, by omega⟩ ?_) | (refine XGet.vecV 4 (by omega) rfl (by omega) ?_) | (refine XHold.mk ⟨hbl _, rfl, by omega, by omega⟩ ?_) | ((refine XGet.blsJ k (by omega) rfl (by omega) ?_); rw [hr2])); conv => whnf) | fail
                exact XAgain.go (k + 1) (by omega) (by omega) rfl ⟨rfl, rfl, rfl, rfl, rfl, rfl, congrArg (fun z => some (AV.bool z)) (by rw [any_next, hv, hr1, hr2] <;> rfl), rfl, trivial⟩
          · obtain rfl : k = (b.room + 1).toNat := by omega
            obtain ⟨u, hu⟩ : ∃ u, ((List.range (b.room + 1).toNat).any (fun q => nxF b 3 n q && psF b p 4 q)) = u := ⟨_, rfl⟩
            obtain ⟨r0, hr0⟩ : ∃ r0, psR b p 3 n = r0 := ⟨_, rfl⟩
            rw [hu]
            conv => whnf
            cases r0 with
            | false =>
              repeat' first | ((with_reducible apply XBr.ff); conv => whnf) | ((with_reducible apply XBr.dec) <;> (intro h; first | (exfalso; omega) | ((try simp only [List.length_map] at h); first | (exfalso; omega) | (conv => whnf)))) | ((with_reducible refine XInt.i64 (by omega) (by omega) ?_); conv => whnf) | (with_reducible apply XAnd.mk) | ((first | (with_reducible apply Chk.go) | (with_reducible apply ChkA.go) | (with_reducible apply ChkF.go) | (with_reducible apply ChkB.go)); conv => whnf) | (exact XSame.mk rfl rfl) | (with_reducible exact trivial) | (apply Walk.drawN (id := 28) tab_ok mixed_ok [] [16] (hsC [_, _]) [_, _, _, _, _, _, _, _, _, _, _, _, _, _, _, _, _] (by kernel_rfl) rfl) | ((first | (with_reducible apply XNext.mk) | (refine XHold.mk ⟨hvl, rfl, by omega, by omega⟩ ?_) | (refine XGet.vecV 3 (by omega) rfl (by omega) ?_) | (refine XHold.mk ⟨hbl _, rfl, by omega, by omega⟩ ?_) | ((refine XGet.blsJ n (by omega) rfl (by omega) ?_); rw [if_neg (Nat.lt_irrefl n), hr0]) | (refine XPut.bls n (by omega) rfl (by omega) ?_)); conv => whnf) | fail
              refine XAgain.go (n + 1) (by omega) (by omega) ?_ ⟨rfl, rfl, rfl, rfl, rfl, rfl, trivial⟩
              rw [← row_next2 (show false = psF b p 3 n by rw [psF_step (by omega), hr0, hu] <;> rfl)] <;> rfl
            | true =>
              repeat' first | ((with_reducible apply XBr.tt); conv => whnf) | ((with_reducible apply XBr.dec) <;> (intro h; first | (exfalso; omega) | ((try simp only [List.length_map] at h); first | (exfalso; omega) | (conv => whnf)))) | ((with_reducible refine XInt.i64 (by omega) (by omega) ?_); conv => whnf) | (with_reducible apply XAnd.mk) | ((first | (with_reducible apply Chk.go) | (with_reducible apply ChkA.go) | (with_reducible apply ChkF.go) | (with_reducible apply ChkB.go)); conv => whnf) | (exact XSame.mk rfl rfl) | (with_reducible exact trivial) | (apply Walk.drawN (id := 28) tab_ok mixed_ok [] [16] (hsC [_, _]) [_, _, _, _, _, _, _, _, _, _, _, _, _, _, _, _, _] (by kernel_rfl) rfl) | ((first | (with_reducible apply XNext.mk) | (refine XHold.mk ⟨hvl, rfl, by omega, by omega⟩ ?_) | (refine XGet.vecV 3 (by omega) rfl (by omega) ?_) | (refine XHold.mk ⟨hbl _, rfl, by omega, by omega⟩ ?_) | ((refine XGet.blsJ n (by omega) rfl (by omega) ?_); rw [if_neg (Nat.lt_irrefl n), hr0]) | (refine XPut.bls n (by omega) rfl (by omega) ?_)); conv => whnf) | fail
              refine XAgain.go (n + 1) (by omega) (by omega) ?_ ⟨rfl, rfl, rfl, rfl, rfl, rfl, trivial⟩
              rw [← row_next2 (show u = psF b p 3 n by rw [psF_step (by omega), hr0, hu] <;> rfl)] <;> rfl
        · obtain rfl : n = (b.room + 1).toNat := by omega
          rw [show (bls (b.room + 1).toNat fun q => if q < (b.room + 1).toNat then psF b p 3 q else psR b p 3 q) = bls (b.room + 1).toNat (psF b p 3) from bls_congr fun q hq => if_pos hq]
          conv => whnf
          repeat' first | ((with_reducible apply XBr.dec) <;> (intro h; first | (exfalso; omega) | ((try simp only [List.length_map] at h); first | (exfalso; omega) | (conv => whnf)))) | ((with_reducible refine XInt.i64 (by omega) (by omega) ?_); conv => whnf) | fail
          refine XAgain.go (j + 1) (by omega) (by omega) ?_ ⟨rfl, rfl, rfl, rfl, congrArg (fun z => some (AV.int .i64 z)) (by omega), trivial⟩
          unfold psP
          rw [psB_fin (k := 3) (by omega) (by omega), psB_fin (k := 4) (by omega) (by omega), psB_other (k := 0) (by omega), psB_other (k := 1) (by omega), psB_other (k := 2) (by omega), psB_other (k := 5) (by omega), psB_other (k := 6) (by omega), psB_other (k := 7) (by omega), psB_other (k := 8) (by omega), psB_other (k := 9) (by omega), psB_other (k := 10) (by omega)] <;> rfl
      · skip
        have hN : (b.months.length : Int) - 1 - j = ((4 : Nat) : Int) := by omega
        rw [hN, show psP b p j = [psOut (b.room + 1).toNat (b.months.length + 1), psB b p j 0, psB b p j 1, psB b p j 2, psB b p j 3, .grow 4 false (bls (b.room + 1).toNat (psR b p 4)), .grow 4 false (bls (b.room + 1).toNat (psF b p 5)), psB b p j 6, psB b p j 7, psB b p j 8, psB b p j 9, psB b p j 10] by unfold psP; rw [psB_cur (k := 4) (by omega), psB_fin (k := 5) (by omega) (by omega)]]
        conv => whnf
        repeat' first | ((with_reducible apply XBr.dec) <;> (intro h; first | (exfalso; omega) | ((try simp only [List.length_map] at h); first | (exfalso; omega) | (conv => whnf)))) | fail
        refine Walk.loopK tab_ok [] [(1, _), (3, _), (6, _), (7, _), (12, _)] ⟨rfl, rfl, rfl, rfl, rfl, trivial⟩ (fun n : Nat => (n : Int) ≤ b.room + 1) (fun n => [(13, natA n)]) (fun n => [psOut (b.room + 1).toNat (b.months.length + 1), psB b p j 0, psB b p j 1, psB b p j 2, psB b p j 3, .grow 4 false (bls (b.room + 1).toNat fun q => if q < n then psF b p 4 q else psR b p 4 q), .grow 4 false (bls (b.room + 1).toNat (psF b p 5)), psB b p j 6, psB b p j 7, psB b p j 8, psB b p j 9, psB b p j 10]) (fun n => (b.room + 1).toNat - n) 0 (by omega) (by rw [show (bls (b.room + 1).toNat fun q => if q < 0 then psF b p 4 q else psR b p 4 q) = bls (b.room + 1).toNat (psR b p 4) from bls_congr fun q _ => if_neg (Nat.not_lt_zero q)] <;> rfl) ⟨rfl, trivial⟩ ?_
        intro n hn
        have hbl := fun F => bls_len (b.room + 1).toNat F
        by_cases hlt : (n : Int) ≤ b.room
        · conv => whnf
          repeat' first | ((with_reducible apply XBr.dec) <;> (intro h; first | (exfalso; omega) | ((try simp only [List.length_map] at h); first | (exfalso; omega) | (conv => whnf)))) | fail
          refine Walk.loopK tab_ok [] [(1, _), (3, _), (6, _), (7, _), (12, _), (13, _)] ⟨rfl, rfl, rfl, rfl, rfl, rfl, trivial⟩ (fun k : Nat => (k : Int) ≤ b.room + 1) (fun k => [(14, .bool ((List.range k).any (fun q => nxF b 4 n q && psF b p 5 q))), (15, natA k)]) (fun _ => [psOut (b.room + 1).toNat (b.months.length + 1), psB b p j 0, psB b p j 1, psB b p j 2, psB b p j 3, .grow 4 false (bls (b.room + 1).toNat fun q => if q < n then psF b p 4 q else psR b p 4 q), .grow 4 false (bls (b.room + 1).toNat (psF b p 5)), psB b p j 6, psB b p j 7, psB b p j 8, psB b p j 9, psB b p j 10]) (fun k => (b.room + 1).toNat - k) 0 (by omega) rfl ⟨rfl, rfl, trivial⟩ ?_
          intro k hk
          by_cases hltk : (k : Int) ≤ b.room
          · obtain ⟨r1, hr1⟩ : ∃ r1, nxF b 4 n k = r1 := ⟨_, rfl⟩
            obtain ⟨r2, hr2⟩ : ∃ r2, psF b p 5 k = r2 := ⟨_, rfl⟩
            obtain ⟨v, hv⟩ : ∃ v, ((List.range k).any (fun q => nxF b 4 n q && psF b p 5 q)) = v := ⟨_, rfl⟩
            rw [hv]
            conv => whnf
            repeat' first | ((with_reducible apply XBr.dec) <;> (intro h; first | (exfalso; omega) | ((try simp only [List.length_map] at h); first | (exfalso; omega) | (conv => whnf)))) | fail
            cases v with
            | true =>
              refine Walk.norm tab_ok [] [(1, _), (3, _), (6, _), (7, _), (12, _), (13, _), (14, _), (15, _)] ⟨rfl, rfl, rfl, rfl, rfl, rfl, rfl, rfl, trivial⟩ ?_
              conv => whnf
              repeat' first | ((first | (with_reducible apply XBr.tt) | (with_reducible refine XInt.i64 (by omega) (by omega) ?_)); conv => whnf) | fail
              exact XAgain.go (k + 1) (by omega) (by omega) rfl ⟨rfl, rfl, rfl, rfl, rfl, rfl, congrArg (fun z => some (AV.bool z)) (by rw [any_next, hv, hr1, hr2] <;> rfl), rfl, trivial⟩
            | false =>
              cases r1 with
              | false =>
                refine Walk.norm tab_ok [] [(1, _), (3, _), (6, _), (7, _), (12, _), (13, _), (14, _), (15, _)] ⟨rfl, rfl, rfl, rfl, rfl, rfl, rfl, rfl, trivial⟩ ?_
                conv => whnf
                repeat' first | ((first | (with_reducible apply XBr.ff) | (with_reducible refine XInt.i64 (by omega) (by omega) ?_) | (refine XIx.vecV 4 (by omega) (by omega) rfl ?_) | (refine XIx.vecV n (by omega) (by omega) rfl ?_) | ((refine XIx.bls k (by omega) (by omega) ?_); rw [hr1])); conv => whnf) | fail
                exact XAgain.go (k + 1) (by omega) (by omega) rfl ⟨rfl, rfl, rfl, rfl, rfl, rfl, congrArg (fun z => some (AV.bool z)) (by rw [any_next, hv, hr1, hr2] <;> rfl), rfl, trivial⟩
              | true =>
                refine Walk.norm tab_ok [] [(1, _), (3, _), (6, _), (7, _), (12, _), (13, _), (14, _), (15, _)] ⟨rfl, rfl, rfl, rfl, rfl, rfl, rfl, rfl, trivial⟩ ?_
                conv => whnf
                repeat' first | ((first | (with_reducible apply XBr.tt) | (with_reducible apply XBr.ff) | (with_reducible refine XInt.i64 (by omega) (by omega) ?_) | (refine XIx.vecV 4 (by omega) (by omega) rfl ?_) | (refine XIx.vecV n (by omega) (by omega) rfl ?_) | ((refine XIx.bls k (by omega) (by omega) ?_); rw [hr1]) | (refine XHold.mk ⟨hvl, rfl, by omega, by omega⟩ ?_) | (refine XGet.vecV 5 (by omega) rfl (by omega) ?_) | (refine XHold.mk ⟨hbl _, rfl, by omega, by omega⟩ ?_) | ((refine XGet.blsJ k (by omega) rfl (by omega) ?_); rw [hr2])); conv => whnf) | fail
                exact XAgain.go (k + 1) (by omega) (by omega) rfl ⟨rfl, rfl, rfl, rfl, rfl, rfl, congrArg (fun z => some (AV.bool z)) (by rw [any_next, hv, hr1, hr2] <;> rfl), rfl, trivial⟩
          · obtain rfl : k = (b.room + 1).toNat := by omega
            obtain ⟨u, hu⟩ : ∃ u, ((List.range (b.room + 1).toNat).any (fun q => nxF b 4 n q && psF b p 5 q)) = u := ⟨_, rfl⟩
            obtain ⟨r0, hr0⟩ : ∃ r0, psR b p 4 n = r0 := ⟨_, rfl⟩
            rw [hu]
            conv => whnf
            cases r0 with
            | false =>
              repeat' first | ((with_reducible apply XBr.ff); conv => whnf) | ((with_reducible apply XBr.dec) <;> (intro h; first | (exfalso; omega) | ((try simp only [List.length_map] at h); first | (exfalso; omega) | (conv => whnf)))) | ((with_reducible refine XInt.i64 (by omega) (by omega) ?_); conv => whnf) | (with_reducible apply XAnd.mk) | ((first | (with_reducible apply Chk.go) | (with_reducible apply ChkA.go) | (with_reducible apply ChkF.go) | (with_reducible apply ChkB.go)); conv => whnf) | (exact XSame.mk rfl rfl) | (with_reducible exact trivial) | (apply Walk.drawN (id := 28) tab_ok mixed_ok [] [16] (hsC [_, _]) [_, _, _, _, _, _, _, _, _, _, _, _, _, _, _, _, _] (by kernel_rfl) rfl) | ((first | (with_reducible apply XNext.mk) | (refine XHold.mk ⟨hvl, rfl, by omega, by omega⟩ ?_) | (refine XGet.vecV 4 (by omega) rfl (by omega) ?_) | (refine XHold.mk ⟨hbl _, rfl, by omega, by omega⟩ ?_) | ((refine XGet.blsJ n (by omega) rfl (by omega) ?_); rw [if_neg (Nat.lt_irrefl n), hr0]) | (refine XPut.bls n (by omega) rfl (by omega) ?_)); conv => whnf) | fail
              refine XAgain.go (n + 1) (by omega) (by omega) ?_ ⟨rfl, rfl, rfl, rfl, rfl, rfl, trivial⟩
              rw [← row_next2 (show false = psF b p 4 n by rw [psF_step (by omega), hr0, hu] <;> rfl)] <;> rfl
            | true =>
              repeat' first | ((with_reducible apply XBr.tt); conv => whnf) | ((with_reducible apply XBr.dec) <;> (intro h; first | (exfalso; omega) | ((try simp only [List.length_map] at h); first | (exfalso; omega) | (conv => whnf)))) | ((with_reducible refine XInt.i64 (by omega) (by omega) ?_); conv => whnf) | (with_reducible apply XAnd.mk) | ((first | (with_reducible apply Chk.go) | (with_reducible apply ChkA.go) | (with_reducible apply ChkF.go) | (with_reducible apply ChkB.go)); conv => whnf) | (exact XSame.mk rfl rfl) | (with_reducible exact trivial) | (apply Walk.drawN (id := 28) tab_ok mixed_ok [] [16] (hsC [_, _]) [_, _, _, _, _, _, _, _, _, _, _, _, _, _, _, _, _] (by kernel_rfl) rfl) | ((first | (with_reducible apply XNext.mk) | (refine XHold.mk ⟨hvl, rfl, by omega, by omega⟩ ?_) | (refine XGet.vecV 4 (by omega) rfl (by omega) ?_) | (refine XHold.mk ⟨hbl _, rfl, by omega, by omega⟩ ?_) | ((refine XGet.blsJ n (by omega) rfl (by omega) ?_); rw [if_neg (Nat.lt_irrefl n), hr0]) | (refine XPut.bls n (by omega) rfl (by omega) ?_)); conv => whnf) | fail
              refine XAgain.go (n + 1) (by omega) (by omega) ?_ ⟨rfl, rfl, rfl, rfl, rfl, rfl, trivial⟩
              rw [← row_next2 (show u = psF b p 4 n by rw [psF_step (by omega), hr0, hu] <;> rfl)] <;> rfl
        · obtain rfl : n = (b.room + 1).toNat := by omega
          rw [show (bls (b.room + 1).toNat fun q => if q < (b.room + 1).toNat then psF b p 4 q else psR b p 4 q) = bls (b.room + 1).toNat (psF b p 4) from bls_congr fun q hq => if_pos hq]
          conv => whnf
          repeat' first | ((with_reducible apply XBr.dec) <;> (intro h; first | (exfalso; omega) | ((try simp only [List.length_map] at h); first | (exfalso; omega) | (conv => whnf)))) | ((with_reducible refine XInt.i64 (by omega) (by omega) ?_); conv => whnf) | fail
          refine XAgain.go (j + 1) (by omega) (by omega) ?_ ⟨rfl, rfl, rfl, rfl, congrArg (fun z => some (AV.int .i64 z)) (by omega), trivial⟩
          unfold psP
          rw [psB_fin (k := 4) (by omega) (by omega), psB_fin (k := 5) (by omega) (by omega), psB_other (k := 0) (by omega), psB_other (k := 1) (by omega), psB_other (k := 2) (by omega), psB_other (k := 3) (by omega), psB_other (k := 6) (by omega), psB_other (k := 7) (by omega), psB_other (k := 8) (by omega), psB_other (k := 9) (by omega), psB_other (k := 10) (by omega)] <;> rfl
      · skip
        have hN : (b.months.length : Int) - 1 - j = ((5 : Nat) : Int) := by omega
        rw [hN, show psP b p j = [psOut (b.room + 1).toNat (b.months.length + 1), psB b p j 0, psB b p j 1, psB b p j 2, psB b p j 3, psB b p j 4, .grow 4 false (bls (b.room + 1).toNat (psR b p 5)), .grow 4 false (bls (b.room + 1).toNat (psF b p 6)), psB b p j 7, psB b p j 8, psB b p j 9, psB b p j 10] by unfold psP; rw [psB_cur (k := 5) (by omega), psB_fin (k := 6) (by omega) (by omega)]]
        conv => whnf
        repeat' first | ((with_reducible apply XBr.dec) <;> (intro h; first | (exfalso; omega) | ((try simp only [List.length_map] at h); first | (exfalso; omega) | (conv => whnf)))) | fail
        refine Walk.loopK tab_ok [] [(1, _), (3, _), (6, _), (7, _), (12, _)] ⟨rfl, rfl, rfl, rfl, rfl, trivial⟩ (fun n : Nat => (n : Int) ≤ b.room + 1) (fun n => [(13, natA n)]) (fun n => [psOut (b.room + 1).toNat (b.months.length + 1), psB b p j 0, psB b p j 1, psB b p j 2, psB b p j 3, psB b p j 4, .grow 4 false (bls (b.room + 1).toNat fun q => if q < n then psF b p 5 q else psR b p 5 q), .grow 4 false (bls (b.room + 1).toNat (psF b p 6)), psB b p j 7, psB b p j 8, psB b p j 9, psB b p j 10]) (fun n => (b.room + 1).toNat - n) 0 (by omega) (by rw [show (bls (b.room + 1).toNat fun q => if q < 0 then psF b p 5 q else psR b p 5 q) = bls (b.room + 1).toNat (psR b p 5) from bls_congr fun q _ => if_neg (Nat.not_lt_zero q)] <;> rfl) ⟨rfl, trivial⟩ ?_
        intro n hn
        have hbl := fun F => bls_len (b.room + 1).toNat F
        by_cases hlt : (n : Int) ≤ b.room
        · conv => whnf
          repeat' first | ((with_reducible apply XBr.dec) <;> (intro h; first | (exfalso; omega) | ((try simp only [List.length_map] at h); first | (exfalso; omega) | (conv => whnf)))) | fail
          refine Walk.loopK tab_ok [] [(1, _), (3, _), (6, _), (7, _), (12, _), (13, _)] ⟨rfl, rfl, rfl, rfl, rfl, rfl, trivial⟩ (fun k : Nat => (k : Int) ≤ b.room + 1) (fun k => [(14, .bool ((List.range k).any (fun q => nxF b 5 n q && psF b p 6 q))), (15, natA k)]) (fun _ => [psOut (b.room + 1).toNat (b.months.length + 1), psB b p j 0, psB b p j 1, psB b p j 2, psB b p j 3, psB b p j 4, .grow 4 false (bls (b.room + 1).toNat fun q => if q < n then psF b p 5 q else psR b p 5 q), .grow 4 false (bls (b.room + 1).toNat (psF b p 6)), psB b p j 7, psB b p j 8, psB b p j 9, psB b p j 10]) (fun k => (b.room + 1).toNat - k) 0 (by omega) rfl ⟨rfl, rfl, trivial⟩ ?_
          intro k hk
          by_cases hltk : (k : Int) ≤ b.room
          · obtain ⟨r1, hr1⟩ : ∃ r1, nxF b 5 n k = r1 := ⟨_, rfl⟩
            obtain ⟨r2, hr2⟩ : ∃ r2, psF b p 6 k = r2 := ⟨_, rfl⟩
            obtain ⟨v, hv⟩ : ∃ v, ((List.range k).any (fun q => nxF b 5 n q && psF b p 6 q)) = v := ⟨_, rfl⟩
            rw [hv]
            conv => whnf
            repeat' first | ((with_reducible apply XBr.dec) <;> (intro h; first | (exfalso; omega) | ((try simp only [List.length_map] at h); first | (exfalso; omega) | (conv => whnf)))) | fail
            cases v with
            | true =>
              refine Walk.norm tab_ok [] [(1, _), (3, _), (6, _), (7, _), (12, _), (13, _), (14, _), (15, _)] ⟨rfl, rfl, rfl, rfl, rfl, rfl, rfl, rfl, trivial⟩ ?_
              conv => whnf
              repeat' first | ((first | (with_reducible apply XBr.tt) | (with_reducible refine XInt.i64 (by omega) (by omega) ?_)); conv => whnf) | fail
              exact XAgain.go (k + 1) (by omega) (by omega) rfl ⟨rfl, rfl, rfl, rfl, rfl, rfl, congrArg (fun z => some (AV.bool z)) (by rw [any_next, hv, hr1, hr2] <;> rfl), rfl, trivial⟩
            | false =>
              cases r1 with
              | false =>
                refine Walk.norm tab_ok [] [(1, _), (3, _), (6, _), (7, _), (12, _), (13, _), (14, _), (15, _)] ⟨rfl, rfl, rfl, rfl, rfl, rfl, rfl, rfl, trivial⟩ ?_
                conv => whnf
                repeat' first | ((first | (with_reducible apply XBr.ff) | (with_reducible refine XInt.i64 (by omega) (by omega) ?_) | (refine XIx.vecV 5 (by omega) (by omega) rfl ?_) | (refine XIx.vecV n (by omega) (by omega) rfl ?_) | ((refine XIx.bls k (by omega) (by omega) ?_); rw [hr1])); conv => whnf) | fail
                exact XAgain.go (k + 1) (by omega) (by omega) rfl ⟨rfl, rfl, rfl, rfl, rfl, rfl, congrArg (fun z => some (AV.bool z)) (by rw [any_next, hv, hr1, hr2] <;> rfl), rfl, trivial⟩
              | true =>
                refine Walk.norm tab_ok [] [(1, _), (3, _), (6, _), (7, _), (12, _), (13, _), (14, _), (15, _)] ⟨rfl, rfl, rfl, rfl, rfl, rfl, rfl, rfl, trivial⟩ ?_
                conv => whnf
                repeat' first | ((first | (with_reducible apply XBr.tt) | (with_reducible apply XBr.ff) | (with_reducible refine XInt.i64 (by omega) (by omega) ?_) | (refine XIx.vecV 5 (by omega) (by omega) rfl ?_) | (refine XIx.vecV n (by omega) (by omega) rfl ?_) | ((refine XIx.bls k (by omega) (by omega) ?_); rw [hr1]) | (refine XHold.mk ⟨hvl, rfl, by omega, by omega⟩ ?_) | (refine XGet.vecV 6 (by omega) rfl (by omega) ?_) | (refine XHold.mk ⟨hbl _, rfl, by omega, by omega⟩ ?_) | ((refine XGet.blsJ k (by omega) rfl (by omega) ?_); rw [hr2])); conv => whnf) | fail
                exact XAgain.go (k + 1) (by omega) (by omega) rfl ⟨rfl, rfl, rfl, rfl, rfl, rfl, congrArg (fun z => some (AV.bool z)) (by rw [any_next, hv, hr1, hr2] <;> rfl), rfl, trivial⟩
          · obtain rfl : k = (b.room + 1).toNat := by omega
            obtain ⟨u, hu⟩ : ∃ u, ((List.range (b.room + 1).toNat).any (fun q => nxF b 5 n q && psF b p 6 q)) = u := ⟨_, rfl⟩
            obtain ⟨r0, hr0⟩ : ∃ r0, psR b p 5 n = r0 := ⟨_, rfl⟩
            rw [hu]
            conv => whnf
            cases r0 with
            | false =>
              repeat' first | ((with_reducible apply XBr.ff); conv => whnf) | ((with_reducible apply XBr.dec) <;> (intro h; first | (exfalso; omega) | ((try simp only [List.length_map] at h); first | (exfalso; omega) | (conv => whnf)))) | ((with_reducible refine XInt.i64 (by omega) (by omega) ?_); conv => whnf) | (with_reducible apply XAnd.mk) | ((first | (with_reducible apply Chk.go) | (with_reducible apply ChkA.go) | (with_reducible apply ChkF.go) | (with_reducible apply ChkB.go)); conv => whnf) | (exact XSame.mk rfl rfl) | (with_reducible exact trivial) | (apply Walk.drawN (id := 28) tab_ok mixed_ok [] [16] (hsC [_, _]) [_, _, _, _, _, _, _, _, _, _, _, _, _, _, _, _, _] (by kernel_rfl) rfl) | ((first | (with_reducible apply XNext.mk) | (refine XHold.mk ⟨hvl, rfl, by omega, by omega⟩ ?_) | (refine XGet.vecV 5 (by omega) rfl (by omega) ?_) | (refine XHold.mk ⟨hbl _, rfl, by omega, by omega⟩ ?_) | ((refine XGet.blsJ n (by omega) rfl (by omega) ?_); rw [if_neg (Nat.lt_irrefl n), hr0]) | (refine XPut.bls n (by omega) rfl (by omega) ?_)); conv => whnf) | fail
              refine XAgain.go (n + 1) (by omega) (by omega) ?_ ⟨rfl, rfl, rfl, rfl, rfl, rfl, trivial⟩
              rw [← row_next2 (show false = psF b p 5 n by rw [psF_step (by omega), hr0, hu] <;> rfl)] <;> rfl
            | true =>
              repeat' first | ((with_reducible apply XBr.tt); conv => whnf) | ((with_reducible apply XBr.dec) <;> (intro h; first | (exfalso; omega) | ((try simp only [List.length_map] at h); first | (exfalso; omega) | (conv => whnf)))) | ((with_reducible refine XInt.i64 (by omega) (by omega) ?_); conv => whnf) | (with_reducible apply XAnd.mk) | ((first | (with_reducible apply Chk.go) | (with_reducible apply ChkA.go) | (with_reducible apply ChkF.go) | (with_reducible apply ChkB.go)); conv => whnf) | (exact XSame.mk rfl rfl) | (with_reducible exact trivial) | (apply Walk.drawN (id := 28) tab_ok mixed_ok [] [16] (hsC [_, _]) [_, _, _, _, _, _, _, _, _, _, _, _, _, _, _, _, _] (by kernel_rfl) rfl) | ((first | (with_reducible apply XNext.mk) | (refine XHold.mk ⟨hvl, rfl, by omega, by omega⟩ ?_) | (refine XGet.vecV 5 (by omega) rfl (by omega) ?_) | (refine XHold.mk ⟨hbl _, rfl, by omega, by omega⟩ ?_) | ((refine XGet.blsJ n (by omega) rfl (by omega) ?_); rw [if_neg (Nat.lt_irrefl n), hr0]) | (refine XPut.bls n (by omega) rfl (by omega) ?_)); conv => whnf) | fail
              refine XAgain.go (n + 1) (by omega) (by omega) ?_ ⟨rfl, rfl, rfl, rfl, rfl, rfl, trivial⟩
              rw [← row_next2 (show u = psF b p 5 n by rw [psF_step (by omega), hr0, hu] <;> rfl)] <;> rfl
        · obtain rfl : n = (b.room + 1).toNat := by omega
          rw [show (bls (b.room + 1).toNat fun q => if q < (b.room + 1).toNat then psF b p 5 q else psR b p 5 q) = bls (b.room + 1).toNat (psF b p 5) from bls_congr fun q hq => if_pos hq]
          conv => whnf
          repeat' first | ((with_reducible apply XBr.dec) <;> (intro h; first | (exfalso; omega) | ((try simp only [List.length_map] at h); first | (exfalso; omega) | (conv => whnf)))) | ((with_reducible refine XInt.i64 (by omega) (by omega) ?_); conv => whnf) | fail
          refine XAgain.go (j + 1) (by omega) (by omega) ?_ ⟨rfl, rfl, rfl, rfl, congrArg (fun z => some (AV.int .i64 z)) (by omega), trivial⟩
          unfold psP
          rw [psB_fin (k := 5) (by omega) (by omega), psB_fin (k := 6) (by omega) (by omega), psB_other (k := 0) (by omega), psB_other (k := 1) (by omega), psB_other (k := 2) (by omega), psB_other (k := 3) (by omega), psB_other (k := 4) (by omega), psB_other (k := 7) (by omega), psB_other (k := 8) (by omega), psB_other (k := 9) (by omega), psB_other (k := 10) (by omega)] <;> rfl
      · skip
        have hN : (b.months.length : Int) - 1 - j = ((6 : Nat) : Int) := by omega
        rw [hN, show psP b p j = [psOut (b.room + 1).toNat (b.months.length + 1), psB b p j 0, psB b p j 1, psB b p j 2, psB b p j 3, psB b p j 4, psB b p j 5, .grow 4 false (bls (b.room + 1).toNat (psR b p 6)), .grow 4 false (bls (b.room + 1).toNat (psF b p 7)), psB b p j 8, psB b p j 9, psB b p j 10] by unfold psP; rw [psB_cur (k := 6) (by omega), psB_fin (k := 7) (by omega) (by omega)]]
        conv => whnf
        repeat' first | ((with_reducible apply XBr.dec) <;> (intro h; first | (exfalso; omega) | ((try simp only [List.length_map] at h); first | (exfalso; omega) | (conv => whnf)))) | fail
        refine Walk.loopK tab_ok [] [(1, _), (3, _), (6, _), (7, _), (12, _)] ⟨rfl, rfl, rfl, rfl, rfl, trivial⟩ (fun n : Nat => (n : Int) ≤ b.room + 1) (fun n => [(13, natA n)]) (fun n => [psOut (b.room + 1).toNat (b.months.length + 1), psB b p j 0, psB b p j 1, psB b p j 2, psB b p j 3, psB b p j 4, psB b p j 5, .grow 4 false (bls (b.room + 1).toNat fun q => if q < n then psF b p 6 q else psR b p 6 q), .grow 4 false (bls (b.room + 1).toNat (psF b p 7)), psB b p j 8, psB b p j 9, psB b p j 10]) (fun n => (b.room + 1).toNat - n) 0 (by omega) (by rw [show (bls (b.room + 1).toNat fun q => if q < 0 then psF b p 6 q else psR b p 6 q) = bls (b.room + 1).toNat (psR b p 6) from bls_congr fun q _ => if_neg (Nat.not_lt_zero q)] <;> rfl) ⟨rfl, trivial⟩ ?_
        intro n hn
        have hbl := fun F => bls_len (b.room + 1).toNat F
        by_cases hlt : (n : Int) ≤ b.room
        · conv => whnf
          repeat' first | ((with_reducible apply XBr.dec) <;> (intro h; first | (exfalso; omega) | ((try simp only [List.length_map] at h); first | (exfalso; omega) | (conv => whnf)))) | fail
          refine Walk.loopK tab_ok [] [(1, _), (3, _), (6, _), (7, _), (12, _), (13, _)] ⟨rfl, rfl, rfl, rfl, rfl, rfl, trivial⟩ (fun k : Nat => (k : Int) ≤ b.room + 1) (fun k => [(14, .bool ((List.range k).any (fun q => nxF b 6 n q && psF b p 7 q))), (15, natA k)]) (fun _ => [psOut (b.room + 1).toNat (b.months.length + 1), psB b p j 0, psB b p j 1, psB b p j 2, psB b p j 3, psB b p j 4, psB b p j 5, .grow 4 false (bls (b.room + 1).toNat fun q => if q < n then psF b p 6 q else psR b p 6 q), .grow 4 false (bls (b.room + 1).toNat (psF b p 7)), psB b p j 8, psB b p j 9, psB b p j 10]) (fun k => (b.room + 1).toNat - k) 0 (by omega) rfl ⟨rfl, rfl, trivial⟩ ?_
          intro k hk
          by_cases hltk : (k : Int) ≤ b.room
          · obtain ⟨r1, hr1⟩ : ∃ r1, nxF b 6 n k = r1 := ⟨_, rfl⟩
            obtain ⟨r2, hr2⟩ : ∃ r2, psF b p 7 k = r2 := ⟨_, rfl⟩
            obtain ⟨v, hv⟩ : ∃ v, ((List.range k).any (fun q => nxF b 6 n q && psF b p 7 q)) = v := ⟨_, rfl⟩
            rw [hv]
            conv => whnf
            repeat' first | ((with_reducible apply XBr.dec) <;> (intro h; first | (exfalso; omega) | ((try simp only [List.length_map] at h); first | (exfalso; omega) | (conv => whnf)))) | fail
            cases v with
            | true =>
              refine Walk.norm tab_ok [] [(1, _), (3, _), (6, _), (7, _), (12, _), (13, _), (14, _), (15, _)] ⟨rfl, rfl, rfl, rfl, rfl, rfl, rfl, rfl, trivial⟩ ?_
              conv => whnf
              repeat' first | ((first | (with_reducible apply XBr.tt) | (with_reducible refine XInt.i64 (by omega) (by omega) ?_)); conv => whnf) | fail
              exact XAgain.go (k + 1) (by omega) (by omega) rfl ⟨rfl, rfl, rfl, rfl, rfl, rfl, congrArg (fun z => some (AV.bool z)) (by rw [any_next, hv, hr1, hr2] <;> rfl), rfl, trivial⟩
            | false =>
              cases r1 with
              | false =>
                refine Walk.norm tab_ok [] [(1, _), (3, _), (6, _), (7, _), (12, _), (13, _), (14, _), (15, _)] ⟨rfl, rfl, rfl, rfl, rfl, rfl, rfl, rfl, trivial⟩ ?_
                conv => whnf
                repeat' first | ((first | (with_reducible apply XBr.ff) | (with_reducible refine XInt.i64 (by omega) (by omega) ?_) | (refine XIx.vecV 6 (by omega) (by omega) rfl ?_) | (refine XIx.vecV n (by omega) (by omega) rfl ?_) | ((refine XIx.bls k (by omega) (by omega) ?_); rw [hr1])); conv => whnf) | fail
                exact XAgain.go (k + 1) (by omega) (by omega) rfl ⟨rfl, rfl, rfl, rfl, rfl, rfl, congrArg (fun z => some (AV.bool z)) (by rw [any_next, hv, hr1, hr2] <;> rfl), rfl, trivial⟩
              | true =>
                refine Walk.norm tab_ok [] [(1, _), (3, _), (6, _), (7, _), (12, _), (13, _), (14, _), (15, _)] ⟨rfl, rfl, rfl, rfl, rfl, rfl, rfl, rfl, trivial⟩ ?_
                conv => whnf
                repeat' first | ((first | (with_reducible apply XBr.tt) | (with_reducible apply XBr.ff) | (with_reducible refine XInt.i64 (by omega) (by omega) ?_) | (refine XIx.vecV 6 (by omega) (by omega) rfl ?_) | (refine XIx.vecV n (by omega) (by omega) rfl ?_) | ((refine XIx.bls k (by omega) (by omega) ?_); rw [hr1]) | (refine XHold.mk ⟨hvl, rfl, by omega, by omega⟩ ?_) | (refine XGet.vecV 7 (by omega) rfl (by omega) ?_) | (refine XHold.mk ⟨hbl _, rfl, by omega, by omega⟩ ?_) | ((refine XGet.blsJ k (by omega) rfl (by omega) ?_); rw [hr2])); conv => whnf) | fail
                exact XAgain.go (k + 1) (by omega) (by omega) rfl ⟨rfl, rfl, rfl, rfl, rfl, rfl, congrArg (fun z => some (AV.bool z)) (by rw [any_next, hv, hr1, hr2] <;> rfl), rfl, trivial⟩
          · obtain rfl : k = (b.room + 1).toNat := by omega
            obtain ⟨u, hu⟩ : ∃ u, ((List.range (b.room + 1).toNat).any (fun q => nxF b 6 n q && psF b p 7 q)) = u := ⟨_, rfl⟩
            obtain ⟨r0, hr0⟩ : ∃ r0, psR b p 6 n = r0 := ⟨_, rfl⟩
            rw [hu]
            conv => whnf
            cases r0 with
            | false =>
              repeat' first | ((with_reducible apply XBr.ff); conv => whnf) | ((with_reducible apply XBr.dec) <;> (intro h; first | (exfalso; omega) | ((try simp only [List.length_map] at h); first | (exfalso; omega) | (conv => whnf)))) | ((with_reducible refine XInt.i64 (by omega) (by omega) ?_); conv => whnf) | (with_reducible apply XAnd.mk) | ((first | (with_reducible apply Chk.go) | (with_reducible apply ChkA.go) | (with_reducible apply ChkF.go) | (with_reducible apply ChkB.go)); conv => whnf) | (exact XSame.mk rfl rfl) | (with_reducible exact trivial) | (apply Walk.drawN (id := 28) tab_ok mixed_ok [] [16] (hsC [_, _]) [_, _, _, _, _, _, _, _, _, _, _, _, _, _, _, _, _] (by kernel_rfl) rfl) | ((first | (with_reducible apply XNext.mk) | (refine XHold.mk ⟨hvl, rfl, by omega, by omega⟩ ?_) | (refine XGet.vecV 6 (by omega) rfl (by omega) ?_) | (refine XHold.mk ⟨hbl _, rfl, by omega, by omega⟩ ?_) | ((refine XGet.blsJ n (by omega) rfl (by omega) ?_); rw [if_neg (Nat.lt_irrefl n), hr0]) | (refine XPut.bls n (by omega) rfl (by omega) ?_)); conv => whnf) | fail
              refine XAgain.go (n + 1) (by omega) (by omega) ?_ ⟨rfl, rfl, rfl, rfl, rfl, rfl, trivial⟩
              rw [← row_next2 (show false = psF b p 6 n by rw [psF_step (by omega), hr0, hu] <;> rfl)] <;> rfl
            | true =>
              repeat' first | ((with_reducible apply XBr.tt); conv => whnf) | ((with_reducible apply XBr.dec) <;> (intro h; first | (exfalso; omega) | ((try simp only [List.length_map] at h); first | (exfalso; omega) | (conv => whnf)))) | ((with_reducible refine XInt.i64 (by omega) (by omega) ?_); conv => whnf) | (with_reducible apply XAnd.mk) | ((first | (with_reducible apply Chk.go) | (with_reducible apply ChkA.go) | (with_reducible apply ChkF.go) | (with_reducible apply ChkB.go)); conv => whnf) | (exact XSame.mk rfl rfl) | (with_reducible exact trivial) | (apply Walk.drawN (id := 28) tab_ok mixed_ok [] [16] (hsC [_, _]) [_, _, _, _, _, _, _, _, _, _, _, _, _, _, _, _, _] (by kernel_rfl) rfl) | ((first | (with_reducible apply XNext.mk) | (refine XHold.mk ⟨hvl, rfl, by omega, by omega⟩ ?_) | (refine XGet.vecV 6 (by omega) rfl (by omega) ?_) | (refine XHold.mk ⟨hbl _, rfl, by omega, by omega⟩ ?_) | ((refine XGet.blsJ n (by omega) rfl (by omega) ?_); rw [if_neg (Nat.lt_irrefl n), hr0]) | (refine XPut.bls n (by omega) rfl (by omega) ?_)); conv => whnf) | fail
              refine XAgain.go (n + 1) (by omega) (by omega) ?_ ⟨rfl, rfl, rfl, rfl, rfl, rfl, trivial⟩
              rw [← row_next2 (show u = psF b p 6 n by rw [psF_step (by omega), hr0, hu] <;> rfl)] <;> rfl
        · obtain rfl : n = (b.room + 1).toNat := by omega
          rw [show (bls (b.room + 1).toNat fun q => if q < (b.room + 1).toNat then psF b p 6 q else psR b p 6 q) = bls (b.room + 1).toNat (psF b p 6) from bls_congr fun q hq => if_pos hq]
          conv => whnf
          repeat' first | ((with_reducible apply XBr.dec) <;> (intro h; first | (exfalso; omega) | ((try simp only [List.length_map] at h); first | (exfalso; omega) | (conv => whnf)))) | ((with_reducible refine XInt.i64 (by omega) (by omega) ?_); conv => whnf) | fail
          refine XAgain.go (j + 1) (by omega) (by omega) ?_ ⟨rfl, rfl, rfl, rfl, congrArg (fun z => some (AV.int .i64 z)) (by omega), trivial⟩
          unfold psP
          rw [psB_fin (k := 6) (by omega) (by omega), psB_fin (k := 7) (by omega) (by omega), psB_other (k := 0) (by omega), psB_other (k := 1) (by omega), psB_other (k := 2) (by omega), psB_other (k := 3) (by omega), psB_other (k := 4) (by omega), psB_other (k := 5) (by omega), psB_other (k := 8) (by omega), psB_other (k := 9) (by omega), psB_other (k := 10) (by omega)] <;> rfl
      · skip
        have hN : (b.months.length : Int) - 1 - j = ((7 : Nat) : Int) := by omega
        rw [hN, show psP b p j = [psOut (b.room + 1).toNat (b.months.length + 1), psB b p j 0, psB b p j 1, psB b p j 2, psB b p j 3, psB b p j 4, psB b p j 5, psB b p j 6, .grow 4 false (bls (b.room + 1).toNat (psR b p 7)), .grow 4 false (bls (b.room + 1).toNat (psF b p 8)), psB b p j 9, psB b p j 10] by unfold psP; rw [psB_cur (k := 7) (by omega), psB_fin (k := 8) (by omega) (by omega)]]
        conv => whnf
        repeat' first | ((with_reducible apply XBr.dec) <;> (intro h; first | (exfalso; omega) | ((try simp only [List.length_map] at h); first | (exfalso; omega) | (conv => whnf)))) | fail
        refine Walk.loopK tab_ok [] [(1, _), (3, _), (6, _), (7, _), (12, _)] ⟨rfl, rfl, rfl, rfl, rfl, trivial⟩ (fun n : Nat => (n : Int) ≤ b.room + 1) (fun n => [(13, natA n)]) (fun n => [psOut (b.room + 1).toNat (b.months.length + 1), psB b p j 0, psB b p j 1, psB b p j 2, psB b p j 3, psB b p j 4, psB b p j 5, psB b p j 6, .grow 4 false (bls (b.room + 1).toNat fun q => if q < n then psF b p 7 q else psR b p 7 q), .grow 4 false (bls (b.room + 1).toNat (psF b p 8)), psB b p j 9, psB b p j 10]) (fun n => (b.room + 1).toNat - n) 0 (by omega) (by rw [show (bls (b.room + 1).toNat fun q => if q < 0 then psF b p 7 q else psR b p 7 q) = bls (b.room + 1).toNat (psR b p 7) from bls_congr fun q _ => if_neg (Nat.not_lt_zero q)] <;> rfl) ⟨rfl, trivial⟩ ?_
        intro n hn
        have hbl := fun F => bls_len (b.room + 1).toNat F
        by_cases hlt : (n : Int) ≤ b.room
        · conv => whnf
          repeat' first | ((with_reducible apply XBr.dec) <;> (intro h; first | (exfalso; omega) | ((try simp only [List.length_map] at h); first | (exfalso; omega) | (conv => whnf)))) | fail
          refine Walk.loopK tab_ok [] [(1, _), (3, _), (6, _), (7, _), (12, _), (13, _)] ⟨rfl, rfl, rfl, rfl, rfl, rfl, trivial⟩ (fun k : Nat => (k : Int) ≤ b.room + 1) (fun k => [(14, .bool ((List.range k).any (fun q => nxF b 7 n q && psF b p 8 q))), (15, natA k)]) (fun _ => [psOut (b.room + 1).toNat (b.months.length + 1), psB b p j 0, psB b p j 1, psB b p j 2, psB b p j 3, psB b p j 4, psB b p j 5, psB b p j 6, .grow 4 false (bls (b.room + 1).toNat fun q => if q < n then psF b p 7 q else psR b p 7 q), .grow 4 false (bls (b.room + 1).toNat (psF b p 8)), psB b p j 9, psB b p j 10]) (fun k => (b.room + 1).toNat - k) 0 (by omega) rfl ⟨rfl, rfl, trivial⟩ ?_
          intro k hk
          by_cases hltk : (k : Int) ≤ b.room
          · obtain ⟨r1, hr1⟩ : ∃ r1, nxF b 7 n k = r1 := ⟨_, rfl⟩
            obtain ⟨r2, hr2⟩ : ∃ r2, psF b p 8 k = r2 := ⟨_, rfl⟩
            obtain ⟨v, hv⟩ : ∃ v, ((List.range k).any (fun q => nxF b 7 n q && psF b p 8 q)) = v := ⟨_, rfl⟩
            rw [hv]
            conv => whnf
            repeat' first | ((with_reducible apply XBr.dec) <;> (intro h; first | (exfalso; omega) | ((try simp only [List.length_map] at h); first | (exfalso; omega) | (conv => whnf)))) | fail
            cases v with
            | true =>
              refine Walk.norm tab_ok [] [(1, _), (3, _), (6, _), (7, _), (12, _), (13, _), (14, _), (15, _)] ⟨rfl, rfl, rfl, rfl, rfl, rfl, rfl, rfl, trivial⟩ ?_
              conv => whnf
              repeat' first | ((first | (with_reducible apply XBr.tt) | (with_reducible refine XInt.i64 (by omega) (by omega) ?_)); conv => whnf) | fail
              exact XAgain.go (k + 1) (by omega) (by omega) rfl ⟨rfl, rfl, rfl, rfl, rfl, rfl, congrArg (fun z => some (AV.bool z)) (by rw [any_next, hv, hr1, hr2] <;> rfl), rfl, trivial⟩
            | false =>
              cases r1 with
              | false =>
                refine Walk.norm tab_ok [] [(1, _), (3, _), (6, _), (7, _), (12, _), (13, _), (14, _), (15, _)] ⟨rfl, rfl, rfl, rfl, rfl, rfl, rfl, rfl, trivial⟩ ?_
                conv => whnf
                repeat' first | ((first | (with_reducible apply XBr.ff) | (with_reducible refine XInt.i64 (by omega) (by omega) ?_) | (refine XIx.vecV 7 (by omega) (by omega) rfl ?_) | (refine XIx.vecV n (by omega) (by omega) rfl ?_) | ((refine XIx.bls k (by omega) (by omega) ?_); rw [hr1])); conv => whnf) | fail
                exact XAgain.go (k + 1) (by omega) (by omega) rfl ⟨rfl, rfl, rfl, rfl, rfl, rfl, congrArg (fun z => some (AV.bool z)) (by rw [any_next, hv, hr1, hr2] <;> rfl), rfl, trivial⟩
              | true =>
                refine Walk.norm tab_ok [] [(1, _), (3, _), (6, _), (7, _), (12, _), (13, _), (14, _), (15, _)] ⟨rfl, rfl, rfl, rfl, rfl, rfl, rfl, rfl, trivial⟩ ?_
                conv => whnf
                repeat' first | ((first | (with_reducible apply XBr.tt) | (with_reducible apply XBr.ff) | (with_reducible refine XInt.i64 (by omega) (by omega) ?_) | (refine XIx.vecV 7 (by omega) (by omega) rfl ?_) | (refine XIx.vecV n (by omega) (by omega) rfl ?_) | ((refine XIx.bls k (by omega) (by omega) ?_); rw [hr1]) | (refine XHold.mk ⟨hvl, rfl, by omega, by omega⟩ ?_) | (refine XGet.vecV 8 (by omega) rfl (by omega) ?_) | (refine XHold.mk ⟨hbl _, rfl, by omega, by omega⟩ ?_) | ((refine XGet.blsJ k (by omega) rfl (by omega) ?_); rw [hr2])); conv => whnf) | fail
                exact XAgain.go (k + 1) (by omega) (by omega) rfl ⟨rfl, rfl, rfl, rfl, rfl, rfl, congrArg (fun z => some (AV.bool z)) (by rw [any_next, hv, hr1, hr2] <;> rfl), rfl, trivial⟩
          · obtain rfl : k = (b.room + 1).toNat := by omega
            obtain ⟨u, hu⟩ : ∃ u, ((List.range (b.room + 1).toNat).any (fun q => nxF b 7 n q && psF b p 8 q)) = u := ⟨_, rfl⟩
            obtain ⟨r0, hr0⟩ : ∃ r0, psR b p 7 n = r0 := ⟨_, rfl⟩
            rw [hu]
            conv => whnf
            cases r0 with
            | false =>
              repeat' first | ((with_reducible apply XBr.ff); conv => whnf) | ((with_reducible apply XBr.dec) <;> (intro h; first | (exfalso; omega) | ((try simp only [List.length_map] at h); first | (exfalso; omega) | (conv => whnf)))) | ((with_reducible refine XInt.i64 (by omega) (by omega) ?_); conv => whnf) | (with_reducible apply XAnd.mk) | ((first | (with_reducible apply Chk.go) | (with_reducible apply ChkA.go) | (with_reducible apply ChkF.go) | (with_reducible apply ChkB.go)); conv => whnf) | (exact XSame.mk rfl rfl) | (with_reducible exact trivial) | (apply Walk.drawN (id := 28) tab_ok mixed_ok [] [16] (hsC [_, _]) [_, _, _, _, _, _, _, _, _, _, _, _, _, _, _, _, _] (by kernel_rfl) rfl) | ((first | (with_reducible apply XNext.mk) | (refine XHold.mk ⟨hvl, rfl, by omega, by omega⟩ ?_) | (refine XGet.vecV 7 (by omega) rfl (by omega) ?_) | (refine XHold.mk ⟨hbl _, rfl, by omega, by omega⟩ ?_) | ((refine XGet.blsJ n (by omega) rfl (by omega) ?_); rw [if_neg (Nat.lt_irrefl n), hr0]) | (refine XPut.bls n (by omega) rfl (by omega) ?_)); conv => whnf) | fail
              refine XAgain.go (n + 1) (by omega) (by omega) ?_ ⟨rfl, rfl, rfl, rfl, rfl, rfl, trivial⟩
              rw [← row_next2 (show false = psF b p 7 n by rw [psF_step (by omega), hr0, hu] <;> rfl)] <;> rfl
            | true =>
              repeat' first | ((with_reducible apply XBr.tt); conv => whnf) | ((with_reducible apply XBr.dec) <;> (intro h; first | (exfalso; omega) | ((try simp only [List.length_map] at h); first | (exfalso; omega) | (conv => whnf)))) | ((with_reducible refine XInt.i64 (by omega) (by omega) ?_); conv => whnf) | (with_reducible apply XAnd.mk) | ((first | (with_reducible apply Chk.go) | (with_reducible apply ChkA.go) | (with_reducible apply ChkF.go) | (with_reducible apply ChkB.go)); conv => whnf) | (exact XSame.mk rfl rfl) | (with_reducible exact trivial) | (apply Walk.drawN (id := 28) tab_ok mixed_ok [] [16] (hsC [_, _]) [_, _, _, _, _, _, _, _, _, _, _, _, _, _, _, _, _] (by kernel_rfl) rfl) | ((first | (with_reducible apply XNext.mk) | (refine XHold.mk ⟨hvl, rfl, by omega, by omega⟩ ?_) | (refine XGet.vecV 7 (by omega) rfl (by omega) ?_) | (refine XHold.mk ⟨hbl _, rfl, by omega, by omega⟩ ?_) | ((refine XGet.blsJ n (by omega) rfl (by omega) ?_); rw [if_neg (Nat.lt_irrefl n), hr0]) | (refine XPut.bls n (by omega) rfl (by omega) ?_)); conv => whnf) | fail
              refine XAgain.go (n + 1) (by omega) (by omega) ?_ ⟨rfl, rfl, rfl, rfl, rfl, rfl, trivial⟩
              rw [← row_next2 (show u = psF b p 7 n by rw [psF_step (by omega), hr0, hu] <;> rfl)] <;> rfl
        · obtain rfl : n = (b.room + 1).toNat := by omega
          rw [show (bls (b.room + 1).toNat fun q => if q < (b.room + 1).toNat then psF b p 7 q else psR b p 7 q) = bls (b.room + 1).toNat (psF b p 7) from bls_congr fun q hq => if_pos hq]
          conv => whnf
          repeat' first | ((with_reducible apply XBr.dec) <;> (intro h; first | (exfalso; omega) | ((try simp only [List.length_map] at h); first | (exfalso; omega) | (conv => whnf)))) | ((with_reducible refine XInt.i64 (by omega) (by omega) ?_); conv => whnf) | fail
          refine XAgain.go (j + 1) (by omega) (by omega) ?_ ⟨rfl, rfl, rfl, rfl, congrArg (fun z => some (AV.int .i64 z)) (by omega), trivial⟩
          unfold psP
          rw [psB_fin (k := 7) (by omega) (by omega), psB_fin (k := 8) (by omega) (by omega), psB_other (k := 0) (by omega), psB_other (k := 1) (by omega), psB_other (k := 2) (by omega), psB_other (k := 3) (by omega), psB_other (k := 4) (by omega), psB_other (k := 5) (by omega), psB_other (k := 6) (by omega), psB_other (k := 9) (by omega), psB_other (k := 10) (by omega)] <;> rfl
      · skip
        have hN : (b.months.length : Int) - 1 - j = ((8 : Nat) : Int) := by omega
        rw [hN, show psP b p j = [psOut (b.room + 1).toNat (b.months.length + 1), psB b p j 0, psB b p j 1, psB b p j 2, psB b p j 3, psB b p j 4, psB b p j 5, psB b p j 6, psB b p j 7, .grow 4 false (bls (b.room + 1).toNat (psR b p 8)), .grow 4 false (bls (b.room + 1).toNat (psF b p 9)), psB b p j 10] by unfold psP; rw [psB_cur (k := 8) (by omega), psB_fin (k := 9) (by omega) (by omega)]]
        conv => whnf
        repeat' first | ((with_reducible apply XBr.dec) <;> (intro h; first | (exfalso; omega) | ((try simp only [List.length_map] at h); first | (exfalso; omega) | (conv => whnf)))) | fail
        refine Walk.loopK tab_ok [] [(1, _), (3, _), (6, _), (7, _), (12, _)] ⟨rfl, rfl, rfl, rfl, rfl, trivial⟩ (fun n : Nat => (n : Int) ≤ b.room + 1) (fun n => [(13, natA n)]) (fun n => [psOut (b.room + 1).toNat (b.months.length + 1), psB b p j 0, psB b p j 1, psB b p j 2, psB b p j 3, psB b p j 4, psB b p j 5, psB b p j 6, psB b p j 7, .grow 4 false (bls (b.room + 1).toNat fun q => if q < n then psF b p 8 q else psR b p 8 q), .grow 4 false (bls (b.room + 1).toNat (psF b p 9)), psB b p j 10]) (fun n => (b.room + 1).toNat - n) 0 (by omega) (by rw [show (bls (b.room + 1).toNat fun q => if q < 0 then psF b p 8 q else psR b p 8 q) = bls (b.room + 1).toNat (psR b p 8) from bls_congr fun q _ => if_neg (Nat.not_lt_zero q)] <;> rfl) ⟨rfl, trivial⟩ ?_
        intro n hn
        have hbl := fun F => bls_len (b.room + 1).toNat F
        by_cases hlt : (n : Int) ≤ b.room
        · conv => whnf
          repeat' first | ((with_reducible apply XBr.dec) <;> (intro h; first | (exfalso; omega) | ((try simp only [List.length_map] at h); first | (exfalso; omega) | (conv => whnf)))) | fail
          refine Walk.loopK tab_ok [] [(1, _), (3, _), (6, _), (7, _), (12, _), (13, _)] ⟨rfl, rfl, rfl, rfl, rfl, rfl, trivial⟩ (fun k : Nat => (k : Int) ≤ b.room + 1) (fun k => [(14, .bool ((List.range k).any (fun q => nxF b 8 n q && psF b p 9 q))), (15, natA k)]) (fun _ => [psOut (b.room + 1).toNat (b.months.length + 1), psB b p j 0, psB b p j 1, psB b p j 2, psB b p j 3, psB b p j 4, psB b p j 5, psB b p j 6, psB b p j 7, .grow 4 false (bls (b.room + 1).toNat fun q => if q < n then psF b p 8 q else psR b p 8 q), .grow 4 false (bls (b.room + 1).toNat (psF b p 9)), psB b p j 10]) (fun k => (b.room + 1).toNat - k) 0 (by omega) rfl ⟨rfl, rfl, trivial⟩ ?_
          intro k hk
          by_cases hltk : (k : Int) ≤ b.room
          · obtain ⟨r1, hr1⟩ : ∃ r1, nxF b 8 n k = r1 := ⟨_, rfl⟩
            obtain ⟨r2, hr2⟩ : ∃ r2, psF b p 9 k = r2 := ⟨_, rfl⟩
            obtain ⟨v, hv⟩ : ∃ v, ((List.range k).any (fun q => nxF b 8 n q && psF b p 9 q)) = v := ⟨_, rfl⟩
            rw [hv]
            conv => whnf
            repeat' first | ((with_reducible apply XBr.dec) <;> (intro h; first | (exfalso; omega) | ((try simp only [List.length_map] at h); first | (exfalso; omega) | (conv => whnf)))) | fail
            cases v with
            | true =>
              refine Walk.norm tab_ok [] [(1, _), (3, _), (6, _), (7, _), (12, _), (13, _), (14, _), (15, _)] ⟨rfl, rfl, rfl, rfl, rfl, rfl, rfl, rfl, trivial⟩ ?_
              conv => whnf
              repeat' first | ((first | (with_reducible apply XBr.tt) | (with_reducible refine XInt.i64 (by omega) (by omega) ?_)); conv => whnf) | fail
              exact XAgain.go (k + 1) (by omega) (by omega) rfl ⟨rfl, rfl, rfl, rfl, rfl, rfl, congrArg (fun z => some (AV.bool z)) (by rw [any_next, hv, hr1, hr2] <;> rfl), rfl, trivial⟩
            | false =>
              cases r1 with
              | false =>
                refine Walk.norm tab_ok [] [(1, _), (3, _), (6, _), (7, _), (12, _), (13, _), (14, _), (15, _)] ⟨rfl, rfl, rfl, rfl, rfl, rfl, rfl, rfl, trivial⟩ ?_
                conv => whnf
                repeat' first | ((first | (with_reducible apply XBr.ff) | (with_reducible refine XInt.i64 (by omega) (by omega) ?_) | (refine XIx.vecV 8 (by omega) (by omega) rfl ?_) | (refine XIx.vecV n (by omega) (by omega) rfl ?_) | ((refine XIx.bls k (by omega) (by omega) ?_); rw [hr1])); conv => whnf) | fail
                exact XAgain.go (k + 1) (by omega) (by omega) rfl ⟨rfl, rfl, rfl, rfl, rfl, rfl, congrArg (fun z => some (AV.bool z)) (by rw [any_next, hv, hr1, hr2] <;> rfl), rfl, trivial⟩
              | true =>
                refine Walk.norm tab_ok [] [(1, _), (3, _), (6, _), (7, _), (12, _), (13, _), (14, _), (15, _)] ⟨rfl, rfl, rfl, rfl, rfl, rfl, rfl, rfl, trivial⟩ ?_
                conv => whnf
                repeat' first | ((first | (with_reducible apply XBr.tt) | (with_reducible apply XBr.ff) | (with_reducible refine XInt.i64 (by omega) (by omega) ?_) | (refine XIx.vecV 8 (by omega) (by omega) rfl ?_) | (refine XIx.vecV n (by omega) (by omega) rfl ?_) | ((refine XIx.bls k (by omega) (by omega) ?_); rw [hr1]) | (refine XHold.mk ⟨hvl, rfl, by omega, by omega⟩ ?_) | (refine XGet.vecV 9 (by omega) rfl (by omega) ?_) | (refine XHold.mk ⟨hbl _, rfl, by omega, by omega⟩ ?_) | ((refine XGet.blsJ k (by omega) rfl (by omega) ?_); rw [hr2])); conv => whnf) | fail
                exact XAgain.go (k + 1) (by omega) (by omega) rfl ⟨rfl, rfl, rfl, rfl, rfl, rfl, congrArg (fun z => some (AV.bool z)) (by rw [any_next, hv, hr1, hr2] <;> rfl), rfl, trivial⟩
          · obtain rfl : k = (b.room + 1).toNat := by omega
            obtain ⟨u, hu⟩ : ∃ u, ((List.range (b.room + 1).toNat).any (fun q => nxF b 8 n q && psF b p 9 q)) = u := ⟨_, rfl⟩
            obtain ⟨r0, hr0⟩ : ∃ r0, psR b p 8 n = r0 := ⟨_, rfl⟩
            rw [hu]
            conv => whnf
            cases r0 with
            | false =>
              repeat' first | ((with_reducible apply XBr.ff); conv => whnf) | ((with_reducible apply XBr.dec) <;> (intro h; first | (exfalso; omega) | ((try simp only [List.length_map] at h); first | (exfalso; omega) | (conv => whnf)))) | ((with_reducible refine XInt.i64 (by omega) (by omega) ?_); conv => whnf) | (with_reducible apply XAnd.mk) | ((first | (with_reducible apply Chk.go) | (with_reducible apply ChkA.go) | (with_reducible apply ChkF.go) | (with_reducible apply ChkB.go)); conv => whnf) | (exact XSame.mk rfl rfl) | (with_reducible exact trivial) | (apply Walk.drawN (id := 28) tab_ok mixed_ok [] [16] (hsC [_, _]) [_, _, _, _, _, _, _, _, _, _, _, _, _, _, _, _, _] (by kernel_rfl) rfl) | ((first | (with_reducible apply XNext.mk) | (refine XHold.mk ⟨hvl, rfl, by omega, by omega⟩ ?_) | (refine XGet.vecV 8 (by omega) rfl (by omega) ?_) | (refine XHold.mk ⟨hbl _, rfl, by omega, by omega⟩ ?_) | ((refine XGet.blsJ n (by omega) rfl (by omega) ?_); rw [if_neg (Nat.lt_irrefl n), hr0]) | (refine XPut.bls n (by omega) rfl (by omega) ?_)); conv => whnf) | fail
              refine XAgain.go (n + 1) (by omega) (by omega) ?_ ⟨rfl, rfl, rfl, rfl, rfl, rfl, trivial⟩
              rw [← row_next2 (show false = psF b p 8 n by rw [psF_step (by omega), hr0, hu] <;> rfl)] <;> rfl
            | true =>
              repeat' first | ((with_reducible apply XBr.tt); conv => whnf) | ((with_reducible apply XBr.dec) <;> (intro h; first | (exfalso; omega) | ((try simp only [List.length_map] at h); first | (exfalso; omega) | (conv => whnf)))) | ((with_reducible refine XInt.i64 (by omega) (by omega) ?_); conv => whnf) | (with_reducible apply XAnd.mk) | ((first | (with_reducible apply Chk.go) | (with_reducible apply ChkA.go) | (with_reducible apply ChkF.go) | (with_reducible apply ChkB.go)); conv => whnf) | (exact XSame.mk rfl rfl) | (with_reducible exact trivial) | (apply Walk.drawN (id := 28) tab_ok mixed_ok [] [16] (hsC [_, _]) [_, _, _, _, _, _, _, _, _, _, _, _, _, _, _, _, _] (by kernel_rfl) rfl) | ((first | (with_reducible apply XNext.mk) | (refine XHold.mk ⟨hvl, rfl, by omega, by omega⟩ ?_) | (refine XGet.vecV 8 (by omega) rfl (by omega) ?_) | (refine XHold.mk ⟨hbl _, rfl, by omega, by omega⟩ ?_) | ((refine XGet.blsJ n (by omega) rfl (by omega) ?_); rw [if_neg (Nat.lt_irrefl n), hr0]) | (refine XPut.bls n (by omega) rfl (by omega) ?_)); conv => whnf) | fail
              refine XAgain.go (n + 1) (by omega) (by omega) ?_ ⟨rfl, rfl, rfl, rfl, rfl, rfl, trivial⟩
              rw [← row_next2 (show u = psF b p 8 n by rw [psF_step (by omega), hr0, hu] <;> rfl)] <;> rfl
        · obtain rfl : n = (b.room + 1).toNat := by omega
          rw [show (bls (b.room + 1).toNat fun q => if q < (b.room + 1).toNat then psF b p 8 q else psR b p 8 q) = bls (b.room + 1).toNat (psF b p 8) from bls_congr fun q hq => if_pos hq]
          conv => whnf
          repeat' first | ((with_reducible apply XBr.dec) <;> (intro h; first | (exfalso; omega) | ((try simp only [List.length_map] at h); first | (exfalso; omega) | (conv => whnf)))) | ((with_reducible refine XInt.i64 (by omega) (by omega) ?_); conv => whnf) | fail
          refine XAgain.go (j + 1) (by omega) (by omega) ?_ ⟨rfl, rfl, rfl, rfl, congrArg (fun z => some (AV.int .i64 z)) (by omega), trivial⟩
          unfold psP
          rw [psB_fin (k := 8) (by omega) (by omega), psB_fin (k := 9) (by omega) (by omega), psB_other (k := 0) (by omega), psB_other (k := 1) (by omega), psB_other (k := 2) (by omega), psB_other (k := 3) (by omega), psB_other (k := 4) (by omega), psB_other (k := 5) (by omega), psB_other (k := 6) (by omega), psB_other (k := 7) (by omega), psB_other (k := 10) (by omega)] <;> rfl
      · skip
        have hN : (b.months.length : Int) - 1 - j = ((9 : Nat) : Int) := by omega
        rw [hN, show psP b p j = [psOut (b.room + 1).toNat (b.months.length + 1), psB b p j 0, psB b p j 1, psB b p j 2, psB b p j 3, psB b p j 4, psB b p j 5, psB b p j 6, psB b p j 7, psB b p j 8, .grow 4 false (bls (b.room + 1).toNat (psR b p 9)), .grow 4 false (bls (b.room + 1).toNat (psF b p 10))] by unfold psP; rw [psB_cur (k := 9) (by omega), psB_fin (k := 10) (by omega) (by omega)]]
        conv => whnf
        repeat' first | ((with_reducible apply XBr.dec) <;> (intro h; first | (exfalso; omega) | ((try simp only [List.length_map] at h); first | (exfalso; omega) | (conv => whnf)))) | fail
        refine Walk.loopK tab_ok [] [(1, _), (3, _), (6, _), (7, _), (12, _)] ⟨rfl, rfl, rfl, rfl, rfl, trivial⟩ (fun n : Nat => (n : Int) ≤ b.room + 1) (fun n => [(13, natA n)]) (fun n => [psOut (b.room + 1).toNat (b.months.length + 1), psB b p j 0, psB b p j 1, psB b p j 2, psB b p j 3, psB b p j 4, psB b p j 5, psB b p j 6, psB b p j 7, psB b p j 8, .grow 4 false (bls (b.room + 1).toNat fun q => if q < n then psF b p 9 q else psR b p 9 q), .grow 4 false (bls (b.room + 1).toNat (psF b p 10))]) (fun n => (b.room + 1).toNat - n) 0 (by omega) (by rw [show (bls (b.room + 1).toNat fun q => if q < 0 then psF b p 9 q else psR b p 9 q) = bls (b.room + 1).toNat (psR b p 9) from bls_congr fun q _ => if_neg (Nat.not_lt_zero q)] <;> rfl) ⟨rfl, trivial⟩ ?_
        intro n hn
        have hbl := fun F => bls_len (b.room + 1).toNat F
        by_cases hlt : (n : Int) ≤ b.room
        · conv => whnf
          repeat' first | ((with_reducible apply XBr.dec) <;> (intro h; first | (exfalso; omega) | ((try simp only [List.length_map] at h); first | (exfalso; omega) | (conv => whnf)))) | fail
          refine Walk.loopK tab_ok [] [(1, _), (3, _), (6, _), (7, _), (12, _), (13, _)] ⟨rfl, rfl, rfl, rfl, rfl, rfl, trivial⟩ (fun k : Nat => (k : Int) ≤ b.room + 1) (fun k => [(14, .bool ((List.range k).any (fun q => nxF b 9 n q && psF b p 10 q))), (15, natA k)]) (fun _ => [psOut (b.room + 1).toNat (b.months.length + 1), psB b p j 0, psB b p j 1, psB b p j 2, psB b p j 3, psB b p j 4, psB b p j 5, psB b p j 6, psB b p j 7, psB b p j 8, .grow 4 false (bls (b.room + 1).toNat fun q => if q < n then psF b p 9 q else psR b p 9 q), .grow 4 false (bls (b.room + 1).toNat (psF b p 10))]) (fun k => (b.room + 1).toNat - k) 0 (by omega) rfl ⟨rfl, rfl, trivial⟩ ?_
          intro k hk
          by_cases hltk : (k : Int) ≤ b.room
          · obtain ⟨r1, hr1⟩ : ∃ r1, nxF b 9 n k = r1 := ⟨_, rfl⟩
            obtain ⟨r2, hr2⟩ : ∃ r2, psF b p 10 k = r2 := ⟨_, rfl⟩
            obtain ⟨v, hv⟩ : ∃ v, ((List.range k).any (fun q => nxF b 9 n q && psF b p 10 q)) = v := ⟨_, rfl⟩
            rw [hv]
            conv => whnf
            repeat' first | ((with_reducible apply XBr.dec) <;> (intro h; first | (exfalso; omega) | ((try simp only [List.length_map] at h); first | (exfalso; omega) | (conv => whnf)))) | fail
            cases v with
            | true =>
              refine Walk.norm tab_ok [] [(1, _), (3, _), (6, _), (7, _), (12, _), (13, _), (14, _), (15, _)] ⟨rfl, rfl, rfl, rfl, rfl, rfl, rfl, rfl, trivial⟩ ?_
              conv => whnf
              repeat' first | ((first | (with_reducible apply XBr.tt) | (with_reducible refine XInt.i64 (by omega) (by omega) ?_)); conv => whnf) | fail
              exact XAgain.go (k + 1) (by omega) (by omega) rfl ⟨rfl, rfl, rfl, rfl, rfl, rfl, congrArg (fun z => some (AV.bool z)) (by rw [any_next, hv, hr1, hr2] <;> rfl), rfl, trivial⟩
            | false =>
              cases r1 with
              | false =>
                refine Walk.norm tab_ok [] [(1, _), (3, _), (6, _), (7, _), (12, _), (13, _), (14, _), (15, _)] ⟨rfl, rfl, rfl, rfl, rfl, rfl, rfl, rfl, trivial⟩ ?_
                conv => whnf
                repeat' first | ((first | (with_reducible apply XBr.ff) | (with_reducible refine XInt.i64 (by omega) (by omega) ?_) | (refine XIx.vecV 9 (by omega) (by omega) rfl ?_) | (refine XIx.vecV n (by omega) (by omega) rfl ?_) | ((refine XIx.bls k (by omega) (by omega) ?_); rw [hr1])); conv => whnf) | fail
                exact XAgain.go (k + 1) (by omega) (by omega) rfl ⟨rfl, rfl, rfl, rfl, rfl, rfl, congrArg (fun z => some (AV.bool z)) (by rw [any_next, hv, hr1, hr2] <;> rfl), rfl, trivial⟩
              | true =>
                refine Walk.norm tab_ok [] [(1, _), (3, _), (6, _), (7, _), (12, _), (13, _), (14, _), (15, _)] ⟨rfl, rfl, rfl, rfl, rfl, rfl, rfl, rfl, trivial⟩ ?_
                conv => whnf
                repeat' first | ((first | (with_reducible apply XBr.tt) | (with_reducible apply XBr.ff) | (with_reducible refine XInt.i64 (by omega) (by omega) ?_) | (refine XIx.vecV 9 (by omega) (by omega) rfl ?_) | (refine XIx.vecV n (by omega) (by omega) rfl ?_) | ((refine XIx.bls k (by omega) (by omega) ?_); rw [hr1]) | (refine XHold.mk ⟨hvl, rfl, by omega, by omega⟩ ?_) | (refine XGet.vecV 10 (by omega) rfl (by omega) ?_) | (refine XHold.mk ⟨hbl _, rfl, by omega, by omega⟩ ?_) | ((refine XGet.blsJ k (by omega) rfl (by omega) ?_); rw [hr2])); conv => whnf) | fail
                exact XAgain.go (k + 1) (by omega) (by omega) rfl ⟨rfl, rfl, rfl, rfl, rfl, rfl, congrArg (fun z => some (AV.bool z)) (by rw [any_next, hv, hr1, hr2] <;> rfl), rfl, trivial⟩
          · obtain rfl : k = (b.room + 1).toNat := by omega
            obtain ⟨u, hu⟩ : ∃ u, ((List.range (b.room + 1).toNat).any (fun q => nxF b 9 n q && psF b p 10 q)) = u := ⟨_, rfl⟩
            obtain ⟨r0, hr0⟩ : ∃ r0, psR b p 9 n = r0 := ⟨_, rfl⟩
            rw [hu]
            conv => whnf
            cases r0 with
            | false =>
              repeat' first | ((with_reducible apply XBr.ff); conv => whnf) | ((with_reducible apply XBr.dec) <;> (intro h; first | (exfalso; omega) | ((try simp only [List.length_map] at h); first | (exfalso; omega) | (conv => whnf)))) | ((with_reducible refine XInt.i64 (by omega) (by omega) ?_); conv => whnf) | (with_reducible apply XAnd.mk) | ((first | (with_reducible apply Chk.go) | (with_reducible apply ChkA.go) | (with_reducible apply ChkF.go) | (with_reducible apply ChkB.go)); conv => whnf) | (exact XSame.mk rfl rfl) | (with_reducible exact trivial) | (apply Walk.drawN (id := 28) tab_ok mixed_ok [] [16] (hsC [_, _]) [_, _, _, _, _, _, _, _, _, _, _, _, _, _, _, _, _] (by kernel_rfl) rfl) | ((first | (with_reducible apply XNext.mk) | (refine XHold.mk ⟨hvl, rfl, by omega, by omega⟩ ?_) | (refine XGet.vecV 9 (by omega) rfl (by omega) ?_) | (refine XHold.mk ⟨hbl _, rfl, by omega, by omega⟩ ?_) | ((refine XGet.blsJ n (by omega) rfl (by omega) ?_); rw [if_neg (Nat.lt_irrefl n), hr0]) | (refine XPut.bls n (by omega) rfl (by omega) ?_)); conv => whnf) | fail
              refine XAgain.go (n + 1) (by omega) (by omega) ?_ ⟨rfl, rfl, rfl, rfl, rfl, rfl, trivial⟩
              rw [← row_next2 (show false = psF b p 9 n by rw [psF_step (by omega), hr0, hu] <;> rfl)] <;> rfl
            | true =>
              repeat' first | ((with_reducible apply XBr.tt); conv => whnf) | ((with_reducible apply XBr.dec) <;> (intro h; first | (exfalso; omega) | ((try simp only [List.length_map] at h); first | (exfalso; omega) | (conv => whnf)))) | ((with_reducible refine XInt.i64 (by omega) (by omega) ?_); conv => whnf) | (with_reducible apply XAnd.mk) | ((first | (with_reducible apply Chk.go) | (with_reducible apply ChkA.go) | (with_reducible apply ChkF.go) | (with_reducible apply ChkB.go)); conv => whnf) | (exact XSame.mk rfl rfl) | (with_reducible exact trivial) | (apply Walk.drawN (id := 28) tab_ok mixed_ok [] [16] (hsC [_, _]) [_, _, _, _, _, _, _, _, _, _, _, _, _, _, _, _, _] (by kernel_rfl) rfl) | ((first | (with_reducible apply XNext.mk) | (refine XHold.mk ⟨hvl, rfl, by omega, by omega⟩ ?_) | (refine XGet.vecV 9 (by omega) rfl (by omega) ?_) | (refine XHold.mk ⟨hbl _, rfl, by omega, by omega⟩ ?_) | ((refine XGet.blsJ n (by omega) rfl (by omega) ?_); rw [if_neg (Nat.lt_irrefl n), hr0]) | (refine XPut.bls n (by omega) rfl (by omega) ?_)); conv => whnf) | fail
              refine XAgain.go (n + 1) (by omega) (by omega) ?_ ⟨rfl, rfl, rfl, rfl, rfl, rfl, trivial⟩
              rw [← row_next2 (show u = psF b p 9 n by rw [psF_step (by omega), hr0, hu] <;> rfl)] <;> rfl
        · obtain rfl : n = (b.room + 1).toNat := by omega
          rw [show (bls (b.room + 1).toNat fun q => if q < (b.room + 1).toNat then psF b p 9 q else psR b p 9 q) = bls (b.room + 1).toNat (psF b p 9) from bls_congr fun q hq => if_pos hq]
          conv => whnf
          repeat' first | ((with_reducible apply XBr.dec) <;> (intro h; first | (exfalso; omega) | ((try simp only [List.length_map] at h); first | (exfalso; omega) | (conv => whnf)))) | ((with_reducible refine XInt.i64 (by omega) (by omega) ?_); conv => whnf) | fail
          refine XAgain.go (j + 1) (by omega) (by omega) ?_ ⟨rfl, rfl, rfl, rfl, congrArg (fun z => some (AV.int .i64 z)) (by omega), trivial⟩
          unfold psP
          rw [psB_fin (k := 9) (by omega) (by omega), psB_fin (k := 10) (by omega) (by omega), psB_other (k := 0) (by omega), psB_other (k := 1) (by omega), psB_other (k := 2) (by omega), psB_other (k := 3) (by omega), psB_other (k := 4) (by omega), psB_other (k := 5) (by omega), psB_other (k := 6) (by omega), psB_other (k := 7) (by omega), psB_other (k := 8) (by omega)] <;> rfl
    · obtain rfl : j = b.months.length := by omega
      conv => whnf
      repeat' first | ((with_reducible apply XBr.dec) <;> (intro h; first | (exfalso; omega) | ((try simp only [List.length_map] at h); first | (exfalso; omega) | (conv => whnf)))) | fail
      have hel : ∀ i, i ≤ b.months.length → lget (psP b p b.months.length) (i + 1) = some (.grow 4 false (bls (b.room + 1).toNat (psF b p i))) := fun i hi => by
        have hii : i = 0 ∨ i = 1 ∨ i = 2 ∨ i = 3 ∨ i = 4 ∨ i = 5 ∨ i = 6 ∨ i = 7 ∨ i = 8 ∨ i = 9 ∨ i = 10 := by omega
        rcases hii with rfl | rfl | rfl | rfl | rfl | rfl | rfl | rfl | rfl | rfl | rfl <;> exact congrArg some (psB_fin (by omega) hi)
      have ho1 : ∀ x ∈ vecF (b.months.length + 1) fun i => AV.gr (i + 1) (b.room + 1).toNat, x.one = true := fun x hx => by
        obtain ⟨i, _, rfl⟩ := vecF_mem.1 hx; rfl
      have ho2 : ∀ x ∈ vecF (b.months.length + 1) fun m => AV.sl false (bls (b.room + 1).toNat (psF b p m)), x.one = true := fun x hx => by
        obtain ⟨i, _, rfl⟩ := vecF_mem.1 hx; rfl
      refine ⟨Froz.gr (els := vecF (b.months.length + 1) fun i => AV.gr (i + 1) (b.room + 1).toNat) rfl hvl (by rw [vecF_len, vecF_len]) (fun e he => ?_) (by rw [flat_one ho2]; exact ho2) ?_⟩
      · obtain ⟨i, _, rfl⟩ := vecF_mem.1 he
        kernel_rfl
      · rw [flat_one ho1, flat_one ho2]
        refine ⟨by rw [vecF_len, vecF_len], fun i x e => ?_⟩
        rw [vecF_get?] at e
        split at e
        · rename_i hi
          cases e
          exact ⟨_, by rw [vecF_get?, if_pos hi], Froz.grow (hel i (by omega)) (bls_len _ _) (bls_low _ _)⟩
        · cases e
end GA
end
