/- Part 7 of a proof: D13, D14, D19, D30, D16, D17, D48, D34, D35, D52, D49, D51, D53, D21, Abs38, D36. -/
import Derived.Test.YtfpggfdojnnaiaaP6
section
namespace GA
open Go Go.RowKit Go.Proofs
set_option pp.deepTerms true
set_option maxRecDepth 8000
set_option linter.unusedVariables false
set_option linter.unusedSimpArgs false

def rkR (b : Bd) (l : List Int) (m n : Nat) : Int := max 0 (lieR b m n - l.getD (m + 1) default)
def gbR (b : Bd) (m n : Nat) : Int := grossR b.room (moB b m).g n (moB b m).ph (moB b m).tl
def mnS (F : Nat → Int) (s : Int) (c : Nat) : Int := if s < 0 ∨ F c < s then F c else s
def mnP (F : Nat → Int) (lo c : Nat) : Int := (List.range' lo (c - lo)).foldl (mnS F) (-1)
theorem mnP_succ {F : Nat → Int} {lo c : Nat} (h : lo ≤ c) : mnP F lo (c + 1) = mnS F (mnP F lo c) c := by
  unfold mnP
  rw [show c + 1 - lo = (c - lo) + 1 by omega, List.range'_1_concat, List.foldl_append, show lo + (c - lo) = c by omega]; rfl
theorem mnP_nil (F : Nat → Int) (lo : Nat) : mnP F lo lo = -1 := by unfold mnP; rw [Nat.sub_self]; rfl
theorem mnP_b {F : Nat → Int} {B : Int} (hB : 0 ≤ B) {lo : Nat} : ∀ c, lo ≤ c → (∀ q, lo ≤ q → q < c → 0 ≤ F q ∧ F q ≤ B) → -1 ≤ mnP F lo c ∧ mnP F lo c ≤ B ∧ (lo < c → 0 ≤ mnP F lo c) ∧ ∀ q, lo ≤ q → q < c → mnP F lo c ≤ F q
  | 0, h, hF => by
    obtain rfl : lo = 0 := by omega
    rw [mnP_nil]; exact ⟨by omega, by omega, by omega, by omega⟩
  | c + 1, h, hF => by
    by_cases hl : lo = c + 1
    · subst hl; rw [mnP_nil]; exact ⟨by omega, by omega, by omega, by omega⟩
    · obtain ⟨h1, h2, h3, h4⟩ := mnP_b hB c (by omega) fun q a b => hF q a (by omega)
      have h5 := hF c (by omega) (by omega)
      rw [mnP_succ (by omega)]
      unfold mnS
      split
      · rename_i h6
        refine ⟨by omega, by omega, by omega, fun q a b => ?_⟩
        by_cases hq : q = c
        · rw [hq]; exact Int.le_refl _
        · have := h4 q a (by omega)
          have := h3 (by omega)
          omega
      · rename_i h6
        refine ⟨by omega, by omega, by omega, fun q a b => ?_⟩
        by_cases hq : q = c
        · rw [hq]; omega
        · exact h4 q a (by omega)
def smF (b : Bd) (l : List Int) : Nat → Nat → Int
  | 0, _ => 0
  | k + 1, n => if l.getD (b.months.length - (k + 1)) default ≤ n ∧ (n : Int) ≤ b.room then
      rkR b l (b.months.length - (k + 1)) n + mnP (smF b l k) (lieR b (b.months.length - (k + 1)) n - rkR b l (b.months.length - (k + 1)) n).toNat (gbR b (b.months.length - (k + 1)) n - rkR b l (b.months.length - (k + 1)) n + 1).toNat else 0
theorem gbR_b {b : Bd} (ok : BedOk b) {m n : Nat} (hm : m < b.months.length) : lieR b m n ≤ gbR b m n ∧ gbR b m n ≤ b.room := by
  have hmo := ok.mo' hm
  have r1 := ok.r1
  exact ⟨grossR_mono hmo.1 (Int.le_refl _) (by show (moB b m).pl ≤ _; omega) (by show _ ≤ (moB b m).th; omega), (grossR_le (by omega) (by omega)).2⟩
theorem rkR_b {b : Bd} (ok : BedOk b) {l : List Int} (hl : ∀ j, j ≤ b.months.length → 0 ≤ l.getD j default ∧ l.getD j default ≤ b.room) {m n : Nat} (hm : m < b.months.length) : 0 ≤ rkR b l m n ∧ rkR b l m n ≤ lieR b m n ∧ (l.getD (m + 1) default ≤ lieR b m n → l.getD (m + 1) default ≤ lieR b m n - rkR b l m n) := by
  have := lieR_b ok (n := n) hm
  have := hl (m + 1) (by omega)
  unfold rkR; omega
theorem smF_b {b : Bd} (ok : BedOk b) {l : List Int} (hl : ∀ j, j ≤ b.months.length → 0 ≤ l.getD j default ∧ l.getD j default ≤ b.room) : ∀ k, k ≤ b.months.length → ∀ n, 0 ≤ smF b l k n ∧ smF b l k n ≤ 120 * k
  | 0, _, n => by unfold smF; omega
  | k + 1, hk, n => by
    have r2 := ok.r2
    by_cases h0 : 0 < b.months.length
    · have hm : b.months.length - (k + 1) < b.months.length := by omega
      have h1 := rkR_b ok hl (n := n) hm
      have h2 := gbR_b ok (n := n) hm
      have h3 := lieR_b ok (n := n) hm
      unfold smF
      split
      · have h4 := mnP_b (F := smF b l k) (B := 120 * (k : Int)) (by omega) (lo := (lieR b (b.months.length - (k + 1)) n - rkR b l (b.months.length - (k + 1)) n).toNat) (gbR b (b.months.length - (k + 1)) n - rkR b l (b.months.length - (k + 1)) n + 1).toNat (by omega) fun q _ _ => by have := smF_b ok hl k (by omega) q; omega
        have := h4.2.2.1 (by omega)
        omega
      · omega
    · omega
def ruleRow (b : Bd) (l : List Int) (m : Nat) : List Int := vecF (b.room.toNat + 1) (rkR b l m)
def ruleAs (b : Bd) (l : List Int) : List AV := vecF b.months.length fun m => .sl false (ints (ruleRow b l m))
def ruleN (b : Bd) : Nat := (min b.room (b.first + b.unsure) + 1).toNat
def ruleA (b : Bd) (share : Int) : AV :=
  if bShareE b share ≠ 0 then .tup [.sl true [], .int .i64 0, .int .i64 (bShareE b share)]
  else match flrL b share b.months.length with
  | none => .tup [.sl true [], .int .i64 0, .int .i64 6]
  | some l => if leastR b < l.getD 0 default then .tup [.sl true [], .int .i64 0, .int .i64 6] else .tup [.sl false (ruleAs b l), .int .i64 (mnP (smF b l b.months.length) (leastR b).toNat (ruleN b)), .int .i64 0]
def rowV (b : Bd) (l : List Int) (m i : Nat) : AV := if i < m then .sl false (ints (ruleRow b l i)) else .sl true []
theorem rowV_one (b : Bd) (l : List Int) (m N : Nat) : ∀ x ∈ vecF N (rowV b l m), x.one = true := fun x hx => by
  obtain ⟨i, _, rfl⟩ := vecF_mem.1 hx
  unfold rowV; split <;> rfl
theorem vecF_set' {α : Type} (N : Nat) (F : Nat → α) (m : Nat) (v : α) {G : Nat → α} (h : ∀ i, i < N → (if i = m then v else F i) = G i) : (vecF N F).set m v = vecF N G := by
  rw [vecF_set]; exact vecF_congr fun i hi => h i hi
theorem rowsV_low {n : Nat} (b : Bd) (l : List Int) (m N : Nat) : lowL n (vecF N (rowV b l m)) = true := by
  rw [lowL_iff]; intro x hx
  obtain ⟨i, _, rfl⟩ := vecF_mem.1 hx
  unfold rowV; split
  · exact lowI _
  · rfl
theorem vec_zero : (vecF 121 fun _ => (0 : Int)).map (AV.int .i64) = List.replicate 121 (.int .i64 0) := by rw [vecF_replicate, List.map_replicate]
theorem XGet.vec {W n e : Nat} {F : Nat → AV} {k : List AV → Prop} (m : Nat) (h1 : n = W) (he : e = m) (h2 : m < W) (h : k (F m).cells) : XGet (vecF W F) n e k := by
  subst he
  refine ⟨by rw [vecF_len, h1], by omega, ?_⟩
  rw [vecF_get _ h2]; exact h
set_option maxHeartbeats 2000000 in
theorem rule_c (b : Bd) (share : Int) (hm : b.months.length ≤ 100000) (hs : b.surveys.length ≤ 100000) : Comp Try.prog 51 [bedA b, .int .i64 share] (ruleA b share) := by
  have hsh := bShared_c b share hm hs
  unfold ruleA
  by_cases hE : bShareE b share = 0
  · obtain ⟨ok, h1, h2⟩ := bShareE_iff.1 hE
    have hf := bFloor_c b ok.toBedOk share
    have hle := least_c b ok.f1 (by have := ok.f2; have := ok.r2; omega) ok.u1 (by have := ok.u2; omega)
    have m1 := ok.m1
    have m2 := ok.m2
    have r1 := ok.r1
    have r2 := ok.r2
    have f1 := ok.f1
    have f2 := ok.f2
    have u1 := ok.u1
    have u2 := ok.u2
    have e1 : ((b.months.map moA).length : Int) = b.months.length := by rw [List.length_map]
    have hlb : 0 ≤ leastR b ∧ leastR b ≤ b.room := by unfold leastR; omega
    rw [bSharedA_ok hE] at hsh
    rw [if_neg (fun h => h hE)]
    cases hfl : flrL b share b.months.length with
    | none =>
      rw [hfl] at hf
      refine Comp.body (T := tab) (res := [.tmp 4, .tmp 5, .tmp 6]) tab_ok [] Try.func51 rfl (by kernel_rfl) Try.ntmps51 rfl (by simp only [List.length_cons, List.length_nil]; decide) (by simp only [lowL, bedL, AV.low]; rfl) ?_; conv => whnf
      repeat' first | ((with_reducible first | apply XBr.tt | apply XBr.ff | apply Chk.go | apply ChkA.go | apply ChkF.go | apply ChkB.go | apply XArr.pim0 | apply XArr.pim1); conv => whnf) | (with_reducible apply XBr.not) | ((with_reducible apply XBr.dec) <;> (intro h; first | (exfalso; omega) | ((try simp only [List.length_map] at h); first | (exfalso; omega) | (conv => whnf)))) | ((with_reducible first | apply XBr.beq | apply XBr.bne) <;> (intro h; first | (exfalso; omega) | (conv => whnf))) | ((with_reducible refine XInt.i64 (by omega) (by omega) ?_); conv => whnf) | ((with_reducible refine XHold.mk ?_ ?_); (first | omega | rfl | decide | exact ⟨rfl, by decide, rfl⟩ | exact wideI _ | exact widePr _ | exact wideSk _ | (unfold Room; constructor <;> ((try simp) <;> omega)) | exact ⟨rfl, by simp only [List.length_map], by unfold Room; constructor <;> ((try simp) <;> omega)⟩ | exact ⟨by omega, by omega, by unfold Room; constructor <;> ((try simp) <;> omega)⟩); conv => whnf) | ((first | ((with_reducible refine XIx.nat ?_ ?_ ?_); omega; (intro _; rfl)) | ((with_reducible refine XIx.map ?_ ?_ ?_ ?_); omega; omega; (intro _; rfl))); conv => whnf) | (with_reducible apply XAnd.mk) | (exact XSame.mk rfl rfl) | (exact XSame.mk (by first | rfl | (simp only [List.map_append, List.length_append, List.length_map]; done) | (simp only [List.map_append, List.length_append, List.length_map]; rfl)) (by first | rfl | (simp only [List.map_append]; done) | (simp only [List.map_append]; rfl))) | (with_reducible exact trivial) | ((first | (with_reducible refine xdrop_app (by rw [List.length_map]; omega) ?_) | (with_reducible refine XDrop.desk (by assumption) ?_) | (with_reducible first | refine XArr.ints (by omega) (by omega) (by omega) ?_ | refine XArr.intsA (by omega) (by omega) (by omega) ?_) | ((with_reducible first | refine XArr.nats ?_ ?_ ?_ | refine XArr.natsA ?_ ?_ ?_ | refine XArr.ptr ?_ ?_ ?_); omega; omega)); conv => whnf) | (apply Walk.drawN (id := 5) tab_ok mixed_ok [] [] (hsU _) [_, _, _, _, _, _, _, _, _, _] (by kernel_rfl) rfl) | (apply Walk.drawN (id := 14) tab_ok mixed_ok [] [28, 30] (hsC [_, _, _]) [_, _, _, _, _, _, _, _, _, _, _, _, _, _, _, _, _, _, _, _, _, _, _, _, _, _, _, _, _, _, _] (by kernel_rfl) rfl) | (apply Walk.drawN (id := 28) tab_ok mixed_ok [] [] (hsU _) [_, _, _, _, _, _, _, _, _, _, _, _] (by kernel_rfl) rfl) | (apply Walk.drawN (id := 29) tab_ok mixed_ok [] [] (hsU _) [_, _, _, _, _, _, _, _, _, _, _, _, _] (by kernel_rfl) rfl) | ((first | (with_reducible apply XNext.mk) | (refine XCall.ret hsh ?_) | (refine XCall.ret hf ?_)); conv => whnf) | ((with_reducible apply XBr.mk') <;> (intro h; conv => whnf))
      exact ⟨.low rfl⟩
    | some l =>
      rw [hfl] at hf
      obtain ⟨g1, g2, g3⟩ := flrL_spec ok.toBedOk ⟨h1, h2⟩ _ l (Nat.le_refl _) hfl
      have hlen := flrL_len hfl
      have hll : ((ints l).length : Int) = b.months.length + 1 := by rw [ints_len]; omega
      have hl : ∀ j, j ≤ b.months.length → 0 ≤ l.getD j default ∧ l.getD j default ≤ b.room := fun j hj => g2 _ (getD_mem (by omega))
      dsimp only
      by_cases hlt : leastR b < l.getD 0 default
      · rw [if_pos hlt]
        generalize leastR b = z at hle hlt
        have hlt' : decide (z < l.getD (Int.toNat 0) default) = true := decide_eq_true hlt
        refine Comp.body (T := tab) (res := [.tmp 4, .tmp 5, .tmp 6]) tab_ok [] Try.func51 rfl (by kernel_rfl) Try.ntmps51 rfl (by simp only [List.length_cons, List.length_nil]; decide) (by simp only [lowL, bedL, AV.low]; rfl) ?_; conv => whnf
        repeat' first | ((with_reducible first | apply XBr.tt | apply XBr.ff | apply Chk.go | apply ChkA.go | apply ChkF.go | apply ChkB.go | apply XArr.pim0 | apply XArr.pim1); conv => whnf) | (with_reducible apply XBr.not) | ((with_reducible apply XBr.dec) <;> (intro h; first | (exfalso; omega) | ((try simp only [List.length_map] at h); first | (exfalso; omega) | (conv => whnf)))) | ((with_reducible first | apply XBr.beq | apply XBr.bne) <;> (intro h; first | (exfalso; omega) | (conv => whnf))) | ((with_reducible refine XInt.i64 (by omega) (by omega) ?_); conv => whnf) | ((with_reducible refine XHold.mk ?_ ?_); (first | omega | rfl | decide | exact ⟨rfl, by decide, rfl⟩ | exact wideI _ | exact widePr _ | exact wideSk _ | (unfold Room; constructor <;> ((try simp) <;> omega)) | exact ⟨rfl, by simp only [List.length_map], by unfold Room; constructor <;> ((try simp) <;> omega)⟩ | exact ⟨by omega, by omega, by unfold Room; constructor <;> ((try simp) <;> omega)⟩); conv => whnf) | ((first | ((with_reducible refine XIx.nat ?_ ?_ ?_); omega; (intro _; rfl)) | ((with_reducible refine XIx.map ?_ ?_ ?_ ?_); omega; omega; (intro _; rfl))); conv => whnf) | (with_reducible apply XAnd.mk) | (exact XSame.mk rfl rfl) | (exact XSame.mk (by first | rfl | (simp only [List.map_append, List.length_append, List.length_map]; done) | (simp only [List.map_append, List.length_append, List.length_map]; rfl)) (by first | rfl | (simp only [List.map_append]; done) | (simp only [List.map_append]; rfl))) | (with_reducible exact trivial) | ((first | (with_reducible refine xdrop_app (by rw [List.length_map]; omega) ?_) | (with_reducible refine XDrop.desk (by assumption) ?_) | (with_reducible first | refine XArr.ints (by omega) (by omega) (by omega) ?_ | refine XArr.intsA (by omega) (by omega) (by omega) ?_) | ((with_reducible first | refine XArr.nats ?_ ?_ ?_ | refine XArr.natsA ?_ ?_ ?_ | refine XArr.ptr ?_ ?_ ?_); omega; omega)); conv => whnf) | (apply Walk.drawN (id := 5) tab_ok mixed_ok [] [] (hsU _) [_, _, _, _, _, _, _, _, _, _] (by kernel_rfl) rfl) | (apply Walk.drawN (id := 14) tab_ok mixed_ok [] [28, 30] (hsC [_, _, _]) [_, _, _, _, _, _, _, _, _, _, _, _, _, _, _, _, _, _, _, _, _, _, _, _, _, _, _, _, _, _, _] (by kernel_rfl) rfl) | (apply Walk.drawN (id := 28) tab_ok mixed_ok [] [] (hsU _) [_, _, _, _, _, _, _, _, _, _, _, _] (by kernel_rfl) rfl) | (apply Walk.drawN (id := 29) tab_ok mixed_ok [] [] (hsU _) [_, _, _, _, _, _, _, _, _, _, _, _, _] (by kernel_rfl) rfl) | ((first | (with_reducible apply XNext.mk) | (refine XCall.ret hsh ?_) | (refine XCall.ret hf ?_) | (refine XCall.ret hle ?_) | (with_reducible refine XBr.yes hlt' ?_)); conv => whnf) | ((with_reducible apply XBr.mk') <;> (intro h; conv => whnf))
        · exact ⟨.low rfl⟩
        · rename_i h; exact absurd hlt h
      · rw [if_neg hlt]
        have hlt' : decide (leastR b < l.getD (Int.toNat 0) default) = false := decide_eq_false hlt
        refine Comp.body (T := tab) (res := [.tmp 4, .tmp 5, .tmp 6]) tab_ok [] Try.func51 rfl (by kernel_rfl) Try.ntmps51 rfl (by simp only [List.length_cons, List.length_nil]; decide) (by simp only [lowL, bedL, AV.low]; rfl) ?_; conv => whnf
        repeat' first | ((with_reducible first | apply XBr.tt | apply XBr.ff | apply Chk.go | apply ChkA.go | apply ChkF.go | apply ChkB.go | apply XArr.pim0 | apply XArr.pim1); conv => whnf) | (with_reducible apply XBr.not) | ((with_reducible apply XBr.dec) <;> (intro h; first | (exfalso; omega) | ((try simp only [List.length_map] at h); first | (exfalso; omega) | (conv => whnf)))) | ((with_reducible first | apply XBr.beq | apply XBr.bne) <;> (intro h; first | (exfalso; omega) | (conv => whnf))) | ((with_reducible refine XInt.i64 (by omega) (by omega) ?_); conv => whnf) | ((with_reducible refine XHold.mk ?_ ?_); (first | omega | rfl | decide | exact ⟨rfl, by decide, rfl⟩ | exact wideI _ | exact widePr _ | exact wideSk _ | (unfold Room; constructor <;> ((try simp) <;> omega)) | exact ⟨rfl, by simp only [List.length_map], by unfold Room; constructor <;> ((try simp) <;> omega)⟩ | exact ⟨by omega, by omega, by unfold Room; constructor <;> ((try simp) <;> omega)⟩); conv => whnf) | ((first | ((with_reducible refine XIx.nat ?_ ?_ ?_); omega; (intro _; rfl)) | ((with_reducible refine XIx.map ?_ ?_ ?_ ?_); omega; omega; (intro _; rfl))); conv => whnf) | (with_reducible apply XAnd.mk) | (exact XSame.mk rfl rfl) | (exact XSame.mk (by first | rfl | (simp only [List.map_append, List.length_append, List.length_map]; done) | (simp only [List.map_append, List.length_append, List.length_map]; rfl)) (by first | rfl | (simp only [List.map_append]; done) | (simp only [List.map_append]; rfl))) | (with_reducible exact trivial) | ((first | (with_reducible refine xdrop_app (by rw [List.length_map]; omega) ?_) | (with_reducible refine XDrop.desk (by assumption) ?_) | (with_reducible first | refine XArr.ints (by omega) (by omega) (by omega) ?_ | refine XArr.intsA (by omega) (by omega) (by omega) ?_) | ((with_reducible first | refine XArr.nats ?_ ?_ ?_ | refine XArr.natsA ?_ ?_ ?_ | refine XArr.ptr ?_ ?_ ?_); omega; omega)); conv => whnf) | (apply Walk.drawN (id := 5) tab_ok mixed_ok [] [] (hsU _) [_, _, _, _, _, _, _, _, _, _] (by kernel_rfl) rfl) | (apply Walk.drawN (id := 14) tab_ok mixed_ok [] [28, 30] (hsC [_, _, _]) [_, _, _, _, _, _, _, _, _, _, _, _, _, _, _, _, _, _, _, _, _, _, _, _, _, _, _, _, _, _, _] (by kernel_rfl) rfl) | (apply Walk.drawN (id := 28) tab_ok mixed_ok [] [] (hsU _) [_, _, _, _, _, _, _, _, _, _, _, _] (by kernel_rfl) rfl) | (apply Walk.drawN (id := 29) tab_ok mixed_ok [] [] (hsU _) [_, _, _, _, _, _, _, _, _, _, _, _, _] (by kernel_rfl) rfl) | ((first | (with_reducible apply XNext.mk) | (refine XCall.ret hsh ?_) | (refine XCall.ret hf ?_) | (refine XCall.ret hle ?_) | (with_reducible refine XBr.no hlt' ?_)); conv => whnf) | ((refine XHold.mk ⟨by omega, by omega, by unfold Room; constructor <;> omega⟩ ?_); conv => whnf) | ((refine XHold.mk (by rw [List.length_replicate]) ?_); conv => whnf) | ((with_reducible apply XBr.mk') <;> (intro h; conv => whnf))
        · rename_i h; exact absurd h hlt
        refine Walk.loopGK tab_ok [] [(2, _), (4, _), (5, _), (6, _), (7, _), (9, _), (10, .gr 0 b.months.length), (50, .int .i64 b.months.length)] ⟨rfl, rfl, rfl, rfl, rfl, rfl, ?_, ?_, trivial⟩ (fun m : Nat => m ≤ b.months.length) (fun m => [(51, natA m)]) (fun m => [.grow 27 false (vecF b.months.length (rowV b l m))]) (fun m => b.months.length - m) 0 (Nat.zero_le _) ?_ ⟨rfl, trivial⟩ ?_ (fun _ _ => (show (1 : Nat) ≤ 1 from Nat.le_refl 1)) ?_
        · show some (AV.gr 0 (((b.months.map moA).length : Int)).toNat) = _
          rw [e1, Int.toNat_natCast]
        · show some (AV.int .i64 ((((b.months.map moA).length : Int)).toNat : Nat)) = _
          rw [e1, Int.toNat_natCast]
        · show _ = [Blk.grow _ false (List.replicate (((b.months.map moA).length : Int)).toNat (AV.sl true []))]
          rw [e1, Int.toNat_natCast, ← vecF_replicate]
          refine congrArg (fun x => [Blk.grow _ false x]) (vecF_congr fun i _ => ?_)
          unfold rowV; rw [if_neg (by omega)]
        · intro m _
          refine ⟨fun z hz => ?_, fun z hz => ?_⟩
          · rw [List.mem_singleton] at hz; subst hz; exact rowsV_low b l m _
          · simp only [List.cons_append, List.nil_append, List.mem_cons, List.not_mem_nil, or_false] at hz
            rcases hz with rfl | rfl | rfl | rfl | rfl | rfl | rfl | rfl | rfl <;> first | rfl | exact dskL b | exact lowBd b | exact lowI _
        · intro m hm
          have hvl : (vecF b.months.length (rowV b l m)).length = b.months.length := vecF_len _ _
          conv => whnf
          by_cases hmM : m < b.months.length
          · have hmo := ok.mo' hmM
            repeat' first | ((with_reducible first | apply XBr.tt | apply XBr.ff | apply Chk.go | apply ChkA.go | apply ChkF.go | apply ChkB.go | apply XArr.pim0 | apply XArr.pim1); conv => whnf) | (with_reducible apply XBr.not) | ((with_reducible apply XBr.dec) <;> (intro h; first | (exfalso; omega) | ((try simp only [List.length_map] at h); first | (exfalso; omega) | (conv => whnf)))) | ((with_reducible first | apply XBr.beq | apply XBr.bne) <;> (intro h; first | (exfalso; omega) | (conv => whnf))) | ((with_reducible refine XInt.i64 (by omega) (by omega) ?_); conv => whnf) | ((with_reducible refine XHold.mk ?_ ?_); (first | omega | rfl | decide | exact ⟨rfl, by decide, rfl⟩ | exact wideI _ | exact widePr _ | exact wideSk _ | (unfold Room; constructor <;> ((try simp) <;> omega)) | exact ⟨rfl, by simp only [List.length_map], by unfold Room; constructor <;> ((try simp) <;> omega)⟩ | exact ⟨by omega, by omega, by unfold Room; constructor <;> ((try simp) <;> omega)⟩); conv => whnf) | ((first | ((with_reducible refine XIx.nat ?_ ?_ ?_); omega; (intro _; rfl)) | ((with_reducible refine XIx.map ?_ ?_ ?_ ?_); omega; omega; (intro _; rfl))); conv => whnf) | (with_reducible apply XAnd.mk) | (exact XSame.mk rfl rfl) | (exact XSame.mk (by first | rfl | (simp only [List.map_append, List.length_append, List.length_map]; done) | (simp only [List.map_append, List.length_append, List.length_map]; rfl)) (by first | rfl | (simp only [List.map_append]; done) | (simp only [List.map_append]; rfl))) | (with_reducible exact trivial) | ((first | (with_reducible refine xdrop_app (by rw [List.length_map]; omega) ?_) | (with_reducible refine XDrop.desk (by assumption) ?_) | (with_reducible first | refine XArr.ints (by omega) (by omega) (by omega) ?_ | refine XArr.intsA (by omega) (by omega) (by omega) ?_) | ((with_reducible first | refine XArr.nats ?_ ?_ ?_ | refine XArr.natsA ?_ ?_ ?_ | refine XArr.ptr ?_ ?_ ?_); omega; omega)); conv => whnf) | (apply Walk.drawN (id := 5) tab_ok mixed_ok [] [] (hsU _) [_, _, _, _, _, _, _, _, _, _] (by kernel_rfl) rfl) | (apply Walk.drawN (id := 14) tab_ok mixed_ok [] [28, 30] (hsC [_, _, _]) [_, _, _, _, _, _, _, _, _, _, _, _, _, _, _, _, _, _, _, _, _, _, _, _, _, _, _, _, _, _, _] (by kernel_rfl) rfl) | (apply Walk.drawN (id := 28) tab_ok mixed_ok [] [] (hsU _) [_, _, _, _, _, _, _, _, _, _, _, _] (by kernel_rfl) rfl) | (apply Walk.drawN (id := 29) tab_ok mixed_ok [] [] (hsU _) [_, _, _, _, _, _, _, _, _, _, _, _, _] (by kernel_rfl) rfl) | ((with_reducible apply XNext.mk); conv => whnf) | ((with_reducible apply XBr.mk') <;> (intro h; conv => whnf))
            refine Walk.nilRowIn 0 m 3 rfl (rowV_one b l m _) ?_ ?_
            · rw [vecF_get?, if_pos hmM]; unfold rowV; rw [if_neg (by omega)]
            have hone : ∀ n, ∀ x ∈ (vecF b.months.length (rowV b l m)).set m (.gr 1 n), x.one = true := fun n x hx => by
              rcases List.mem_or_eq_of_mem_set hx with hx | rfl
              · exact rowV_one b l m _ x hx
              · rfl
            refine Walk.loopKW [(2, _), (4, _), (5, _), (6, _), (7, _), (9, _), (10, _), (11, _), (50, _), (51, _), (56, _)] ⟨rfl, rfl, rfl, rfl, rfl, rfl, rfl, rfl, rfl, rfl, rfl, trivial⟩ (fun n : Nat => (n : Int) ≤ b.room + 1) (fun n => [(57, natA n)]) (fun n => [.grow 27 false ((vecF b.months.length (rowV b l m)).set m (.gr 1 (vecF n (rkR b l m)).length)), .grow 3 (vecF n (rkR b l m)).isEmpty (ints (vecF n (rkR b l m)))]) (fun n => (b.room + 1).toNat - n) 0 (by omega) ?_ ⟨rfl, trivial⟩ ?_
            · have e0 : vecF 0 (rkR b l m) = [] := by rw [vecF_eq]; rfl
              rw [e0]; rfl
            intro n hn
            have hvn : (ints (vecF n (rkR b l m))).length = (vecF n (rkR b l m)).length := ints_len _
            have hvn2 : (vecF n (rkR b l m)).length = n := vecF_len _ _
            have hsl : ((vecF b.months.length (rowV b l m)).set m (.gr 1 (vecF n (rkR b l m)).length)).length = b.months.length := by rw [List.length_set, vecF_len]
            by_cases hnr : (n : Int) ≤ b.room
            · have hgc := gross_c b m n (moB b m).pl (moB b m).th hmM (by omega) (by omega) hmo.1 hmo.2.1 (by omega) (by omega) (by omega) (by omega) (by omega) (by omega)
              change Comp Try.prog _ _ (.int .i64 (lieR b m n)) at hgc
              have hlb2 := lieR_b ok.toBedOk (j := m) (n := n) hmM
              have hlm := hl (m + 1) (by omega)
              have hlx : l.getD ((m : Int) + 1).toNat default = l.getD (m + 1) default := by rw [show ((m : Int) + 1).toNat = m + 1 by omega]
              have hgr := bedGreatest_c 0 false [lieR b m n - l.getD ((m : Int) + 1).toNat default] (by simp)
              refine Walk.run tab_ok [] ?_
              conv => whnf
              repeat' first | ((with_reducible first | apply XBr.tt | apply XBr.ff | apply Chk.go | apply ChkA.go | apply ChkF.go | apply ChkB.go | apply XArr.pim0 | apply XArr.pim1); conv => whnf) | (with_reducible apply XBr.not) | ((with_reducible apply XBr.dec) <;> (intro h; first | (exfalso; omega) | ((try simp only [List.length_map] at h); first | (exfalso; omega) | (conv => whnf)))) | ((with_reducible first | apply XBr.beq | apply XBr.bne) <;> (intro h; first | (exfalso; omega) | (conv => whnf))) | ((with_reducible refine XInt.i64 (by omega) (by omega) ?_); conv => whnf) | ((with_reducible refine XHold.mk ?_ ?_); (first | omega | rfl | decide | exact ⟨rfl, by decide, rfl⟩ | exact wideI _ | exact widePr _ | exact wideSk _ | (unfold Room; constructor <;> ((try simp) <;> omega)) | exact ⟨rfl, by simp only [List.length_map], by unfold Room; constructor <;> ((try simp) <;> omega)⟩ | exact ⟨by omega, by omega, by unfold Room; constructor <;> ((try simp) <;> omega)⟩); conv => whnf) | ((first | ((with_reducible refine XIx.nat ?_ ?_ ?_); omega; (intro _; rfl)) | ((with_reducible refine XIx.map ?_ ?_ ?_ ?_); omega; omega; (intro _; rfl))); conv => whnf) | (with_reducible apply XAnd.mk) | (exact XSame.mk rfl rfl) | (exact XSame.mk (by first | rfl | (simp only [List.map_append, List.length_append, List.length_map]; done) | (simp only [List.map_append, List.length_append, List.length_map]; rfl)) (by first | rfl | (simp only [List.map_append]; done) | (simp only [List.map_append]; rfl))) | (with_reducible exact trivial) | ((first | (with_reducible refine xdrop_app (by rw [List.length_map]; omega) ?_) | (with_reducible refine XDrop.desk (by assumption) ?_) | (with_reducible first | refine XArr.ints (by omega) (by omega) (by omega) ?_ | refine XArr.intsA (by omega) (by omega) (by omega) ?_) | ((with_reducible first | refine XArr.nats ?_ ?_ ?_ | refine XArr.natsA ?_ ?_ ?_ | refine XArr.ptr ?_ ?_ ?_); omega; omega)); conv => whnf) | (apply Walk.drawN (id := 5) tab_ok mixed_ok [] [] (hsU _) [_, _, _, _, _, _, _, _, _, _] (by kernel_rfl) rfl) | (apply Walk.drawN (id := 14) tab_ok mixed_ok [] [28, 30] (hsC [_, _, _]) [_, _, _, _, _, _, _, _, _, _, _, _, _, _, _, _, _, _, _, _, _, _, _, _, _, _, _, _, _, _, _] (by kernel_rfl) rfl) | (apply Walk.drawN (id := 28) tab_ok mixed_ok [] [] (hsU _) [_, _, _, _, _, _, _, _, _, _, _, _] (by kernel_rfl) rfl) | (apply Walk.drawN (id := 29) tab_ok mixed_ok [] [] (hsU _) [_, _, _, _, _, _, _, _, _, _, _, _, _] (by kernel_rfl) rfl) | ((first | (with_reducible apply XNext.mk) | (refine XHold.mk ⟨hsl, rfl, by omega, by omega⟩ ?_) | (refine XGet.set (by omega) (by omega) (by rw [vecF_len]) ?_) | (refine XCall.ret (worst_c (moB b m)) ?_) | (refine XCall.ret hgc ?_) | (refine XCall.ret hgr ?_)); conv => whnf) | ((refine XHold.mk ⟨rfl, hvn, by unfold Room; constructor <;> (simp only [List.length_cons, List.length_nil]; omega)⟩ ?_); conv => whnf) | ((refine XPut.set (by omega) (by omega) (by rw [vecF_len]) ?_); conv => whnf) | ((with_reducible apply XBr.mk') <;> (intro h; conv => whnf))
              have hrk : [lieR b m n - l.getD ((m : Int) + 1).toNat default].foldl max 0 = rkR b l m n := by rw [hlx]; rfl
              have hvs : vecF (n + 1) (rkR b l m) = vecF n (rkR b l m) ++ [rkR b l m n] := by rw [vecF, dif_neg (by omega), Nat.add_sub_cancel]
              refine XAgain.go (n + 1) (by omega) (by omega) ?_ ⟨rfl, rfl, rfl, rfl, rfl, rfl, rfl, rfl, rfl, rfl, rfl, rfl, trivial⟩
              rw [hvs, ← hrk]
              show [Blk.grow _ false (List.set _ m (.gr 1 (vecF n (rkR b l m) ++ [_]).length)), Blk.grow _ (vecF n (rkR b l m) ++ [_]).isEmpty ((vecF n (rkR b l m) ++ [_]).map (AV.int .i64))] = _
              rw [isEmpty_app, List.map_append, List.length_append]
              rfl
            · obtain rfl : n = b.room.toNat + 1 := by omega
              refine Walk.freezeRow 0 m 1 (vecF (b.room.toNat + 1) (rkR b l m)).length rfl (hone _) (by rw [List.getElem?_set_self (by rw [vecF_len]; exact hmM)]) rfl (by decide) hvn ?_
              refine Walk.run tab_ok [] ?_
              conv => whnf
              repeat' first | ((with_reducible first | apply XBr.tt | apply XBr.ff | apply Chk.go | apply ChkA.go | apply ChkF.go | apply ChkB.go | apply XArr.pim0 | apply XArr.pim1); conv => whnf) | (with_reducible apply XBr.not) | ((with_reducible apply XBr.dec) <;> (intro h; first | (exfalso; omega) | ((try simp only [List.length_map] at h); first | (exfalso; omega) | (conv => whnf)))) | ((with_reducible first | apply XBr.beq | apply XBr.bne) <;> (intro h; first | (exfalso; omega) | (conv => whnf))) | ((with_reducible refine XInt.i64 (by omega) (by omega) ?_); conv => whnf) | ((with_reducible refine XHold.mk ?_ ?_); (first | omega | rfl | decide | exact ⟨rfl, by decide, rfl⟩ | exact wideI _ | exact widePr _ | exact wideSk _ | (unfold Room; constructor <;> ((try simp) <;> omega)) | exact ⟨rfl, by simp only [List.length_map], by unfold Room; constructor <;> ((try simp) <;> omega)⟩ | exact ⟨by omega, by omega, by unfold Room; constructor <;> ((try simp) <;> omega)⟩); conv => whnf) | ((first | ((with_reducible refine XIx.nat ?_ ?_ ?_); omega; (intro _; rfl)) | ((with_reducible refine XIx.map ?_ ?_ ?_ ?_); omega; omega; (intro _; rfl))); conv => whnf) | (with_reducible apply XAnd.mk) | (exact XSame.mk rfl rfl) | (exact XSame.mk (by first | rfl | (simp only [List.map_append, List.length_append, List.length_map]; done) | (simp only [List.map_append, List.length_append, List.length_map]; rfl)) (by first | rfl | (simp only [List.map_append]; done) | (simp only [List.map_append]; rfl))) | (with_reducible exact trivial) | ((first | (with_reducible refine xdrop_app (by rw [List.length_map]; omega) ?_) | (with_reducible refine XDrop.desk (by assumption) ?_) | (with_reducible first | refine XArr.ints (by omega) (by omega) (by omega) ?_ | refine XArr.intsA (by omega) (by omega) (by omega) ?_) | ((with_reducible first | refine XArr.nats ?_ ?_ ?_ | refine XArr.natsA ?_ ?_ ?_ | refine XArr.ptr ?_ ?_ ?_); omega; omega)); conv => whnf) | (apply Walk.drawN (id := 5) tab_ok mixed_ok [] [] (hsU _) [_, _, _, _, _, _, _, _, _, _] (by kernel_rfl) rfl) | (apply Walk.drawN (id := 14) tab_ok mixed_ok [] [28, 30] (hsC [_, _, _]) [_, _, _, _, _, _, _, _, _, _, _, _, _, _, _, _, _, _, _, _, _, _, _, _, _, _, _, _, _, _, _] (by kernel_rfl) rfl) | (apply Walk.drawN (id := 28) tab_ok mixed_ok [] [] (hsU _) [_, _, _, _, _, _, _, _, _, _, _, _] (by kernel_rfl) rfl) | (apply Walk.drawN (id := 29) tab_ok mixed_ok [] [] (hsU _) [_, _, _, _, _, _, _, _, _, _, _, _, _] (by kernel_rfl) rfl) | ((with_reducible apply XNext.mk); conv => whnf) | ((with_reducible apply XBr.mk') <;> (intro h; conv => whnf))
              refine XAgainG.go (m + 1) [.dead] (by omega) (by omega) ?_ ⟨rfl, rfl, rfl, rfl, rfl, rfl, rfl, rfl, rfl, trivial⟩
              show [Blk.grow _ false (vecF b.months.length (rowV b l (m + 1))), Blk.dead] = [Blk.grow _ false (((vecF b.months.length (rowV b l m)).set m _).set m (.sl (vecF (b.room.toNat + 1) (rkR b l m)).isEmpty (ints (vecF (b.room.toNat + 1) (rkR b l m))))), Blk.dead]
              rw [List.set_set, vecF_set']
              intro i _
              unfold rowV
              by_cases hi : i = m
              · subst hi
                have e5 : (vecF (b.room.toNat + 1) (rkR b l i)).isEmpty = false := by
                  cases h : vecF (b.room.toNat + 1) (rkR b l i) with
                  | nil => rw [h] at hvn2; simp at hvn2
                  | cons x y => rfl
                rw [if_pos rfl, if_pos (by omega), e5]; rfl
              · rw [if_neg hi]
                by_cases hi2 : i < m
                · rw [if_pos hi2, if_pos (by omega)]
                · rw [if_neg hi2, if_neg (by omega)]
          · obtain rfl : m = b.months.length := by omega
            have hrA : vecF b.months.length (rowV b l b.months.length) = ruleAs b l := vecF_congr fun i hi => by unfold rowV; rw [if_pos hi]
            rw [hrA]
            have hrl : (ruleAs b l).length = b.months.length := vecF_len _ _
            have hsm := smF_b ok.toBedOk hl
            repeat' first | ((with_reducible first | apply XBr.tt | apply XBr.ff | apply Chk.go | apply ChkA.go | apply ChkF.go | apply ChkB.go | apply XArr.pim0 | apply XArr.pim1); conv => whnf) | (with_reducible apply XBr.not) | ((with_reducible apply XBr.dec) <;> (intro h; first | (exfalso; omega) | ((try simp only [List.length_map] at h); first | (exfalso; omega) | (conv => whnf)))) | ((with_reducible first | apply XBr.beq | apply XBr.bne) <;> (intro h; first | (exfalso; omega) | (conv => whnf))) | ((with_reducible refine XInt.i64 (by omega) (by omega) ?_); conv => whnf) | ((with_reducible refine XHold.mk ?_ ?_); (first | omega | rfl | decide | exact ⟨rfl, by decide, rfl⟩ | exact wideI _ | exact widePr _ | exact wideSk _ | (unfold Room; constructor <;> ((try simp) <;> omega)) | exact ⟨rfl, by simp only [List.length_map], by unfold Room; constructor <;> ((try simp) <;> omega)⟩ | exact ⟨by omega, by omega, by unfold Room; constructor <;> ((try simp) <;> omega)⟩); conv => whnf) | ((first | ((with_reducible refine XIx.nat ?_ ?_ ?_); omega; (intro _; rfl)) | ((with_reducible refine XIx.map ?_ ?_ ?_ ?_); omega; omega; (intro _; rfl))); conv => whnf) | (with_reducible apply XAnd.mk) | (exact XSame.mk rfl rfl) | (exact XSame.mk (by first | rfl | (simp only [List.map_append, List.length_append, List.length_map]; done) | (simp only [List.map_append, List.length_append, List.length_map]; rfl)) (by first | rfl | (simp only [List.map_append]; done) | (simp only [List.map_append]; rfl))) | (with_reducible exact trivial) | ((first | (with_reducible refine xdrop_app (by rw [List.length_map]; omega) ?_) | (with_reducible refine XDrop.desk (by assumption) ?_) | (with_reducible first | refine XArr.ints (by omega) (by omega) (by omega) ?_ | refine XArr.intsA (by omega) (by omega) (by omega) ?_) | ((with_reducible first | refine XArr.nats ?_ ?_ ?_ | refine XArr.natsA ?_ ?_ ?_ | refine XArr.ptr ?_ ?_ ?_); omega; omega)); conv => whnf) | (apply Walk.drawN (id := 5) tab_ok mixed_ok [] [] (hsU _) [_, _, _, _, _, _, _, _, _, _] (by kernel_rfl) rfl) | (apply Walk.drawN (id := 14) tab_ok mixed_ok [] [28, 30] (hsC [_, _, _]) [_, _, _, _, _, _, _, _, _, _, _, _, _, _, _, _, _, _, _, _, _, _, _, _, _, _, _, _, _, _, _] (by kernel_rfl) rfl) | (apply Walk.drawN (id := 28) tab_ok mixed_ok [] [] (hsU _) [_, _, _, _, _, _, _, _, _, _, _, _] (by kernel_rfl) rfl) | (apply Walk.drawN (id := 29) tab_ok mixed_ok [] [] (hsU _) [_, _, _, _, _, _, _, _, _, _, _, _, _] (by kernel_rfl) rfl) | ((with_reducible apply XNext.mk); conv => whnf) | ((with_reducible apply XBr.mk') <;> (intro h; conv => whnf))
            refine Walk.loopGK tab_ok [] [(2, _), (4, _), (5, _), (6, _), (7, _), (9, _), (10, _), (13, _)] ⟨rfl, rfl, rfl, rfl, rfl, rfl, rfl, rfl, trivial⟩ (fun k : Nat => k ≤ b.months.length) (fun k => [(14, .int .i64 ((b.months.length : Int) - 1 - k))]) (fun k => [.grow 27 false (ruleAs b l), .cells ((vecF 121 (smF b l k)).map (.int .i64))]) (fun k => b.months.length - k) 0 (Nat.zero_le _) ?_ ⟨?_, trivial⟩ ?_ (fun _ _ => (show (2 : Nat) ≤ 2 from Nat.le_refl 2)) ?_
            · have e0 : vecF 121 (smF b l 0) = vecF 121 fun _ => 0 := rfl
              rw [e0, vec_zero]
            · show some (AV.int .i64 (((b.months.map moA).length : Int) - 1)) = _
              refine congrArg (fun z => some (AV.int .i64 z)) (by omega)
            · intro k _
              refine ⟨fun z hz => ?_, fun z hz => ?_⟩
              · simp only [List.mem_cons, List.not_mem_nil, or_false] at hz
                rcases hz with rfl | rfl
                · rw [← hrA]; exact rowsV_low b l _ _
                · exact vec_low fun _ => rfl
              · simp only [List.cons_append, List.nil_append, List.mem_cons, List.not_mem_nil, or_false] at hz
                rcases hz with rfl | rfl | rfl | rfl | rfl | rfl | rfl | rfl | rfl <;> first | rfl | exact dskL b | exact lowBd b | exact lowI _
            · intro k hk
              conv => whnf
              by_cases hkM : k < b.months.length
              · obtain ⟨m, hmk⟩ : ∃ m : Nat, (b.months.length : Int) - 1 - k = m := ⟨b.months.length - 1 - k, by omega⟩
                have hm1 : m < b.months.length := by omega
                have hmo := ok.mo' hm1
                have hlm := hl m (by omega)
                have hrr : (ruleRow b l m).length = b.room.toNat + 1 := vecF_len _ _
                have hsk : ∀ n, smF b l (k + 1) n = if l.getD m default ≤ n ∧ (n : Int) ≤ b.room then rkR b l m n + mnP (smF b l k) (lieR b m n - rkR b l m n).toNat (gbR b m n - rkR b l m n + 1).toNat else 0 := fun n => by
                  rw [smF, show b.months.length - (k + 1) = m by omega]
                rw [hmk]
                repeat' first | ((with_reducible first | apply XBr.tt | apply XBr.ff | apply Chk.go | apply ChkA.go | apply ChkF.go | apply ChkB.go | apply XArr.pim0 | apply XArr.pim1); conv => whnf) | (with_reducible apply XBr.not) | ((with_reducible apply XBr.dec) <;> (intro h; first | (exfalso; omega) | ((try simp only [List.length_map] at h); first | (exfalso; omega) | (conv => whnf)))) | ((with_reducible first | apply XBr.beq | apply XBr.bne) <;> (intro h; first | (exfalso; omega) | (conv => whnf))) | ((with_reducible refine XInt.i64 (by omega) (by omega) ?_); conv => whnf) | ((with_reducible refine XHold.mk ?_ ?_); (first | omega | rfl | decide | exact ⟨rfl, by decide, rfl⟩ | exact wideI _ | exact widePr _ | exact wideSk _ | (unfold Room; constructor <;> ((try simp) <;> omega)) | exact ⟨rfl, by simp only [List.length_map], by unfold Room; constructor <;> ((try simp) <;> omega)⟩ | exact ⟨by omega, by omega, by unfold Room; constructor <;> ((try simp) <;> omega)⟩); conv => whnf) | ((first | ((with_reducible refine XIx.nat ?_ ?_ ?_); omega; (intro _; rfl)) | ((with_reducible refine XIx.map ?_ ?_ ?_ ?_); omega; omega; (intro _; rfl))); conv => whnf) | (with_reducible apply XAnd.mk) | (exact XSame.mk rfl rfl) | (exact XSame.mk (by first | rfl | (simp only [List.map_append, List.length_append, List.length_map]; done) | (simp only [List.map_append, List.length_append, List.length_map]; rfl)) (by first | rfl | (simp only [List.map_append]; done) | (simp only [List.map_append]; rfl))) | (with_reducible exact trivial) | ((first | (with_reducible refine xdrop_app (by rw [List.length_map]; omega) ?_) | (with_reducible refine XDrop.desk (by assumption) ?_) | (with_reducible first | refine XArr.ints (by omega) (by omega) (by omega) ?_ | refine XArr.intsA (by omega) (by omega) (by omega) ?_) | ((with_reducible first | refine XArr.nats ?_ ?_ ?_ | refine XArr.natsA ?_ ?_ ?_ | refine XArr.ptr ?_ ?_ ?_); omega; omega)); conv => whnf) | (apply Walk.drawN (id := 5) tab_ok mixed_ok [] [] (hsU _) [_, _, _, _, _, _, _, _, _, _] (by kernel_rfl) rfl) | (apply Walk.drawN (id := 14) tab_ok mixed_ok [] [28, 30] (hsC [_, _, _]) [_, _, _, _, _, _, _, _, _, _, _, _, _, _, _, _, _, _, _, _, _, _, _, _, _, _, _, _, _, _, _] (by kernel_rfl) rfl) | (apply Walk.drawN (id := 28) tab_ok mixed_ok [] [] (hsU _) [_, _, _, _, _, _, _, _, _, _, _, _] (by kernel_rfl) rfl) | (apply Walk.drawN (id := 29) tab_ok mixed_ok [] [] (hsU _) [_, _, _, _, _, _, _, _, _, _, _, _, _] (by kernel_rfl) rfl) | ((with_reducible apply XNext.mk); conv => whnf) | ((with_reducible apply XBr.mk') <;> (intro h; conv => whnf))
                refine Walk.loopK tab_ok [] [(2, _), (4, _), (5, _), (6, _), (7, _), (9, _), (10, _), (13, _), (14, _), (15, _), (16, _)] ⟨rfl, rfl, rfl, rfl, rfl, rfl, rfl, rfl, rfl, rfl, rfl, trivial⟩ (fun n : Nat => l.getD m default ≤ n ∧ (n : Int) ≤ b.room + 1) (fun n => [(17, natA n)]) (fun n => [.grow 27 false (ruleAs b l), .cells ((vecF 121 (smF b l k)).map (.int .i64)), .cells ((vecF 121 fun q => if q < n then smF b l (k + 1) q else 0).map (.int .i64)), .cells (moC (moB b m))]) (fun n => (b.room + 1).toNat - n) (l.getD m default).toNat ⟨by omega, by omega⟩ ?_ ⟨?_, trivial⟩ ?_
                · rw [show (vecF 121 fun q => if q < (l.getD m default).toNat then smF b l (k + 1) q else 0) = vecF 121 fun _ => 0 from vecF_congr fun q _ => by
                    by_cases hq : q < (l.getD m default).toNat
                    · rw [if_pos hq, hsk, if_neg (by omega)]
                    · rw [if_neg hq], vec_zero]
                  rfl
                · exact congrArg (fun z => some (AV.int .i64 z)) (show l.getD ((m : Int)).toNat default = (((l.getD m default).toNat : Nat) : Int) by rw [Int.toNat_natCast]; omega)
                rintro n ⟨hn1, hn2⟩
                conv => whnf
                by_cases hnr : (n : Int) ≤ b.room
                · have hgc := gross_c b m n (moB b m).pl (moB b m).th hm1 (by omega) (by omega) hmo.1 hmo.2.1 (by omega) (by omega) (by omega) (by omega) (by omega) (by omega)
                  change Comp Try.prog _ _ (.int .i64 (lieR b m n)) at hgc
                  have hgx := gross_c b m n (moB b m).ph (moB b m).tl hm1 (by omega) (by omega) hmo.1 hmo.2.1 (by omega) (by omega) (by omega) (by omega) (by omega) (by omega)
                  change Comp Try.prog _ _ (.int .i64 (gbR b m n)) at hgx
                  have hlb2 := lieR_b ok.toBedOk (j := m) (n := n) hm1
                  have hgb := gbR_b ok.toBedOk (n := n) hm1
                  have hrb := rkR_b ok.toBedOk hl (n := n) hm1
                  have hrv : (ruleRow b l m).getD n default = rkR b l m n := vecF_get _ (by omega)
                  have hskn := hsk n
                  obtain ⟨lo0, hlo0⟩ : ∃ lo0, lo0 = (lieR b m n - rkR b l m n).toNat := ⟨_, rfl⟩
                  rw [← hlo0] at hskn
                  rw [if_pos ⟨hn1, hnr⟩] at hskn
                  repeat' first | ((with_reducible first | apply XBr.tt | apply XBr.ff | apply Chk.go | apply ChkA.go | apply ChkF.go | apply ChkB.go | apply XArr.pim0 | apply XArr.pim1); conv => whnf) | (with_reducible apply XBr.not) | ((with_reducible apply XBr.dec) <;> (intro h; first | (exfalso; omega) | ((try simp only [List.length_map] at h); first | (exfalso; omega) | (conv => whnf)))) | ((with_reducible first | apply XBr.beq | apply XBr.bne) <;> (intro h; first | (exfalso; omega) | (conv => whnf))) | ((with_reducible refine XInt.i64 (by omega) (by omega) ?_); conv => whnf) | ((with_reducible refine XHold.mk ?_ ?_); (first | omega | rfl | decide | exact ⟨rfl, by decide, rfl⟩ | exact wideI _ | exact widePr _ | exact wideSk _ | (unfold Room; constructor <;> ((try simp) <;> omega)) | exact ⟨rfl, by simp only [List.length_map], by unfold Room; constructor <;> ((try simp) <;> omega)⟩ | exact ⟨by omega, by omega, by unfold Room; constructor <;> ((try simp) <;> omega)⟩); conv => whnf) | ((first | ((with_reducible refine XIx.nat ?_ ?_ ?_); omega; (intro _; rfl)) | ((with_reducible refine XIx.map ?_ ?_ ?_ ?_); omega; omega; (intro _; rfl))); conv => whnf) | (with_reducible apply XAnd.mk) | (exact XSame.mk rfl rfl) | (exact XSame.mk (by first | rfl | (simp only [List.map_append, List.length_append, List.length_map]; done) | (simp only [List.map_append, List.length_append, List.length_map]; rfl)) (by first | rfl | (simp only [List.map_append]; done) | (simp only [List.map_append]; rfl))) | (with_reducible exact trivial) | ((first | (with_reducible refine xdrop_app (by rw [List.length_map]; omega) ?_) | (with_reducible refine XDrop.desk (by assumption) ?_) | (with_reducible first | refine XArr.ints (by omega) (by omega) (by omega) ?_ | refine XArr.intsA (by omega) (by omega) (by omega) ?_) | ((with_reducible first | refine XArr.nats ?_ ?_ ?_ | refine XArr.natsA ?_ ?_ ?_ | refine XArr.ptr ?_ ?_ ?_); omega; omega)); conv => whnf) | (apply Walk.drawN (id := 5) tab_ok mixed_ok [] [] (hsU _) [_, _, _, _, _, _, _, _, _, _] (by kernel_rfl) rfl) | (apply Walk.drawN (id := 14) tab_ok mixed_ok [] [28, 30] (hsC [_, _, _]) [_, _, _, _, _, _, _, _, _, _, _, _, _, _, _, _, _, _, _, _, _, _, _, _, _, _, _, _, _, _, _] (by kernel_rfl) rfl) | (apply Walk.drawN (id := 28) tab_ok mixed_ok [] [] (hsU _) [_, _, _, _, _, _, _, _, _, _, _, _] (by kernel_rfl) rfl) | (apply Walk.drawN (id := 29) tab_ok mixed_ok [] [] (hsU _) [_, _, _, _, _, _, _, _, _, _, _, _, _] (by kernel_rfl) rfl) | ((first | (with_reducible apply XNext.mk) | (refine XHold.mk ⟨hrl, rfl, by omega, by omega⟩ ?_) | (refine XGet.vec (W := b.months.length) m rfl (by omega) (by omega) ?_) | (refine XCall.ret (worst_c (moB b m)) ?_) | (refine XCall.ret hgc ?_) | (refine XInt.i64 (show _ ≤ lieR b m n - (ruleRow b l m).getD n default by omega) (show lieR b m n - (ruleRow b l m).getD n default ≤ _ by omega) ?_)); conv => whnf) | ((with_reducible apply XBr.mk') <;> (intro h; conv => whnf))
                  have hml := fun (c : Nat) (hc : lo0 ≤ c) => mnP_b (F := smF b l k) (B := 120 * (k : Int)) (by omega) (lo := lo0) c hc fun q _ _ => by have := hsm k (by omega) q; omega
                  refine Walk.loopK tab_ok [] [(2, _), (4, _), (5, _), (6, _), (7, _), (9, _), (10, _), (13, _), (14, _), (15, _), (16, _), (17, _), (18, .int .i64 (rkR b l m n))] ⟨rfl, rfl, rfl, rfl, rfl, rfl, rfl, rfl, rfl, rfl, rfl, rfl, congrArg (fun z => some (AV.int .i64 z)) hrv, trivial⟩ (fun c : Nat => lo0 ≤ c ∧ (c : Int) ≤ gbR b m n - rkR b l m n + 1) (fun c => [(19, .int .i64 (mnP (smF b l k) lo0 c)), (20, natA c)]) (fun _ => [.grow 27 false (ruleAs b l), .cells ((vecF 121 (smF b l k)).map (.int .i64)), .cells ((vecF 121 fun q => if q < n then smF b l (k + 1) q else 0).map (.int .i64)), .cells (moC (moB b m))]) (fun c => (gbR b m n - rkR b l m n + 1).toNat - c) lo0 ⟨Nat.le_refl _, by omega⟩ rfl ⟨congrArg (fun z => some (AV.int .i64 z)) (mnP_nil _ _).symm, congrArg (fun z => some (AV.int .i64 z)) (show lieR b m n - (ruleRow b l m).getD n default = (lo0 : Int) by rw [hrv]; omega), trivial⟩ ?_
                  rintro c ⟨hc1, hc2⟩
                  have hmc := hml c hc1
                  have hsc := hsm k (by omega) c
                  have hmn := mnP_succ (F := smF b l k) hc1
                  unfold mnS at hmn
                  generalize hz : mnP (smF b l k) lo0 c = z at hmc hmn
                  conv => whnf
                  by_cases hcl : (c : Int) ≤ gbR b m n - rkR b l m n
                  · skip
                    repeat' first | ((with_reducible first | apply XBr.tt | apply XBr.ff | apply Chk.go | apply ChkA.go | apply ChkF.go | apply ChkB.go | apply XArr.pim0 | apply XArr.pim1); conv => whnf) | (with_reducible apply XBr.not) | ((with_reducible apply XBr.dec) <;> (intro h; first | (exfalso; omega) | ((try simp only [List.length_map] at h); first | (exfalso; omega) | (conv => whnf)))) | ((with_reducible first | apply XBr.beq | apply XBr.bne) <;> (intro h; first | (exfalso; omega) | (conv => whnf))) | ((with_reducible refine XInt.i64 (by omega) (by omega) ?_); conv => whnf) | ((with_reducible refine XHold.mk ?_ ?_); (first | omega | rfl | decide | exact ⟨rfl, by decide, rfl⟩ | exact wideI _ | exact widePr _ | exact wideSk _ | (unfold Room; constructor <;> ((try simp) <;> omega)) | exact ⟨rfl, by simp only [List.length_map], by unfold Room; constructor <;> ((try simp) <;> omega)⟩ | exact ⟨by omega, by omega, by unfold Room; constructor <;> ((try simp) <;> omega)⟩); conv => whnf) | ((first | ((with_reducible refine XIx.nat ?_ ?_ ?_); omega; (intro _; rfl)) | ((with_reducible refine XIx.map ?_ ?_ ?_ ?_); omega; omega; (intro _; rfl))); conv => whnf) | (with_reducible apply XAnd.mk) | (exact XSame.mk rfl rfl) | (exact XSame.mk (by first | rfl | (simp only [List.map_append, List.length_append, List.length_map]; done) | (simp only [List.map_append, List.length_append, List.length_map]; rfl)) (by first | rfl | (simp only [List.map_append]; done) | (simp only [List.map_append]; rfl))) | (with_reducible exact trivial) | ((first | (with_reducible refine xdrop_app (by rw [List.length_map]; omega) ?_) | (with_reducible refine XDrop.desk (by assumption) ?_) | (with_reducible first | refine XArr.ints (by omega) (by omega) (by omega) ?_ | refine XArr.intsA (by omega) (by omega) (by omega) ?_) | ((with_reducible first | refine XArr.nats ?_ ?_ ?_ | refine XArr.natsA ?_ ?_ ?_ | refine XArr.ptr ?_ ?_ ?_); omega; omega)); conv => whnf) | (apply Walk.drawN (id := 5) tab_ok mixed_ok [] [] (hsU _) [_, _, _, _, _, _, _, _, _, _] (by kernel_rfl) rfl) | (apply Walk.drawN (id := 14) tab_ok mixed_ok [] [28, 30] (hsC [_, _, _]) [_, _, _, _, _, _, _, _, _, _, _, _, _, _, _, _, _, _, _, _, _, _, _, _, _, _, _, _, _, _, _] (by kernel_rfl) rfl) | (apply Walk.drawN (id := 28) tab_ok mixed_ok [] [] (hsU _) [_, _, _, _, _, _, _, _, _, _, _, _] (by kernel_rfl) rfl) | (apply Walk.drawN (id := 29) tab_ok mixed_ok [] [] (hsU _) [_, _, _, _, _, _, _, _, _, _, _, _, _] (by kernel_rfl) rfl) | ((first | (with_reducible apply XNext.mk) | (refine XCall.ret (bBest_c (moB b m)) ?_) | (refine XCall.ret hgx ?_) | (refine xdrop_vec c (by omega) (by omega) ?_)); conv => whnf) | ((with_reducible apply XBr.mk') <;> (intro h; conv => whnf))
                    all_goals refine XAgain.go (c + 1) ⟨by omega, by omega⟩ (by omega) rfl ⟨rfl, rfl, rfl, rfl, rfl, rfl, rfl, rfl, rfl, rfl, rfl, rfl, rfl, congrArg (fun z => some (AV.int .i64 z)) ?_, rfl, trivial⟩
                    all_goals (rw [hmn]; first | rw [if_pos (by omega)] | rw [if_neg (by omega)])
                  · obtain hcc : c = (gbR b m n - rkR b l m n + 1).toNat := by omega
                    repeat' first | ((with_reducible first | apply XBr.tt | apply XBr.ff | apply Chk.go | apply ChkA.go | apply ChkF.go | apply ChkB.go | apply XArr.pim0 | apply XArr.pim1); conv => whnf) | (with_reducible apply XBr.not) | ((with_reducible apply XBr.dec) <;> (intro h; first | (exfalso; omega) | ((try simp only [List.length_map] at h); first | (exfalso; omega) | (conv => whnf)))) | ((with_reducible first | apply XBr.beq | apply XBr.bne) <;> (intro h; first | (exfalso; omega) | (conv => whnf))) | ((with_reducible refine XInt.i64 (by omega) (by omega) ?_); conv => whnf) | ((with_reducible refine XHold.mk ?_ ?_); (first | omega | rfl | decide | exact ⟨rfl, by decide, rfl⟩ | exact wideI _ | exact widePr _ | exact wideSk _ | (unfold Room; constructor <;> ((try simp) <;> omega)) | exact ⟨rfl, by simp only [List.length_map], by unfold Room; constructor <;> ((try simp) <;> omega)⟩ | exact ⟨by omega, by omega, by unfold Room; constructor <;> ((try simp) <;> omega)⟩); conv => whnf) | ((first | ((with_reducible refine XIx.nat ?_ ?_ ?_); omega; (intro _; rfl)) | ((with_reducible refine XIx.map ?_ ?_ ?_ ?_); omega; omega; (intro _; rfl))); conv => whnf) | (with_reducible apply XAnd.mk) | (exact XSame.mk rfl rfl) | (exact XSame.mk (by first | rfl | (simp only [List.map_append, List.length_append, List.length_map]; done) | (simp only [List.map_append, List.length_append, List.length_map]; rfl)) (by first | rfl | (simp only [List.map_append]; done) | (simp only [List.map_append]; rfl))) | (with_reducible exact trivial) | ((first | (with_reducible refine xdrop_app (by rw [List.length_map]; omega) ?_) | (with_reducible refine XDrop.desk (by assumption) ?_) | (with_reducible first | refine XArr.ints (by omega) (by omega) (by omega) ?_ | refine XArr.intsA (by omega) (by omega) (by omega) ?_) | ((with_reducible first | refine XArr.nats ?_ ?_ ?_ | refine XArr.natsA ?_ ?_ ?_ | refine XArr.ptr ?_ ?_ ?_); omega; omega)); conv => whnf) | (apply Walk.drawN (id := 5) tab_ok mixed_ok [] [] (hsU _) [_, _, _, _, _, _, _, _, _, _] (by kernel_rfl) rfl) | (apply Walk.drawN (id := 14) tab_ok mixed_ok [] [28, 30] (hsC [_, _, _]) [_, _, _, _, _, _, _, _, _, _, _, _, _, _, _, _, _, _, _, _, _, _, _, _, _, _, _, _, _, _, _] (by kernel_rfl) rfl) | (apply Walk.drawN (id := 28) tab_ok mixed_ok [] [] (hsU _) [_, _, _, _, _, _, _, _, _, _, _, _] (by kernel_rfl) rfl) | (apply Walk.drawN (id := 29) tab_ok mixed_ok [] [] (hsU _) [_, _, _, _, _, _, _, _, _, _, _, _, _] (by kernel_rfl) rfl) | ((first | (with_reducible apply XNext.mk) | (refine XCall.ret (bBest_c (moB b m)) ?_) | (refine XCall.ret hgx ?_) | (refine xspl_vec _ n (by omega) (by omega) ?_)); conv => whnf) | ((with_reducible apply XBr.mk') <;> (intro h; conv => whnf))
                    rw [← hcc, hz] at hskn
                    refine XAgain.go (n + 1) ⟨by omega, by omega⟩ (by omega) ?_ ⟨rfl, rfl, rfl, rfl, rfl, rfl, rfl, rfl, rfl, rfl, rfl, rfl, trivial⟩
                    rw [show (vecF 121 fun q => if q < n + 1 then smF b l (k + 1) q else 0) = vecF 121 (updV (fun q => if q < n then smF b l (k + 1) q else 0) n (rkR b l m n + z)) from vecF_congr fun q _ => by
                      unfold updV
                      by_cases hq : q = n
                      · rw [if_pos hq, hq, if_pos (by omega), hskn]
                      · rw [if_neg hq]
                        dsimp only
                        by_cases hq2 : q < n
                        · rw [if_pos hq2, if_pos (by omega)]
                        · rw [if_neg hq2, if_neg (by omega)]]
                · obtain rfl : n = b.room.toNat + 1 := by omega
                  repeat' first | ((with_reducible first | apply XBr.tt | apply XBr.ff | apply Chk.go | apply ChkA.go | apply ChkF.go | apply ChkB.go | apply XArr.pim0 | apply XArr.pim1); conv => whnf) | (with_reducible apply XBr.not) | ((with_reducible apply XBr.dec) <;> (intro h; first | (exfalso; omega) | ((try simp only [List.length_map] at h); first | (exfalso; omega) | (conv => whnf)))) | ((with_reducible first | apply XBr.beq | apply XBr.bne) <;> (intro h; first | (exfalso; omega) | (conv => whnf))) | ((with_reducible refine XInt.i64 (by omega) (by omega) ?_); conv => whnf) | ((with_reducible refine XHold.mk ?_ ?_); (first | omega | rfl | decide | exact ⟨rfl, by decide, rfl⟩ | exact wideI _ | exact widePr _ | exact wideSk _ | (unfold Room; constructor <;> ((try simp) <;> omega)) | exact ⟨rfl, by simp only [List.length_map], by unfold Room; constructor <;> ((try simp) <;> omega)⟩ | exact ⟨by omega, by omega, by unfold Room; constructor <;> ((try simp) <;> omega)⟩); conv => whnf) | ((first | ((with_reducible refine XIx.nat ?_ ?_ ?_); omega; (intro _; rfl)) | ((with_reducible refine XIx.map ?_ ?_ ?_ ?_); omega; omega; (intro _; rfl))); conv => whnf) | (with_reducible apply XAnd.mk) | (exact XSame.mk rfl rfl) | (exact XSame.mk (by first | rfl | (simp only [List.map_append, List.length_append, List.length_map]; done) | (simp only [List.map_append, List.length_append, List.length_map]; rfl)) (by first | rfl | (simp only [List.map_append]; done) | (simp only [List.map_append]; rfl))) | (with_reducible exact trivial) | ((first | (with_reducible refine xdrop_app (by rw [List.length_map]; omega) ?_) | (with_reducible refine XDrop.desk (by assumption) ?_) | (with_reducible first | refine XArr.ints (by omega) (by omega) (by omega) ?_ | refine XArr.intsA (by omega) (by omega) (by omega) ?_) | ((with_reducible first | refine XArr.nats ?_ ?_ ?_ | refine XArr.natsA ?_ ?_ ?_ | refine XArr.ptr ?_ ?_ ?_); omega; omega)); conv => whnf) | (apply Walk.drawN (id := 5) tab_ok mixed_ok [] [] (hsU _) [_, _, _, _, _, _, _, _, _, _] (by kernel_rfl) rfl) | (apply Walk.drawN (id := 14) tab_ok mixed_ok [] [28, 30] (hsC [_, _, _]) [_, _, _, _, _, _, _, _, _, _, _, _, _, _, _, _, _, _, _, _, _, _, _, _, _, _, _, _, _, _, _] (by kernel_rfl) rfl) | (apply Walk.drawN (id := 28) tab_ok mixed_ok [] [] (hsU _) [_, _, _, _, _, _, _, _, _, _, _, _] (by kernel_rfl) rfl) | (apply Walk.drawN (id := 29) tab_ok mixed_ok [] [] (hsU _) [_, _, _, _, _, _, _, _, _, _, _, _, _] (by kernel_rfl) rfl) | ((first | (with_reducible apply XNext.mk) | (refine xtk_vec rfl ?_) | (refine xn_vec rfl ?_) | (refine xspl_vecA ?_)); conv => whnf) | ((with_reducible apply XBr.mk') <;> (intro h; conv => whnf))
                  refine XAgainG.go (k + 1) [.cells ((vecF 121 fun q => if q < b.room.toNat + 1 then smF b l (k + 1) q else 0).map (.int .i64)), .cells (moC (moB b m))] (by omega) (by omega) ?_ ⟨rfl, rfl, rfl, rfl, rfl, rfl, rfl, rfl, ?_, trivial⟩
                  · rw [show vecF 121 (smF b l (k + 1)) = vecF 121 fun q => if q < b.room.toNat + 1 then smF b l (k + 1) q else 0 from vecF_congr fun q _ => by
                      by_cases hq : q < b.room.toNat + 1
                      · rw [if_pos hq]
                      · rw [if_neg hq, hsk, if_neg (by omega)]]
                    rfl
                  · exact congrArg (fun z => some (AV.int .i64 z)) (by omega)
              · obtain rfl : k = b.months.length := by omega
                have hln : (((leastR b).toNat : Nat) : Int) = leastR b := by omega
                rw [← hln] at hle
                repeat' first | ((with_reducible first | apply XBr.tt | apply XBr.ff | apply Chk.go | apply ChkA.go | apply ChkF.go | apply ChkB.go | apply XArr.pim0 | apply XArr.pim1); conv => whnf) | (with_reducible apply XBr.not) | ((with_reducible apply XBr.dec) <;> (intro h; first | (exfalso; omega) | ((try simp only [List.length_map] at h); first | (exfalso; omega) | (conv => whnf)))) | ((with_reducible first | apply XBr.beq | apply XBr.bne) <;> (intro h; first | (exfalso; omega) | (conv => whnf))) | ((with_reducible refine XInt.i64 (by omega) (by omega) ?_); conv => whnf) | ((with_reducible refine XHold.mk ?_ ?_); (first | omega | rfl | decide | exact ⟨rfl, by decide, rfl⟩ | exact wideI _ | exact widePr _ | exact wideSk _ | (unfold Room; constructor <;> ((try simp) <;> omega)) | exact ⟨rfl, by simp only [List.length_map], by unfold Room; constructor <;> ((try simp) <;> omega)⟩ | exact ⟨by omega, by omega, by unfold Room; constructor <;> ((try simp) <;> omega)⟩); conv => whnf) | ((first | ((with_reducible refine XIx.nat ?_ ?_ ?_); omega; (intro _; rfl)) | ((with_reducible refine XIx.map ?_ ?_ ?_ ?_); omega; omega; (intro _; rfl))); conv => whnf) | (with_reducible apply XAnd.mk) | (exact XSame.mk rfl rfl) | (exact XSame.mk (by first | rfl | (simp only [List.map_append, List.length_append, List.length_map]; done) | (simp only [List.map_append, List.length_append, List.length_map]; rfl)) (by first | rfl | (simp only [List.map_append]; done) | (simp only [List.map_append]; rfl))) | (with_reducible exact trivial) | ((first | (with_reducible refine xdrop_app (by rw [List.length_map]; omega) ?_) | (with_reducible refine XDrop.desk (by assumption) ?_) | (with_reducible first | refine XArr.ints (by omega) (by omega) (by omega) ?_ | refine XArr.intsA (by omega) (by omega) (by omega) ?_) | ((with_reducible first | refine XArr.nats ?_ ?_ ?_ | refine XArr.natsA ?_ ?_ ?_ | refine XArr.ptr ?_ ?_ ?_); omega; omega)); conv => whnf) | (apply Walk.drawN (id := 5) tab_ok mixed_ok [] [] (hsU _) [_, _, _, _, _, _, _, _, _, _] (by kernel_rfl) rfl) | (apply Walk.drawN (id := 14) tab_ok mixed_ok [] [28, 30] (hsC [_, _, _]) [_, _, _, _, _, _, _, _, _, _, _, _, _, _, _, _, _, _, _, _, _, _, _, _, _, _, _, _, _, _, _] (by kernel_rfl) rfl) | (apply Walk.drawN (id := 28) tab_ok mixed_ok [] [] (hsU _) [_, _, _, _, _, _, _, _, _, _, _, _] (by kernel_rfl) rfl) | (apply Walk.drawN (id := 29) tab_ok mixed_ok [] [] (hsU _) [_, _, _, _, _, _, _, _, _, _, _, _, _] (by kernel_rfl) rfl) | ((first | (with_reducible apply XNext.mk) | (refine XCall.ret hle ?_)); conv => whnf) | ((with_reducible apply XBr.mk') <;> (intro h; conv => whnf))
                have hln2 : (ruleN b : Int) = min b.room (b.first + b.unsure) + 1 := by unfold ruleN; omega
                have hln3 : (leastR b).toNat < ruleN b := by
                  have : leastR b = max 0 (b.first - b.unsure) := rfl
                  omega
                have hml := fun (c : Nat) (hc : (leastR b).toNat ≤ c) => mnP_b (F := smF b l b.months.length) (B := 120 * (b.months.length : Int)) (by omega) (lo := (leastR b).toNat) c hc fun q _ _ => by have := hsm b.months.length (Nat.le_refl _) q; omega
                refine Walk.loopK tab_ok [] [(2, _), (4, _), (5, _), (6, _), (10, _), (13, _)] ⟨rfl, rfl, rfl, rfl, rfl, rfl, trivial⟩ (fun c : Nat => (leastR b).toNat ≤ c ∧ c ≤ ruleN b) (fun c => [(21, .int .i64 (mnP (smF b l b.months.length) (leastR b).toNat c)), (22, natA c)]) (fun _ => [.grow 27 false (ruleAs b l), .cells ((vecF 121 (smF b l b.months.length)).map (.int .i64))]) (fun c => ruleN b - c) (leastR b).toNat ⟨Nat.le_refl _, by omega⟩ rfl ⟨congrArg (fun z => some (AV.int .i64 z)) (mnP_nil _ _).symm, rfl, trivial⟩ ?_
                rintro c ⟨hc1, hc2⟩
                have hmc := hml c hc1
                have hsc := hsm b.months.length (Nat.le_refl _) c
                have hmn := mnP_succ (F := smF b l b.months.length) hc1
                unfold mnS at hmn
                generalize hz : mnP (smF b l b.months.length) (leastR b).toNat c = z at hmc hmn
                conv => whnf
                by_cases hcl : c < ruleN b
                · skip
                  repeat' first | ((with_reducible first | apply XBr.tt | apply XBr.ff | apply Chk.go | apply ChkA.go | apply ChkF.go | apply ChkB.go | apply XArr.pim0 | apply XArr.pim1); conv => whnf) | (with_reducible apply XBr.not) | ((with_reducible apply XBr.dec) <;> (intro h; first | (exfalso; omega) | ((try simp only [List.length_map] at h); first | (exfalso; omega) | (conv => whnf)))) | ((with_reducible first | apply XBr.beq | apply XBr.bne) <;> (intro h; first | (exfalso; omega) | (conv => whnf))) | ((with_reducible refine XInt.i64 (by omega) (by omega) ?_); conv => whnf) | ((with_reducible refine XHold.mk ?_ ?_); (first | omega | rfl | decide | exact ⟨rfl, by decide, rfl⟩ | exact wideI _ | exact widePr _ | exact wideSk _ | (unfold Room; constructor <;> ((try simp) <;> omega)) | exact ⟨rfl, by simp only [List.length_map], by unfold Room; constructor <;> ((try simp) <;> omega)⟩ | exact ⟨by omega, by omega, by unfold Room; constructor <;> ((try simp) <;> omega)⟩); conv => whnf) | ((first | ((with_reducible refine XIx.nat ?_ ?_ ?_); omega; (intro _; rfl)) | ((with_reducible refine XIx.map ?_ ?_ ?_ ?_); omega; omega; (intro _; rfl))); conv => whnf) | (with_reducible apply XAnd.mk) | (exact XSame.mk rfl rfl) | (exact XSame.mk (by first | rfl | (simp only [List.map_append, List.length_append, List.length_map]; done) | (simp only [List.map_append, List.length_append, List.length_map]; rfl)) (by first | rfl | (simp only [List.map_append]; done) | (simp only [List.map_append]; rfl))) | (with_reducible exact trivial) | ((first | (with_reducible refine xdrop_app (by rw [List.length_map]; omega) ?_) | (with_reducible refine XDrop.desk (by assumption) ?_) | (with_reducible first | refine XArr.ints (by omega) (by omega) (by omega) ?_ | refine XArr.intsA (by omega) (by omega) (by omega) ?_) | ((with_reducible first | refine XArr.nats ?_ ?_ ?_ | refine XArr.natsA ?_ ?_ ?_ | refine XArr.ptr ?_ ?_ ?_); omega; omega)); conv => whnf) | (apply Walk.drawN (id := 5) tab_ok mixed_ok [] [] (hsU _) [_, _, _, _, _, _, _, _, _, _] (by kernel_rfl) rfl) | (apply Walk.drawN (id := 14) tab_ok mixed_ok [] [28, 30] (hsC [_, _, _]) [_, _, _, _, _, _, _, _, _, _, _, _, _, _, _, _, _, _, _, _, _, _, _, _, _, _, _, _, _, _, _] (by kernel_rfl) rfl) | (apply Walk.drawN (id := 28) tab_ok mixed_ok [] [] (hsU _) [_, _, _, _, _, _, _, _, _, _, _, _] (by kernel_rfl) rfl) | (apply Walk.drawN (id := 29) tab_ok mixed_ok [] [] (hsU _) [_, _, _, _, _, _, _, _, _, _, _, _, _] (by kernel_rfl) rfl) | ((first | (with_reducible apply XNext.mk) | (refine xdrop_vec c (by omega) (by omega) ?_)); conv => whnf) | ((with_reducible apply XBr.mk') <;> (intro h; conv => whnf))
                  all_goals refine XAgain.go (c + 1) ⟨by omega, by omega⟩ (by omega) rfl ⟨rfl, rfl, rfl, rfl, rfl, rfl, congrArg (fun z => some (AV.int .i64 z)) ?_, rfl, trivial⟩
                  all_goals (rw [hmn]; first | rw [if_pos (by omega)] | rw [if_neg (by omega)])
                · obtain rfl : c = ruleN b := by omega
                  repeat' first | ((with_reducible first | apply XBr.tt | apply XBr.ff | apply Chk.go | apply ChkA.go | apply ChkF.go | apply ChkB.go | apply XArr.pim0 | apply XArr.pim1); conv => whnf) | (with_reducible apply XBr.not) | ((with_reducible apply XBr.dec) <;> (intro h; first | (exfalso; omega) | ((try simp only [List.length_map] at h); first | (exfalso; omega) | (conv => whnf)))) | ((with_reducible first | apply XBr.beq | apply XBr.bne) <;> (intro h; first | (exfalso; omega) | (conv => whnf))) | ((with_reducible refine XInt.i64 (by omega) (by omega) ?_); conv => whnf) | ((with_reducible refine XHold.mk ?_ ?_); (first | omega | rfl | decide | exact ⟨rfl, by decide, rfl⟩ | exact wideI _ | exact widePr _ | exact wideSk _ | (unfold Room; constructor <;> ((try simp) <;> omega)) | exact ⟨rfl, by simp only [List.length_map], by unfold Room; constructor <;> ((try simp) <;> omega)⟩ | exact ⟨by omega, by omega, by unfold Room; constructor <;> ((try simp) <;> omega)⟩); conv => whnf) | ((first | ((with_reducible refine XIx.nat ?_ ?_ ?_); omega; (intro _; rfl)) | ((with_reducible refine XIx.map ?_ ?_ ?_ ?_); omega; omega; (intro _; rfl))); conv => whnf) | (with_reducible apply XAnd.mk) | (exact XSame.mk rfl rfl) | (exact XSame.mk (by first | rfl | (simp only [List.map_append, List.length_append, List.length_map]; done) | (simp only [List.map_append, List.length_append, List.length_map]; rfl)) (by first | rfl | (simp only [List.map_append]; done) | (simp only [List.map_append]; rfl))) | (with_reducible exact trivial) | ((first | (with_reducible refine xdrop_app (by rw [List.length_map]; omega) ?_) | (with_reducible refine XDrop.desk (by assumption) ?_) | (with_reducible first | refine XArr.ints (by omega) (by omega) (by omega) ?_ | refine XArr.intsA (by omega) (by omega) (by omega) ?_) | ((with_reducible first | refine XArr.nats ?_ ?_ ?_ | refine XArr.natsA ?_ ?_ ?_ | refine XArr.ptr ?_ ?_ ?_); omega; omega)); conv => whnf) | (apply Walk.drawN (id := 5) tab_ok mixed_ok [] [] (hsU _) [_, _, _, _, _, _, _, _, _, _] (by kernel_rfl) rfl) | (apply Walk.drawN (id := 14) tab_ok mixed_ok [] [28, 30] (hsC [_, _, _]) [_, _, _, _, _, _, _, _, _, _, _, _, _, _, _, _, _, _, _, _, _, _, _, _, _, _, _, _, _, _, _] (by kernel_rfl) rfl) | (apply Walk.drawN (id := 28) tab_ok mixed_ok [] [] (hsU _) [_, _, _, _, _, _, _, _, _, _, _, _] (by kernel_rfl) rfl) | (apply Walk.drawN (id := 29) tab_ok mixed_ok [] [] (hsU _) [_, _, _, _, _, _, _, _, _, _, _, _, _] (by kernel_rfl) rfl) | ((with_reducible apply XNext.mk); conv => whnf) | ((with_reducible apply XBr.mk') <;> (intro h; conv => whnf))
                  rw [hz]
                  exact ⟨Froz.tup (.cons (Froz.grow rfl hrl (by rw [← hrA]; exact rowsV_low b l _ _)) (.cons (.low rfl) (.cons (.low rfl) .nil)))⟩
  · rw [if_pos hE]
    obtain ⟨d, hd, hd2⟩ := bSharedA_eq b share
    rw [hd] at hsh
    generalize bShareE b share = e at hsh hE
    refine Comp.body (T := tab) (res := [.tmp 4, .tmp 5, .tmp 6]) tab_ok [] Try.func51 rfl (by kernel_rfl) Try.ntmps51 rfl (by simp only [List.length_cons, List.length_nil]; decide) (by simp only [lowL, bedL, AV.low]; rfl) ?_; conv => whnf
    repeat' first | ((with_reducible first | apply XBr.tt | apply XBr.ff | apply Chk.go | apply ChkA.go | apply ChkF.go | apply ChkB.go | apply XArr.pim0 | apply XArr.pim1); conv => whnf) | (with_reducible apply XBr.not) | ((with_reducible apply XBr.dec) <;> (intro h; first | (exfalso; omega) | ((try simp only [List.length_map] at h); first | (exfalso; omega) | (conv => whnf)))) | ((with_reducible first | apply XBr.beq | apply XBr.bne) <;> (intro h; first | (exfalso; omega) | (conv => whnf))) | ((with_reducible refine XInt.i64 (by omega) (by omega) ?_); conv => whnf) | ((with_reducible refine XHold.mk ?_ ?_); (first | omega | rfl | decide | exact ⟨rfl, by decide, rfl⟩ | exact wideI _ | exact widePr _ | exact wideSk _ | (unfold Room; constructor <;> ((try simp) <;> omega)) | exact ⟨rfl, by simp only [List.length_map], by unfold Room; constructor <;> ((try simp) <;> omega)⟩ | exact ⟨by omega, by omega, by unfold Room; constructor <;> ((try simp) <;> omega)⟩); conv => whnf) | ((first | ((with_reducible refine XIx.nat ?_ ?_ ?_); omega; (intro _; rfl)) | ((with_reducible refine XIx.map ?_ ?_ ?_ ?_); omega; omega; (intro _; rfl))); conv => whnf) | (with_reducible apply XAnd.mk) | (exact XSame.mk rfl rfl) | (exact XSame.mk (by first | rfl | (simp only [List.map_append, List.length_append, List.length_map]; done) | (simp only [List.map_append, List.length_append, List.length_map]; rfl)) (by first | rfl | (simp only [List.map_append]; done) | (simp only [List.map_append]; rfl))) | (with_reducible exact trivial) | ((first | (with_reducible refine xdrop_app (by rw [List.length_map]; omega) ?_) | (with_reducible refine XDrop.desk (by assumption) ?_) | (with_reducible first | refine XArr.ints (by omega) (by omega) (by omega) ?_ | refine XArr.intsA (by omega) (by omega) (by omega) ?_) | ((with_reducible first | refine XArr.nats ?_ ?_ ?_ | refine XArr.natsA ?_ ?_ ?_ | refine XArr.ptr ?_ ?_ ?_); omega; omega)); conv => whnf) | (apply Walk.drawN (id := 5) tab_ok mixed_ok [] [] (hsU _) [_, _, _, _, _, _, _, _, _, _] (by kernel_rfl) rfl) | (apply Walk.drawN (id := 14) tab_ok mixed_ok [] [28, 30] (hsC [_, _, _]) [_, _, _, _, _, _, _, _, _, _, _, _, _, _, _, _, _, _, _, _, _, _, _, _, _, _, _, _, _, _, _] (by kernel_rfl) rfl) | (apply Walk.drawN (id := 28) tab_ok mixed_ok [] [] (hsU _) [_, _, _, _, _, _, _, _, _, _, _, _] (by kernel_rfl) rfl) | (apply Walk.drawN (id := 29) tab_ok mixed_ok [] [] (hsU _) [_, _, _, _, _, _, _, _, _, _, _, _, _] (by kernel_rfl) rfl) | ((first | (with_reducible apply XNext.mk) | (refine XCall.ret hsh ?_)); conv => whnf) | ((with_reducible apply XBr.mk') <;> (intro h; conv => whnf))
    exact ⟨.low rfl⟩
end GA
end

section
namespace GA
open Go Go.RowKit Go.Proofs
set_option pp.deepTerms true
set_option maxRecDepth 8000
set_option linter.unusedVariables false
set_option linter.unusedSimpArgs false

theorem rakes_c (nl : Bool) (row : List Int) (n : Nat) (hn : n < row.length) (h0 : 0 ≤ row.getD n default) : Comp Try.prog 53 [.sl nl (ints row), natA n] (.int .i64 (row.getD n default)) := by
  have e1 : ((ints row).length : Int) = row.length := by rw [ints_len]
  refine Comp.body (T := tab) (res := [.tmp 4]) tab_ok [] Try.func53 rfl (by kernel_rfl) Try.ntmps53 rfl (by simp only [List.length_cons, List.length_nil]; decide) (by simp only [lowL, AV.low, lowI]; rfl) ?_; conv => whnf
  repeat' first | ((with_reducible first | apply XBr.tt | apply XBr.ff | apply Chk.go | apply ChkA.go | apply ChkF.go | apply ChkB.go | apply XArr.pim0 | apply XArr.pim1); conv => whnf) | (with_reducible apply XBr.not) | ((with_reducible apply XBr.dec) <;> (intro h; first | (exfalso; omega) | ((try simp only [List.length_map] at h); first | (exfalso; omega) | (conv => whnf)))) | ((with_reducible first | apply XBr.beq | apply XBr.bne) <;> (intro h; first | (exfalso; omega) | (conv => whnf))) | ((with_reducible refine XInt.i64 (by omega) (by omega) ?_); conv => whnf) | ((with_reducible refine XHold.mk ?_ ?_); (first | omega | rfl | decide | exact ⟨rfl, by decide, rfl⟩ | exact wideI _ | exact widePr _ | exact wideSk _ | (unfold Room; constructor <;> ((try simp) <;> omega)) | exact ⟨rfl, by simp only [List.length_map], by unfold Room; constructor <;> ((try simp) <;> omega)⟩ | exact ⟨by omega, by omega, by unfold Room; constructor <;> ((try simp) <;> omega)⟩); conv => whnf) | ((first | ((with_reducible refine XIx.nat ?_ ?_ ?_); omega; (intro _; rfl)) | ((with_reducible refine XIx.map ?_ ?_ ?_ ?_); omega; omega; (intro _; rfl))); conv => whnf) | (with_reducible apply XAnd.mk) | (exact XSame.mk rfl rfl) | (exact XSame.mk (by first | rfl | (simp only [List.map_append, List.length_append, List.length_map]; done) | (simp only [List.map_append, List.length_append, List.length_map]; rfl)) (by first | rfl | (simp only [List.map_append]; done) | (simp only [List.map_append]; rfl))) | (with_reducible exact trivial) | ((first | (with_reducible refine xdrop_app (by rw [List.length_map]; omega) ?_) | (with_reducible refine XDrop.desk (by assumption) ?_) | (with_reducible first | refine XArr.ints (by omega) (by omega) (by omega) ?_ | refine XArr.intsA (by omega) (by omega) (by omega) ?_) | ((with_reducible first | refine XArr.nats ?_ ?_ ?_ | refine XArr.natsA ?_ ?_ ?_ | refine XArr.ptr ?_ ?_ ?_); omega; omega) | (with_reducible apply XNext.mk)); conv => whnf) | ((with_reducible apply XBr.mk') <;> (intro h; conv => whnf))
  exact ⟨.low rfl⟩
def bgC (m : Mo) (u : Hp) : Int × Int := if modV (hpS (hpS u)) (3 - 1) == 0 then (m.pl, m.th) else (m.pl + modV u (m.ph - m.pl), m.tl + modV (hpS u) (m.th - m.tl))
def bgK (b : Bd) (u : Hp) : Nat → List (Int × Int) × Hp
  | 0 => ([], u)
  | k + 1 => ((bgK b u k).1 ++ [bgC (moB b k) (bgK b u k).2], hpS (hpS (hpS (bgK b u k).2)))
theorem bgK_ok {b : Bd} {u : Hp} (o : u.Ok) : ∀ k, (bgK b u k).2.Ok ∧ (bgK b u k).1.length = k
  | 0 => ⟨o, rfl⟩
  | k + 1 => by
    obtain ⟨h1, h2⟩ := bgK_ok (b := b) o k
    exact ⟨hpS_ok (hpS_ok (hpS_ok h1)), by show ((bgK b u k).1 ++ [_]).length = _; rw [List.length_append, h2]; rfl⟩
theorem bgC_b {m : Mo} (u : Hp) (h1 : m.pl ≤ m.ph) (h2 : m.tl ≤ m.th) : m.pl ≤ (bgC m u).1 ∧ (bgC m u).1 ≤ m.ph ∧ m.tl ≤ (bgC m u).2 ∧ (bgC m u).2 ≤ m.th := by
  have h3 := modV_bound u (m.ph - m.pl)
  have h4 := modV_bound (hpS u) (m.th - m.tl)
  unfold bgC
  split <;> dsimp only <;> omega
theorem bgK_get {b : Bd} {u : Hp} (o : u.Ok) : ∀ (k i : Nat), i < k → (bgK b u k).1.getD i default = bgC (moB b i) (bgK b u i).2
  | k + 1, i, h => by
    have h2 := (bgK_ok (b := b) o k).2
    show ((bgK b u k).1 ++ [_]).getD i default = _
    rw [List.getD_eq_getElem?_getD]
    by_cases hi : i < k
    · rw [List.getElem?_append_left (by omega), ← List.getD_eq_getElem?_getD]; exact bgK_get o k i hi
    · obtain rfl : i = k := by omega
      rw [List.getElem?_append_right (by omega), h2, Nat.sub_self]; rfl
def bgN (b : Bd) (u : Hp) : Int := min b.room (max 0 (b.first + ((0 - b.unsure) + modV (bgK b u b.months.length).2 (b.unsure - (0 - b.unsure)))))
theorem begun_c (b : Bd) (ok : BedOk b) (u : Hp) (o : u.Ok) : HpOk 52 [bedA b] u (.tup [.int .i64 (bgN b u), .sl (bgK b u b.months.length).1.isEmpty (chsA (bgK b u b.months.length).1)]) (hpS (bgK b u b.months.length).2) := by
  have m1 := ok.m1
  have m2 := ok.m2
  have r1 := ok.r1
  have r2 := ok.r2
  have f1 := ok.f1
  have f2 := ok.f2
  have u1 := ok.u1
  have u2 := ok.u2
  have e1 : ((b.months.map moA).length : Int) = b.months.length := by rw [List.length_map]
  refine ⟨by simp only [lowL, bedL]; rfl, ?_⟩
  refine ACall.bodyN (T := tab) (res := [.tmp 4, .tmp 5]) tab_ok [] Try.func52 rfl (by kernel_rfl) Try.ntmps52 rfl (by simp only [List.length_cons, List.length_nil]; decide) ⟨rfl, rfl⟩ ?_; conv => whnf
  repeat' first | ((with_reducible first | apply XBr.tt | apply XBr.ff | apply Chk.go | apply ChkA.go | apply ChkF.go | apply ChkB.go | apply XArr.pim0 | apply XArr.pim1); conv => whnf) | (with_reducible apply XBr.not) | ((with_reducible apply XBr.dec) <;> (intro h; first | (exfalso; omega) | ((try simp only [List.length_map] at h); first | (exfalso; omega) | (conv => whnf)))) | ((with_reducible first | apply XBr.beq | apply XBr.bne) <;> (intro h; first | (exfalso; omega) | (conv => whnf))) | ((with_reducible refine XInt.i64 (by omega) (by omega) ?_); conv => whnf) | ((with_reducible refine XHold.mk ?_ ?_); (first | omega | rfl | decide | exact ⟨rfl, by decide, rfl⟩ | exact wideI _ | exact widePr _ | exact wideSk _ | (unfold Room; constructor <;> ((try simp) <;> omega)) | exact ⟨rfl, by simp only [List.length_map], by unfold Room; constructor <;> ((try simp) <;> omega)⟩ | exact ⟨by omega, by omega, by unfold Room; constructor <;> ((try simp) <;> omega)⟩); conv => whnf) | ((first | ((with_reducible refine XIx.nat ?_ ?_ ?_); omega; (intro _; rfl)) | ((with_reducible refine XIx.map ?_ ?_ ?_ ?_); omega; omega; (intro _; rfl))); conv => whnf) | (with_reducible apply XAnd.mk) | (exact XSame.mk rfl rfl) | (exact XSame.mk (by first | rfl | (simp only [List.map_append, List.length_append, List.length_map]; done) | (simp only [List.map_append, List.length_append, List.length_map]; rfl)) (by first | rfl | (simp only [List.map_append]; done) | (simp only [List.map_append]; rfl))) | (with_reducible exact trivial) | ((first | (with_reducible refine xdrop_app (by rw [List.length_map]; omega) ?_) | (with_reducible refine XDrop.desk (by assumption) ?_) | (with_reducible first | refine XArr.ints (by omega) (by omega) (by omega) ?_ | refine XArr.intsA (by omega) (by omega) (by omega) ?_) | ((with_reducible first | refine XArr.nats ?_ ?_ ?_ | refine XArr.natsA ?_ ?_ ?_ | refine XArr.ptr ?_ ?_ ?_); omega; omega)); conv => whnf) | (apply Walk.drawN (id := 10) tab_ok mixed_ok [] [10] (hsC [_, _]) [_, _, _, _, _, _, _, _, _, _, _, _, _, _, _, _, _] (by kernel_rfl) rfl) | ((with_reducible apply XNext.mk); conv => whnf) | ((with_reducible apply XBr.mk') <;> (intro h; conv => whnf))
  refine Walk.nilgr 6 56 rfl ?_
  refine Walk.loopGK tab_ok [] [(0, _), (3, _), (4, _), (5, _), (11, _), (12, _)] ⟨rfl, rfl, rfl, rfl, rfl, rfl, trivial⟩ (fun k : Nat => k ≤ b.months.length) (fun k => [(6, .gr 1 (bgK b u k).1.length), (13, natA k)]) (fun k => [hpC (bgK b u k).2, .grow 56 (bgK b u k).1.isEmpty (chsA (bgK b u k).1)]) (fun k => b.months.length - k) 0 (Nat.zero_le _) rfl ⟨rfl, rfl, trivial⟩ ?_ (fun _ _ => (show (2 : Nat) ≤ 2 from Nat.le_refl 2)) ?_
  · intro k _
    refine ⟨fun z hz => ?_, fun z hz => ?_⟩
    · simp only [List.mem_cons, List.not_mem_nil, or_false] at hz
      rcases hz with rfl | rfl <;> first | exact hpC_low _ | exact chs_low _
    · simp only [List.cons_append, List.nil_append, List.mem_cons, List.not_mem_nil, or_false] at hz
      rcases hz with rfl | rfl | rfl | rfl | rfl | rfl | rfl | rfl <;> first | rfl | exact lowBd b | exact lowMo _
  intro k hk
  obtain ⟨vo, vl⟩ := bgK_ok (b := b) o k
  have hnx : bgK b u (k + 1) = ((bgK b u k).1 ++ [bgC (moB b k) (bgK b u k).2], hpS (hpS (hpS (bgK b u k).2))) := rfl
  have hfin : bgN b u = min b.room (max 0 (b.first + ((0 - b.unsure) + modV (bgK b u b.months.length).2 (b.unsure - (0 - b.unsure))))) := rfl
  by_cases hlt : k < b.months.length
  · have hmo := ok.mo' hlt
    clear hfin
    generalize bgK b u k = st at vo vl hnx
    obtain ⟨cs, v⟩ := st
    dsimp only at vo vl hnx
    have v1 := hpS_ok vo
    have v2 := hpS_ok v1
    have c1 := from_c v (moB b k).pl (moB b k).ph vo (by omega) (by omega) (by omega) (by omega)
    have c2 := from_c (hpS v) (moB b k).tl (moB b k).th v1 (by omega) (by omega) (by omega) (by omega)
    have c3 := once_c (hpS (hpS v)) 3 v2 (by omega) (by omega)
    have b1 := modV_bound v ((moB b k).ph - (moB b k).pl)
    have b2 := modV_bound (hpS v) ((moB b k).th - (moB b k).tl)
    have hcl : (chsA cs).length = cs.length := List.length_map _
    unfold bgC at hnx
    dsimp only
    generalize (modV (hpS (hpS v)) (3 - 1) == 0) = q at c3 hnx
    conv => whnf
    repeat' first | ((with_reducible first | apply XBr.tt | apply XBr.ff | apply Chk.go | apply ChkA.go | apply ChkF.go | apply ChkB.go | apply XArr.pim0 | apply XArr.pim1); conv => whnf) | (with_reducible apply XBr.not) | ((with_reducible apply XBr.dec) <;> (intro h; first | (exfalso; omega) | ((try simp only [List.length_map] at h); first | (exfalso; omega) | (conv => whnf)))) | ((with_reducible first | apply XBr.beq | apply XBr.bne) <;> (intro h; first | (exfalso; omega) | (conv => whnf))) | ((with_reducible refine XInt.i64 (by omega) (by omega) ?_); conv => whnf) | ((with_reducible refine XHold.mk ?_ ?_); (first | omega | rfl | decide | exact ⟨rfl, by decide, rfl⟩ | exact wideI _ | exact widePr _ | exact wideSk _ | (unfold Room; constructor <;> ((try simp) <;> omega)) | exact ⟨rfl, by simp only [List.length_map], by unfold Room; constructor <;> ((try simp) <;> omega)⟩ | exact ⟨by omega, by omega, by unfold Room; constructor <;> ((try simp) <;> omega)⟩); conv => whnf) | ((first | ((with_reducible refine XIx.nat ?_ ?_ ?_); omega; (intro _; rfl)) | ((with_reducible refine XIx.map ?_ ?_ ?_ ?_); omega; omega; (intro _; rfl))); conv => whnf) | (with_reducible apply XAnd.mk) | (exact XSame.mk rfl rfl) | (exact XSame.mk (by first | rfl | (simp only [List.map_append, List.length_append, List.length_map]; done) | (simp only [List.map_append, List.length_append, List.length_map]; rfl)) (by first | rfl | (simp only [List.map_append]; done) | (simp only [List.map_append]; rfl))) | (with_reducible exact trivial) | ((first | (with_reducible refine xdrop_app (by rw [List.length_map]; omega) ?_) | (with_reducible refine XDrop.desk (by assumption) ?_) | (with_reducible first | refine XArr.ints (by omega) (by omega) (by omega) ?_ | refine XArr.intsA (by omega) (by omega) (by omega) ?_) | ((with_reducible first | refine XArr.nats ?_ ?_ ?_ | refine XArr.natsA ?_ ?_ ?_ | refine XArr.ptr ?_ ?_ ?_); omega; omega)); conv => whnf) | (apply Walk.drawN (id := 10) tab_ok mixed_ok [] [10] (hsC [_, _]) [_, _, _, _, _, _, _, _, _, _, _, _, _, _, _, _, _] (by kernel_rfl) rfl) | ((with_reducible apply XNext.mk); conv => whnf) | ((with_reducible apply XBr.mk') <;> (intro h; conv => whnf))
    apply Walk.drawX tab_ok mixed_ok [] [7, 15, 17, 18] (fun fl => match fl with
      | [a, b', x, y] => [hpC (bif b' then hpS (hpS v) else bif a then hpS v else v), .grow 56 cs.isEmpty (chsA cs), .cells (moC (moB b k))] ++ (bif x then [.cells (bif y then [.int .i64 ((moB b k).pl + modV v ((moB b k).ph - (moB b k).pl)), .int .i64 ((moB b k).tl + modV (hpS v) ((moB b k).th - (moB b k).tl))] else [.int .i64 0, .int .i64 0])] else [])
      | _ => []) [_, _, _, _, _, _, _, _, _, _, _, _, _, _, _, _, _, _, _] (by kernel_rfl) rfl
    · skip
      repeat' first | ((with_reducible first | apply XBr.tt | apply XBr.ff | apply Chk.go | apply ChkA.go | apply ChkF.go | apply ChkB.go | apply XArr.pim0 | apply XArr.pim1); conv => whnf) | (with_reducible apply XBr.not) | ((with_reducible apply XBr.dec) <;> (intro h; first | (exfalso; omega) | ((try simp only [List.length_map] at h); first | (exfalso; omega) | (conv => whnf)))) | ((with_reducible first | apply XBr.beq | apply XBr.bne) <;> (intro h; first | (exfalso; omega) | (conv => whnf))) | ((with_reducible refine XInt.i64 (by omega) (by omega) ?_); conv => whnf) | ((with_reducible refine XHold.mk ?_ ?_); (first | omega | rfl | decide | exact ⟨rfl, by decide, rfl⟩ | exact wideI _ | exact widePr _ | exact wideSk _ | (unfold Room; constructor <;> ((try simp) <;> omega)) | exact ⟨rfl, by simp only [List.length_map], by unfold Room; constructor <;> ((try simp) <;> omega)⟩ | exact ⟨by omega, by omega, by unfold Room; constructor <;> ((try simp) <;> omega)⟩); conv => whnf) | ((first | ((with_reducible refine XIx.nat ?_ ?_ ?_); omega; (intro _; rfl)) | ((with_reducible refine XIx.map ?_ ?_ ?_ ?_); omega; omega; (intro _; rfl))); conv => whnf) | (with_reducible apply XAnd.mk) | (exact XSame.mk rfl rfl) | (exact XSame.mk (by first | rfl | (simp only [List.map_append, List.length_append, List.length_map]; done) | (simp only [List.map_append, List.length_append, List.length_map]; rfl)) (by first | rfl | (simp only [List.map_append]; done) | (simp only [List.map_append]; rfl))) | (with_reducible exact trivial) | ((first | (with_reducible refine xdrop_app (by rw [List.length_map]; omega) ?_) | (with_reducible refine XDrop.desk (by assumption) ?_) | (with_reducible first | refine XArr.ints (by omega) (by omega) (by omega) ?_ | refine XArr.intsA (by omega) (by omega) (by omega) ?_) | ((with_reducible first | refine XArr.nats ?_ ?_ ?_ | refine XArr.natsA ?_ ?_ ?_ | refine XArr.ptr ?_ ?_ ?_); omega; omega)); conv => whnf) | (apply Walk.drawN (id := 10) tab_ok mixed_ok [] [10] (hsC [_, _]) [_, _, _, _, _, _, _, _, _, _, _, _, _, _, _, _, _] (by kernel_rfl) rfl) | ((first | (with_reducible apply XNext.mk) | (refine XCall.hp (j := 0) c1 rfl rfl ?_) | (refine XCall.hp (j := 0) c2 rfl rfl ?_)); conv => whnf) | ((with_reducible apply XBr.mk') <;> (intro h; conv => whnf))
    · skip
      repeat' first | ((with_reducible first | apply XBr.tt | apply XBr.ff | apply Chk.go | apply ChkA.go | apply ChkF.go | apply ChkB.go | apply XArr.pim0 | apply XArr.pim1); conv => whnf) | (with_reducible apply XBr.not) | ((with_reducible apply XBr.dec) <;> (intro h; first | (exfalso; omega) | ((try simp only [List.length_map] at h); first | (exfalso; omega) | (conv => whnf)))) | ((with_reducible first | apply XBr.beq | apply XBr.bne) <;> (intro h; first | (exfalso; omega) | (conv => whnf))) | ((with_reducible refine XInt.i64 (by omega) (by omega) ?_); conv => whnf) | ((with_reducible refine XHold.mk ?_ ?_); (first | omega | rfl | decide | exact ⟨rfl, by decide, rfl⟩ | exact wideI _ | exact widePr _ | exact wideSk _ | (unfold Room; constructor <;> ((try simp) <;> omega)) | exact ⟨rfl, by simp only [List.length_map], by unfold Room; constructor <;> ((try simp) <;> omega)⟩ | exact ⟨by omega, by omega, by unfold Room; constructor <;> ((try simp) <;> omega)⟩); conv => whnf) | ((first | ((with_reducible refine XIx.nat ?_ ?_ ?_); omega; (intro _; rfl)) | ((with_reducible refine XIx.map ?_ ?_ ?_ ?_); omega; omega; (intro _; rfl))); conv => whnf) | (with_reducible apply XAnd.mk) | (exact XSame.mk rfl rfl) | (exact XSame.mk (by first | rfl | (simp only [List.map_append, List.length_append, List.length_map]; done) | (simp only [List.map_append, List.length_append, List.length_map]; rfl)) (by first | rfl | (simp only [List.map_append]; done) | (simp only [List.map_append]; rfl))) | (with_reducible exact trivial) | ((first | (with_reducible refine xdrop_app (by rw [List.length_map]; omega) ?_) | (with_reducible refine XDrop.desk (by assumption) ?_) | (with_reducible first | refine XArr.ints (by omega) (by omega) (by omega) ?_ | refine XArr.intsA (by omega) (by omega) (by omega) ?_) | ((with_reducible first | refine XArr.nats ?_ ?_ ?_ | refine XArr.natsA ?_ ?_ ?_ | refine XArr.ptr ?_ ?_ ?_); omega; omega)); conv => whnf) | (apply Walk.drawN (id := 10) tab_ok mixed_ok [] [10] (hsC [_, _]) [_, _, _, _, _, _, _, _, _, _, _, _, _, _, _, _, _] (by kernel_rfl) rfl) | ((first | (with_reducible apply XNext.mk) | (refine XCall.hp (j := 0) c1 rfl rfl ?_) | (refine XCall.hp (j := 0) c2 rfl rfl ?_)); conv => whnf) | ((with_reducible apply XBr.mk') <;> (intro h; conv => whnf))
    conv => whnf
    refine XCall.heap [hpC (hpS (hpS v)), .grow 56 cs.isEmpty (chsA cs), .cells (moC (moB b k)), .cells [.int .i64 ((moB b k).pl + modV v ((moB b k).ph - (moB b k).pl)), .int .i64 ((moB b k).tl + modV (hpS v) ((moB b k).th - (moB b k).tl))]] rfl ?_
    repeat' first | ((with_reducible first | apply XBr.tt | apply XBr.ff | apply Chk.go | apply ChkA.go | apply ChkF.go | apply ChkB.go | apply XArr.pim0 | apply XArr.pim1); conv => whnf) | (with_reducible apply XBr.not) | ((with_reducible apply XBr.dec) <;> (intro h; first | (exfalso; omega) | ((try simp only [List.length_map] at h); first | (exfalso; omega) | (conv => whnf)))) | ((with_reducible first | apply XBr.beq | apply XBr.bne) <;> (intro h; first | (exfalso; omega) | (conv => whnf))) | ((with_reducible refine XInt.i64 (by omega) (by omega) ?_); conv => whnf) | ((with_reducible refine XHold.mk ?_ ?_); (first | omega | rfl | decide | exact ⟨rfl, by decide, rfl⟩ | exact wideI _ | exact widePr _ | exact wideSk _ | (unfold Room; constructor <;> ((try simp) <;> omega)) | exact ⟨rfl, by simp only [List.length_map], by unfold Room; constructor <;> ((try simp) <;> omega)⟩ | exact ⟨by omega, by omega, by unfold Room; constructor <;> ((try simp) <;> omega)⟩); conv => whnf) | ((first | ((with_reducible refine XIx.nat ?_ ?_ ?_); omega; (intro _; rfl)) | ((with_reducible refine XIx.map ?_ ?_ ?_ ?_); omega; omega; (intro _; rfl))); conv => whnf) | (with_reducible apply XAnd.mk) | (exact XSame.mk rfl rfl) | (exact XSame.mk (by first | rfl | (simp only [List.map_append, List.length_append, List.length_map]; done) | (simp only [List.map_append, List.length_append, List.length_map]; rfl)) (by first | rfl | (simp only [List.map_append]; done) | (simp only [List.map_append]; rfl))) | (with_reducible exact trivial) | ((first | (with_reducible refine xdrop_app (by rw [List.length_map]; omega) ?_) | (with_reducible refine XDrop.desk (by assumption) ?_) | (with_reducible first | refine XArr.ints (by omega) (by omega) (by omega) ?_ | refine XArr.intsA (by omega) (by omega) (by omega) ?_) | ((with_reducible first | refine XArr.nats ?_ ?_ ?_ | refine XArr.natsA ?_ ?_ ?_ | refine XArr.ptr ?_ ?_ ?_); omega; omega)); conv => whnf) | (apply Walk.drawN (id := 10) tab_ok mixed_ok [] [10] (hsC [_, _]) [_, _, _, _, _, _, _, _, _, _, _, _, _, _, _, _, _] (by kernel_rfl) rfl) | ((first | (with_reducible apply XNext.mk) | (refine XCall.hp (j := 0) c3 rfl rfl ?_)); conv => whnf) | ((refine XHold.mk ⟨rfl, hcl, by unfold Room; constructor <;> (simp only [List.length_cons, List.length_nil]; omega)⟩ ?_); conv => whnf) | ((with_reducible apply XBr.mk') <;> (intro h; conv => whnf))
    · subst h
      rw [if_pos rfl] at hnx
      refine XAgainG.go (k + 1) [.cells (moC (moB b k)), .cells [.int .i64 (moB b k).pl, .int .i64 (moB b k).th]] (by omega) (by omega) ?_ ⟨rfl, rfl, rfl, rfl, rfl, rfl, ?_, rfl, trivial⟩
      · rw [hnx]
        show [hpC _, .grow _ (cs ++ [_]).isEmpty ((cs ++ [_]).map prA)] ++ _ = _
        rw [isEmpty_app, List.map_append]; rfl
      · show some (AV.gr 1 (cs.length + 1)) = _
        rw [hnx]; dsimp only; rw [List.length_append]; rfl
    · subst h
      rw [if_neg (by simp)] at hnx
      refine XAgainG.go (k + 1) [.cells (moC (moB b k)), .cells [.int .i64 ((moB b k).pl + modV v ((moB b k).ph - (moB b k).pl)), .int .i64 ((moB b k).tl + modV (hpS v) ((moB b k).th - (moB b k).tl))]] (by omega) (by omega) ?_ ⟨rfl, rfl, rfl, rfl, rfl, rfl, ?_, rfl, trivial⟩
      · rw [hnx]
        show [hpC _, .grow _ (cs ++ [_]).isEmpty ((cs ++ [_]).map prA)] ++ _ = _
        rw [isEmpty_app, List.map_append]; rfl
      · show some (AV.gr 1 (cs.length + 1)) = _
        rw [hnx]; dsimp only; rw [List.length_append]; rfl
  · obtain rfl : k = b.months.length := by omega
    have c1 := from_c (bgK b u b.months.length).2 (0 - b.unsure) b.unsure vo (by omega) (by omega) (by omega) (by omega)
    have b1 := modV_bound (bgK b u b.months.length).2 (b.unsure - (0 - b.unsure))
    have hcl : (chsA (bgK b u b.months.length).1).length = (bgK b u b.months.length).1.length := List.length_map _
    rw [hfin]
    clear hfin hnx
    conv => whnf
    repeat' first | ((with_reducible first | apply XBr.tt | apply XBr.ff | apply Chk.go | apply ChkA.go | apply ChkF.go | apply ChkB.go | apply XArr.pim0 | apply XArr.pim1); conv => whnf) | (with_reducible apply XBr.not) | ((with_reducible apply XBr.dec) <;> (intro h; first | (exfalso; omega) | ((try simp only [List.length_map] at h); first | (exfalso; omega) | (conv => whnf)))) | ((with_reducible first | apply XBr.beq | apply XBr.bne) <;> (intro h; first | (exfalso; omega) | (conv => whnf))) | ((with_reducible refine XInt.i64 (by omega) (by omega) ?_); conv => whnf) | ((with_reducible refine XHold.mk ?_ ?_); (first | omega | rfl | decide | exact ⟨rfl, by decide, rfl⟩ | exact wideI _ | exact widePr _ | exact wideSk _ | (unfold Room; constructor <;> ((try simp) <;> omega)) | exact ⟨rfl, by simp only [List.length_map], by unfold Room; constructor <;> ((try simp) <;> omega)⟩ | exact ⟨by omega, by omega, by unfold Room; constructor <;> ((try simp) <;> omega)⟩); conv => whnf) | ((first | ((with_reducible refine XIx.nat ?_ ?_ ?_); omega; (intro _; rfl)) | ((with_reducible refine XIx.map ?_ ?_ ?_ ?_); omega; omega; (intro _; rfl))); conv => whnf) | (with_reducible apply XAnd.mk) | (exact XSame.mk rfl rfl) | (exact XSame.mk (by first | rfl | (simp only [List.map_append, List.length_append, List.length_map]; done) | (simp only [List.map_append, List.length_append, List.length_map]; rfl)) (by first | rfl | (simp only [List.map_append]; done) | (simp only [List.map_append]; rfl))) | (with_reducible exact trivial) | ((first | (with_reducible refine xdrop_app (by rw [List.length_map]; omega) ?_) | (with_reducible refine XDrop.desk (by assumption) ?_) | (with_reducible first | refine XArr.ints (by omega) (by omega) (by omega) ?_ | refine XArr.intsA (by omega) (by omega) (by omega) ?_) | ((with_reducible first | refine XArr.nats ?_ ?_ ?_ | refine XArr.natsA ?_ ?_ ?_ | refine XArr.ptr ?_ ?_ ?_); omega; omega)); conv => whnf) | (apply Walk.drawN (id := 10) tab_ok mixed_ok [] [10] (hsC [_, _]) [_, _, _, _, _, _, _, _, _, _, _, _, _, _, _, _, _] (by kernel_rfl) rfl) | ((first | (with_reducible apply XNext.mk) | (refine XCall.hp (j := 0) c1 rfl rfl ?_)); conv => whnf) | ((with_reducible apply XBr.mk') <;> (intro h; conv => whnf))
    exact ⟨rfl, rfl, fun y hy => by rw [List.mem_singleton] at hy; subst hy; exact hpC_low _, FrozN.tup (.cons (FrozN.low rfl) (.cons (FrozN.grow (i := 1) (show (1 : Nat) ≤ 1 from Nat.le_refl 1) rfl hcl (chs_low _)) .nil))⟩
end GA
end

section
namespace GA
open Go Go.RowKit Go.Proofs
set_option pp.deepTerms true
set_option maxRecDepth 8000
set_option linter.unusedVariables false
set_option linter.unusedSimpArgs false

def befF (b : Bd) (m k n : Nat) : Bool := decide (k ∈ lvL b m n)
end GA
end

section
namespace GA
open Go Go.RowKit Go.Proofs
set_option maxRecDepth 8000
set_option linter.unusedVariables false
set_option linter.unusedSimpArgs false

theorem ivt {f : Int → Int} (hf : ∀ x, f (x + 1) ≤ f x + 1) : ∀ (d : Nat) (a v : Int), f a ≤ v → v ≤ f (a + d) → ∃ x, a ≤ x ∧ x ≤ a + d ∧ f x = v
  | 0, a, v, h1, h2 => ⟨a, Int.le_refl _, by omega, by simp at h2; omega⟩
  | d + 1, a, v, h1, h2 => by
    by_cases h : f a = v
    · exact ⟨a, Int.le_refl _, by omega, h⟩
    · have h3 := hf a
      obtain ⟨x, q1, q2, q3⟩ := ivt hf d (a + 1) v (by omega) (by rw [show a + 1 + (d : Int) = a + ((d + 1 : Nat) : Int) by omega]; exact h2)
      exact ⟨x, by omega, by omega, q3⟩
theorem boxR {room g a pl ph tl th v : Int} (h1 : pl ≤ ph) (h2 : tl ≤ th) (lo : grossR room g a pl th ≤ v) (hi : v ≤ grossR room g a ph tl) : ∃ sp st, pl ≤ sp ∧ sp ≤ ph ∧ tl ≤ st ∧ st ≤ th ∧ grossR room g a sp st = v := by
  by_cases h : v ≤ grossR room g a ph th
  · obtain ⟨x, q1, q2, q3⟩ := ivt (f := fun sp => grossR room g a sp th) (fun x => by unfold grossR; omega) (ph - pl).toNat pl v lo (by rw [show pl + ((ph - pl).toNat : Int) = ph by omega]; exact h)
    exact ⟨x, th, q1, by omega, h2, Int.le_refl _, q3⟩
  · obtain ⟨x, q1, q2, q3⟩ := ivt (f := fun x => grossR room g a ph (th - x)) (fun x => by unfold grossR; omega) (th - tl).toNat 0 v (by rw [Int.sub_zero]; omega) (by rw [show th - (0 + ((th - tl).toNat : Int)) = tl by omega]; exact hi)
    exact ⟨ph, th - x, h1, Int.le_refl _, by omega, by omega, q3⟩
def InC (b : Bd) (m : Nat) (sp st : Int) : Prop := (moB b m).pl ≤ sp ∧ sp ≤ (moB b m).ph ∧ (moB b m).tl ≤ st ∧ st ≤ (moB b m).th
def grC (b : Bd) (m : Nat) (n sp st : Int) : Int := grossR b.room (moB b m).g n sp st
theorem grC_b {b : Bd} (ok : BedOk b) {m : Nat} (hm : m < b.months.length) {n : Nat} {sp st : Int} (h : InC b m sp st) : lieR b m n ≤ grC b m n sp st ∧ grC b m n sp st ≤ hiR b m n + (moB b m).r ∧ 0 ≤ grC b m n sp st ∧ grC b m n sp st ≤ b.room := by
  have hmo := ok.mo' hm
  obtain ⟨h1, h2, h3, h4⟩ := h
  have := grossR_le (room := b.room) (g := (moB b m).g) (a := n) (sp := sp) (st := st) (by have := ok.r1; omega) (by omega)
  refine ⟨grossR_mono hmo.1 (Int.le_refl _) h1 h4, ?_, this.1, this.2⟩
  have : grC b m n sp st ≤ grossR b.room (moB b m).g n (moB b m).ph (moB b m).tl := grossR_mono hmo.1 (Int.le_refl _) h2 h3
  unfold hiR; omega
theorem mem_lv {b : Bd} (ok : BedOk b) {m : Nat} (hm : m < b.months.length) {n k : Nat} : k ∈ lvL b m n ↔ ∃ sp st, InC b m sp st ∧ grC b m n sp st - (moB b m).r = k := by
  have hmo := ok.mo' hm
  have hlo := lieR_b ok (j := m) (n := n) hm
  unfold lvL
  rw [mem_lvF]
  constructor
  · rintro ⟨h1, h2⟩
    unfold loR at h1
    unfold hiR at h2
    obtain ⟨sp, st, q1, q2, q3, q4, q5⟩ := boxR (room := b.room) (g := (moB b m).g) (a := n) (v := k + (moB b m).r) (show (moB b m).pl ≤ (moB b m).ph by omega) (show (moB b m).tl ≤ (moB b m).th by omega) (by show lieR b m n ≤ _; omega) (by omega)
    exact ⟨sp, st, ⟨q1, q2, q3, q4⟩, by unfold grC; omega⟩
  · rintro ⟨sp, st, h1, h2⟩
    have := grC_b ok hm (n := n) h1
    unfold loR
    constructor <;> omega
theorem agB_iff {b : Bd} {p : Nat → Bool} {m n : Nat} : agB b p m n = true ↔ ∀ i, i < b.surveys.length → (suB b i).m = m → p i = true → (suB b i).lo ≤ n ∧ (n : Int) ≤ (suB b i).hi := by
  unfold agB
  rw [List.all_eq_true]
  constructor
  · intro h i hi hm hp
    have := h i (rowT_mem.2 ⟨i, hi, hm, rfl⟩)
    rw [Int.toNat_natCast, hp] at this
    simpa [inZ_iff] using this
  · intro h x hx
    obtain ⟨i, hi, hm, rfl⟩ := rowT_mem.1 hx
    rw [Int.toNat_natCast]
    cases hp : p i with
    | false => rfl
    | true => have := h i hi hm hp; simp [inZ_iff]; exact this
end GA
end

section
namespace GA
open Go Go.RowKit Go.Proofs
set_option pp.deepTerms true
set_option maxRecDepth 8000
set_option linter.unusedVariables false
set_option linter.unusedSimpArgs false

def fF {α : Type} (f : Nat → Option α) (c : Nat) (hi : Int) : Option α := (lvF c hi).findSome? f
theorem fF_some {α : Type} {f : Nat → Option α} {c : Nat} {hi : Int} {v : α} (h : (c : Int) ≤ hi) (hv : f c = some v) : fF f c hi = some v := by
  unfold fF; rw [lvF_cons h, List.findSome?_cons, hv]
theorem fF_none {α : Type} {f : Nat → Option α} {c : Nat} {hi : Int} (h : (c : Int) ≤ hi) (hv : f c = none) : fF f c hi = fF f (c + 1) hi := by
  unfold fF; rw [lvF_cons h, List.findSome?_cons, hv]
theorem fF_end {α : Type} {f : Nat → Option α} {c : Nat} {hi : Int} (h : hi < c) : fF f c hi = none := by
  unfold fF; rw [lvF_nil h]; rfl
def hitB (b : Bd) (m : Nat) (a k : Int) (sp st : Nat) : Bool := grossR b.room (moB b m).g a sp st - (moB b m).r == k
def stS (b : Bd) (m : Nat) (a k : Int) (sp st : Nat) : Option (Int × Int) := if hitB b m a k sp st = true then some ((sp : Int), (st : Int)) else none
def spS (b : Bd) (m : Nat) (a k : Int) (sp : Nat) : Option (Int × Int) := fF (stS b m a k sp) (moB b m).tl.toNat (moB b m).th
def fstC (b : Bd) (m : Nat) (a k : Int) : Option (Int × Int) := fF (spS b m a k) (moB b m).pl.toNat (moB b m).ph
def chK (b : Bd) (c : List Int) : Nat → Option (List (Int × Int))
  | 0 => some []
  | k + 1 => match chK b c k with
    | none => none
    | some l => match fstC b k (c.getD k default) (c.getD (k + 1) default) with
      | none => none
      | some x => some (l ++ [x])
theorem chK_none {b : Bd} {c : List Int} {k : Nat} (h : chK b c k = none) : ∀ d, chK b c (k + d) = none
  | 0 => h
  | d + 1 => by show chK b c (k + d + 1) = none; rw [chK, chK_none h d]
theorem chK_len {b : Bd} {c : List Int} : ∀ {k : Nat} {l : List (Int × Int)}, chK b c k = some l → l.length = k
  | 0, l, h => by rw [chK] at h; cases h; rfl
  | k + 1, l, h => by
    rw [chK] at h
    cases h1 : chK b c k with
    | none => rw [h1] at h; cases h
    | some l1 =>
      rw [h1] at h; dsimp only at h
      cases h2 : fstC b k (c.getD k default) (c.getD (k + 1) default) with
      | none => rw [h2] at h; cases h
      | some n => rw [h2] at h; cases h; rw [List.length_append, chK_len h1]; rfl
def chR (b : Bd) (c : List Int) : Option (List (Int × Int)) := if inZ (c.getD 0 default) (b.first - b.unsure) (b.first + b.unsure) = true then chK b c b.months.length else none
def chA' (o : Option (List (Int × Int))) : AV := match o with | none => .tup [.sl true [], .bool false] | some l => .tup [.sl l.isEmpty (chsA l), .bool true]
set_option maxHeartbeats 2000000 in
theorem chances_c (b : Bd) (ok : BedOk b) (nl : Bool) (c : List Int) (hl : c.length = b.months.length + 1) (hc : ∀ x ∈ c, 0 ≤ x ∧ x ≤ b.room) : Comp Try.prog 130 [dskA b, .sl nl (ints c)] (chA' (chR b c)) := by
  have m1 := ok.m1
  have m2 := ok.m2
  have r1 := ok.r1
  have r2 := ok.r2
  have f1 := ok.f1
  have f2 := ok.f2
  have u1 := ok.u1
  have u2 := ok.u2
  have e1 : ((b.months.map moA).length : Int) = b.months.length := by rw [List.length_map]
  have e2 : ((ints c).length : Int) = b.months.length + 1 := by rw [ints_len]; omega
  have hin := bedIn_c (c.getD 0 default) (b.first - b.unsure) (b.first + b.unsure)
  have hcv : ∀ m, m ≤ b.months.length → 0 ≤ c.getD m default ∧ c.getD m default ≤ b.room := fun m hm => hc _ (getD_mem (by omega))
  unfold chR
  cases hi : inZ (c.getD 0 default) (b.first - b.unsure) (b.first + b.unsure)
  · rw [hi] at hin
    rw [if_neg (by simp)]
    refine Comp.body (T := tab) (res := [.tmp 4, .tmp 5]) tab_ok [] Try.func130 rfl (by kernel_rfl) Try.ntmps130 rfl (by simp only [List.length_cons, List.length_nil]; decide) (by simp only [lowL, dskL, AV.low, lowI]; rfl) ?_; conv => whnf
    repeat' first | ((with_reducible first | apply XBr.tt | apply XBr.ff | apply Chk.go | apply ChkA.go | apply ChkF.go | apply ChkB.go | apply XArr.pim0 | apply XArr.pim1); conv => whnf) | (with_reducible apply XBr.not) | ((with_reducible apply XBr.dec) <;> (intro h; first | (exfalso; omega) | ((try simp only [List.length_map] at h); first | (exfalso; omega) | (conv => whnf)))) | ((with_reducible first | apply XBr.beq | apply XBr.bne) <;> (intro h; first | (exfalso; omega) | (conv => whnf))) | ((with_reducible refine XInt.i64 (by omega) (by omega) ?_); conv => whnf) | ((with_reducible refine XHold.mk ?_ ?_); (first | omega | rfl | decide | exact ⟨rfl, by decide, rfl⟩ | exact wideI _ | exact widePr _ | exact wideSk _ | (unfold Room; constructor <;> ((try simp) <;> omega)) | exact ⟨rfl, by simp only [List.length_map], by unfold Room; constructor <;> ((try simp) <;> omega)⟩ | exact ⟨by omega, by omega, by unfold Room; constructor <;> ((try simp) <;> omega)⟩); conv => whnf) | ((first | ((with_reducible refine XIx.nat ?_ ?_ ?_); omega; (intro _; rfl)) | ((with_reducible refine XIx.map ?_ ?_ ?_ ?_); omega; omega; (intro _; rfl))); conv => whnf) | (with_reducible apply XAnd.mk) | (exact XSame.mk rfl rfl) | (exact XSame.mk (by first | rfl | (simp only [List.map_append, List.length_append, List.length_map]; done) | (simp only [List.map_append, List.length_append, List.length_map]; rfl)) (by first | rfl | (simp only [List.map_append]; done) | (simp only [List.map_append]; rfl))) | (with_reducible exact trivial) | ((first | (with_reducible refine xdrop_app (by rw [List.length_map]; omega) ?_) | (with_reducible refine XDrop.desk (by assumption) ?_) | (with_reducible first | refine XArr.ints (by omega) (by omega) (by omega) ?_ | refine XArr.intsA (by omega) (by omega) (by omega) ?_) | ((with_reducible first | refine XArr.nats ?_ ?_ ?_ | refine XArr.natsA ?_ ?_ ?_ | refine XArr.ptr ?_ ?_ ?_); omega; omega)); conv => whnf) | (apply Walk.drawN (id := 1) tab_ok mixed_ok [] [] (hsU _) [_, _, _, _, _, _, _, _, _, _, _, _, _, _, _, _, _, _, _, _, _, _, _, _, _, _, _] (by kernel_rfl) rfl) | (apply Walk.drawN (id := 15) tab_ok mixed_ok [] [] (hsU _) [_, _, _, _, _, _, _, _, _, _, _, _, _, _, _, _, _, _, _, _, _, _] (by kernel_rfl) rfl) | ((first | (with_reducible apply XNext.mk) | (refine XCall.ret hin ?_)); conv => whnf) | ((with_reducible apply XBr.mk') <;> (intro h; conv => whnf))
    exact ⟨.low rfl⟩
  · rw [hi] at hin
    rw [if_pos rfl]
    refine Comp.body (T := tab) (res := [.tmp 4, .tmp 5]) tab_ok [] Try.func130 rfl (by kernel_rfl) Try.ntmps130 rfl (by simp only [List.length_cons, List.length_nil]; decide) (by simp only [lowL, dskL, AV.low, lowI]; rfl) ?_; conv => whnf
    repeat' first | ((with_reducible first | apply XBr.tt | apply XBr.ff | apply Chk.go | apply ChkA.go | apply ChkF.go | apply ChkB.go | apply XArr.pim0 | apply XArr.pim1); conv => whnf) | (with_reducible apply XBr.not) | ((with_reducible apply XBr.dec) <;> (intro h; first | (exfalso; omega) | ((try simp only [List.length_map] at h); first | (exfalso; omega) | (conv => whnf)))) | ((with_reducible first | apply XBr.beq | apply XBr.bne) <;> (intro h; first | (exfalso; omega) | (conv => whnf))) | ((with_reducible refine XInt.i64 (by omega) (by omega) ?_); conv => whnf) | ((with_reducible refine XHold.mk ?_ ?_); (first | omega | rfl | decide | exact ⟨rfl, by decide, rfl⟩ | exact wideI _ | exact widePr _ | exact wideSk _ | (unfold Room; constructor <;> ((try simp) <;> omega)) | exact ⟨rfl, by simp only [List.length_map], by unfold Room; constructor <;> ((try simp) <;> omega)⟩ | exact ⟨by omega, by omega, by unfold Room; constructor <;> ((try simp) <;> omega)⟩); conv => whnf) | ((first | ((with_reducible refine XIx.nat ?_ ?_ ?_); omega; (intro _; rfl)) | ((with_reducible refine XIx.map ?_ ?_ ?_ ?_); omega; omega; (intro _; rfl))); conv => whnf) | (with_reducible apply XAnd.mk) | (exact XSame.mk rfl rfl) | (exact XSame.mk (by first | rfl | (simp only [List.map_append, List.length_append, List.length_map]; done) | (simp only [List.map_append, List.length_append, List.length_map]; rfl)) (by first | rfl | (simp only [List.map_append]; done) | (simp only [List.map_append]; rfl))) | (with_reducible exact trivial) | ((first | (with_reducible refine xdrop_app (by rw [List.length_map]; omega) ?_) | (with_reducible refine XDrop.desk (by assumption) ?_) | (with_reducible first | refine XArr.ints (by omega) (by omega) (by omega) ?_ | refine XArr.intsA (by omega) (by omega) (by omega) ?_) | ((with_reducible first | refine XArr.nats ?_ ?_ ?_ | refine XArr.natsA ?_ ?_ ?_ | refine XArr.ptr ?_ ?_ ?_); omega; omega)); conv => whnf) | (apply Walk.drawN (id := 1) tab_ok mixed_ok [] [] (hsU _) [_, _, _, _, _, _, _, _, _, _, _, _, _, _, _, _, _, _, _, _, _, _, _, _, _, _, _] (by kernel_rfl) rfl) | (apply Walk.drawN (id := 15) tab_ok mixed_ok [] [] (hsU _) [_, _, _, _, _, _, _, _, _, _, _, _, _, _, _, _, _, _, _, _, _, _] (by kernel_rfl) rfl) | ((first | (with_reducible apply XNext.mk) | (refine XCall.ret hin ?_)); conv => whnf) | ((with_reducible apply XBr.mk') <;> (intro h; conv => whnf))
    refine Walk.nilgr 6 56 rfl ?_
    refine Walk.loopGK tab_ok [] [(0, _), (1, _), (4, _), (5, _), (44, _), (45, _)] ⟨rfl, rfl, rfl, rfl, rfl, rfl, trivial⟩ (fun q : Nat × List (Int × Int) => q.1 ≤ b.months.length ∧ chK b c q.1 = some q.2) (fun q => [(6, .gr 0 q.2.length), (46, natA q.1)]) (fun q => [.grow 56 q.2.isEmpty (chsA q.2)]) (fun q => b.months.length - q.1) (0, []) ⟨Nat.zero_le _, rfl⟩ rfl ⟨rfl, rfl, trivial⟩ ?_ (fun _ _ => (show (1 : Nat) ≤ 1 from Nat.le_refl 1)) ?_
    · intro q _
      refine ⟨fun z hz => ?_, fun z hz => ?_⟩
      · rw [List.mem_singleton] at hz; subst hz; exact chs_low _
      · simp only [List.cons_append, List.nil_append, List.mem_cons, List.not_mem_nil, or_false] at hz
        rcases hz with rfl | rfl | rfl | rfl | rfl | rfl | rfl | rfl <;> first | rfl | exact dskL b | exact lowI _ | exact lowMo _
    rintro ⟨m, l⟩ ⟨hm, hk⟩
    dsimp only at hm hk ⊢
    have hlen := chK_len hk
    have hcl : (chsA l).length = l.length := List.length_map _
    conv => whnf
    by_cases hmM : m < b.months.length
    · have hmo := ok.mo' hmM
      have hcm := hcv m (by omega)
      have hcm2 := hcv (m + 1) (by omega)
      have hnx : chK b c (m + 1) = match fstC b m (c.getD m default) (c.getD (m + 1) default) with | none => none | some x => some (l ++ [x]) := by rw [chK, hk]
      have hno : chK b c (m + 1) = none → chK b c b.months.length = none := fun h => by
        have := chK_none h (b.months.length - (m + 1))
        rwa [show m + 1 + (b.months.length - (m + 1)) = b.months.length by omega] at this
      repeat' first | ((with_reducible first | apply XBr.tt | apply XBr.ff | apply Chk.go | apply ChkA.go | apply ChkF.go | apply ChkB.go | apply XArr.pim0 | apply XArr.pim1); conv => whnf) | (with_reducible apply XBr.not) | ((with_reducible apply XBr.dec) <;> (intro h; first | (exfalso; omega) | ((try simp only [List.length_map] at h); first | (exfalso; omega) | (conv => whnf)))) | ((with_reducible first | apply XBr.beq | apply XBr.bne) <;> (intro h; first | (exfalso; omega) | (conv => whnf))) | ((with_reducible refine XInt.i64 (by omega) (by omega) ?_); conv => whnf) | ((with_reducible refine XHold.mk ?_ ?_); (first | omega | rfl | decide | exact ⟨rfl, by decide, rfl⟩ | exact wideI _ | exact widePr _ | exact wideSk _ | (unfold Room; constructor <;> ((try simp) <;> omega)) | exact ⟨rfl, by simp only [List.length_map], by unfold Room; constructor <;> ((try simp) <;> omega)⟩ | exact ⟨by omega, by omega, by unfold Room; constructor <;> ((try simp) <;> omega)⟩); conv => whnf) | ((first | ((with_reducible refine XIx.nat ?_ ?_ ?_); omega; (intro _; rfl)) | ((with_reducible refine XIx.map ?_ ?_ ?_ ?_); omega; omega; (intro _; rfl))); conv => whnf) | (with_reducible apply XAnd.mk) | (exact XSame.mk rfl rfl) | (exact XSame.mk (by first | rfl | (simp only [List.map_append, List.length_append, List.length_map]; done) | (simp only [List.map_append, List.length_append, List.length_map]; rfl)) (by first | rfl | (simp only [List.map_append]; done) | (simp only [List.map_append]; rfl))) | (with_reducible exact trivial) | ((first | (with_reducible refine xdrop_app (by rw [List.length_map]; omega) ?_) | (with_reducible refine XDrop.desk (by assumption) ?_) | (with_reducible first | refine XArr.ints (by omega) (by omega) (by omega) ?_ | refine XArr.intsA (by omega) (by omega) (by omega) ?_) | ((with_reducible first | refine XArr.nats ?_ ?_ ?_ | refine XArr.natsA ?_ ?_ ?_ | refine XArr.ptr ?_ ?_ ?_); omega; omega)); conv => whnf) | (apply Walk.drawN (id := 1) tab_ok mixed_ok [] [] (hsU _) [_, _, _, _, _, _, _, _, _, _, _, _, _, _, _, _, _, _, _, _, _, _, _, _, _, _, _] (by kernel_rfl) rfl) | (apply Walk.drawN (id := 15) tab_ok mixed_ok [] [] (hsU _) [_, _, _, _, _, _, _, _, _, _, _, _, _, _, _, _, _, _, _, _, _, _] (by kernel_rfl) rfl) | ((with_reducible apply XNext.mk); conv => whnf) | ((with_reducible apply XBr.mk') <;> (intro h; conv => whnf))
      refine Walk.scope tab_ok [] ?_
      conv => whnf
      repeat' first | ((with_reducible first | apply XBr.tt | apply XBr.ff | apply Chk.go | apply ChkA.go | apply ChkF.go | apply ChkB.go | apply XArr.pim0 | apply XArr.pim1); conv => whnf) | (with_reducible apply XBr.not) | ((with_reducible apply XBr.dec) <;> (intro h; first | (exfalso; omega) | ((try simp only [List.length_map] at h); first | (exfalso; omega) | (conv => whnf)))) | ((with_reducible first | apply XBr.beq | apply XBr.bne) <;> (intro h; first | (exfalso; omega) | (conv => whnf))) | ((with_reducible refine XInt.i64 (by omega) (by omega) ?_); conv => whnf) | ((with_reducible refine XHold.mk ?_ ?_); (first | omega | rfl | decide | exact ⟨rfl, by decide, rfl⟩ | exact wideI _ | exact widePr _ | exact wideSk _ | (unfold Room; constructor <;> ((try simp) <;> omega)) | exact ⟨rfl, by simp only [List.length_map], by unfold Room; constructor <;> ((try simp) <;> omega)⟩ | exact ⟨by omega, by omega, by unfold Room; constructor <;> ((try simp) <;> omega)⟩); conv => whnf) | ((first | ((with_reducible refine XIx.nat ?_ ?_ ?_); omega; (intro _; rfl)) | ((with_reducible refine XIx.map ?_ ?_ ?_ ?_); omega; omega; (intro _; rfl))); conv => whnf) | (with_reducible apply XAnd.mk) | (exact XSame.mk rfl rfl) | (exact XSame.mk (by first | rfl | (simp only [List.map_append, List.length_append, List.length_map]; done) | (simp only [List.map_append, List.length_append, List.length_map]; rfl)) (by first | rfl | (simp only [List.map_append]; done) | (simp only [List.map_append]; rfl))) | (with_reducible exact trivial) | ((first | (with_reducible refine xdrop_app (by rw [List.length_map]; omega) ?_) | (with_reducible refine XDrop.desk (by assumption) ?_) | (with_reducible first | refine XArr.ints (by omega) (by omega) (by omega) ?_ | refine XArr.intsA (by omega) (by omega) (by omega) ?_) | ((with_reducible first | refine XArr.nats ?_ ?_ ?_ | refine XArr.natsA ?_ ?_ ?_ | refine XArr.ptr ?_ ?_ ?_); omega; omega)); conv => whnf) | (apply Walk.drawN (id := 1) tab_ok mixed_ok [] [] (hsU _) [_, _, _, _, _, _, _, _, _, _, _, _, _, _, _, _, _, _, _, _, _, _, _, _, _, _, _] (by kernel_rfl) rfl) | (apply Walk.drawN (id := 15) tab_ok mixed_ok [] [] (hsU _) [_, _, _, _, _, _, _, _, _, _, _, _, _, _, _, _, _, _, _, _, _, _] (by kernel_rfl) rfl) | ((with_reducible apply XNext.mk); conv => whnf) | ((with_reducible apply XBr.mk') <;> (intro h; conv => whnf))
      refine Walk.label ?_
      conv => whnf
      repeat' first | ((with_reducible first | apply XBr.tt | apply XBr.ff | apply Chk.go | apply ChkA.go | apply ChkF.go | apply ChkB.go | apply XArr.pim0 | apply XArr.pim1); conv => whnf) | (with_reducible apply XBr.not) | ((with_reducible apply XBr.dec) <;> (intro h; first | (exfalso; omega) | ((try simp only [List.length_map] at h); first | (exfalso; omega) | (conv => whnf)))) | ((with_reducible first | apply XBr.beq | apply XBr.bne) <;> (intro h; first | (exfalso; omega) | (conv => whnf))) | ((with_reducible refine XInt.i64 (by omega) (by omega) ?_); conv => whnf) | ((with_reducible refine XHold.mk ?_ ?_); (first | omega | rfl | decide | exact ⟨rfl, by decide, rfl⟩ | exact wideI _ | exact widePr _ | exact wideSk _ | (unfold Room; constructor <;> ((try simp) <;> omega)) | exact ⟨rfl, by simp only [List.length_map], by unfold Room; constructor <;> ((try simp) <;> omega)⟩ | exact ⟨by omega, by omega, by unfold Room; constructor <;> ((try simp) <;> omega)⟩); conv => whnf) | ((first | ((with_reducible refine XIx.nat ?_ ?_ ?_); omega; (intro _; rfl)) | ((with_reducible refine XIx.map ?_ ?_ ?_ ?_); omega; omega; (intro _; rfl))); conv => whnf) | (with_reducible apply XAnd.mk) | (exact XSame.mk rfl rfl) | (exact XSame.mk (by first | rfl | (simp only [List.map_append, List.length_append, List.length_map]; done) | (simp only [List.map_append, List.length_append, List.length_map]; rfl)) (by first | rfl | (simp only [List.map_append]; done) | (simp only [List.map_append]; rfl))) | (with_reducible exact trivial) | ((first | (with_reducible refine xdrop_app (by rw [List.length_map]; omega) ?_) | (with_reducible refine XDrop.desk (by assumption) ?_) | (with_reducible first | refine XArr.ints (by omega) (by omega) (by omega) ?_ | refine XArr.intsA (by omega) (by omega) (by omega) ?_) | ((with_reducible first | refine XArr.nats ?_ ?_ ?_ | refine XArr.natsA ?_ ?_ ?_ | refine XArr.ptr ?_ ?_ ?_); omega; omega)); conv => whnf) | (apply Walk.drawN (id := 1) tab_ok mixed_ok [] [] (hsU _) [_, _, _, _, _, _, _, _, _, _, _, _, _, _, _, _, _, _, _, _, _, _, _, _, _, _, _] (by kernel_rfl) rfl) | (apply Walk.drawN (id := 15) tab_ok mixed_ok [] [] (hsU _) [_, _, _, _, _, _, _, _, _, _, _, _, _, _, _, _, _, _, _, _, _, _] (by kernel_rfl) rfl) | ((with_reducible apply XNext.mk); conv => whnf) | ((with_reducible apply XBr.mk') <;> (intro h; conv => whnf))
      have hms : ((m : Int) + 1).toNat = m + 1 := by omega
      refine Walk.loopK tab_ok [] [(0, _), (1, _), (4, _), (5, _), (6, _), (7, _), (8, _), (9, _), (10, _), (44, _), (45, _), (46, _)] ⟨rfl, rfl, rfl, rfl, rfl, rfl, rfl, rfl, rfl, rfl, rfl, rfl, trivial⟩ (fun sp : Nat => (moB b m).pl ≤ sp ∧ (sp : Int) ≤ (moB b m).ph + 1 ∧ fF (spS b m (c.getD m default) (c.getD (m + 1) default)) sp (moB b m).ph = fstC b m (c.getD m default) (c.getD (m + 1) default)) (fun sp => [(11, natA sp)]) (fun _ => [.grow 56 l.isEmpty (chsA l), .cells (moC (moB b m)), .cells [.int .i64 (-1), .int .i64 (-1)], .cells [.int .i64 (-1), .int .i64 (-1)]]) (fun sp => ((moB b m).ph + 1).toNat - sp) (moB b m).pl.toNat ⟨by omega, by omega, rfl⟩ rfl ⟨congrArg (fun z => some (AV.int .i64 z)) (show (moB b m).pl = (((moB b m).pl.toNat : Nat) : Int) by omega), trivial⟩ ?_
      rintro sp ⟨hs1, hs2, hsf⟩
      conv => whnf
      by_cases hsp : (sp : Int) ≤ (moB b m).ph
      · have hsp' : (sp : Int) ≤ (b.months.getD m default).ph := hsp
        repeat' first | ((with_reducible first | apply XBr.tt | apply XBr.ff | apply Chk.go | apply ChkA.go | apply ChkF.go | apply ChkB.go | apply XArr.pim0 | apply XArr.pim1); conv => whnf) | (with_reducible apply XBr.not) | ((with_reducible apply XBr.dec) <;> (intro h; first | (exfalso; omega) | ((try simp only [List.length_map] at h); first | (exfalso; omega) | (conv => whnf)))) | ((with_reducible first | apply XBr.beq | apply XBr.bne) <;> (intro h; first | (exfalso; omega) | (conv => whnf))) | ((with_reducible refine XInt.i64 (by omega) (by omega) ?_); conv => whnf) | ((with_reducible refine XHold.mk ?_ ?_); (first | omega | rfl | decide | exact ⟨rfl, by decide, rfl⟩ | exact wideI _ | exact widePr _ | exact wideSk _ | (unfold Room; constructor <;> ((try simp) <;> omega)) | exact ⟨rfl, by simp only [List.length_map], by unfold Room; constructor <;> ((try simp) <;> omega)⟩ | exact ⟨by omega, by omega, by unfold Room; constructor <;> ((try simp) <;> omega)⟩); conv => whnf) | ((first | ((with_reducible refine XIx.nat ?_ ?_ ?_); omega; (intro _; rfl)) | ((with_reducible refine XIx.map ?_ ?_ ?_ ?_); omega; omega; (intro _; rfl))); conv => whnf) | (with_reducible apply XAnd.mk) | (exact XSame.mk rfl rfl) | (exact XSame.mk (by first | rfl | (simp only [List.map_append, List.length_append, List.length_map]; done) | (simp only [List.map_append, List.length_append, List.length_map]; rfl)) (by first | rfl | (simp only [List.map_append]; done) | (simp only [List.map_append]; rfl))) | (with_reducible exact trivial) | ((first | (with_reducible refine xdrop_app (by rw [List.length_map]; omega) ?_) | (with_reducible refine XDrop.desk (by assumption) ?_) | (with_reducible first | refine XArr.ints (by omega) (by omega) (by omega) ?_ | refine XArr.intsA (by omega) (by omega) (by omega) ?_) | ((with_reducible first | refine XArr.nats ?_ ?_ ?_ | refine XArr.natsA ?_ ?_ ?_ | refine XArr.ptr ?_ ?_ ?_); omega; omega)); conv => whnf) | (apply Walk.drawN (id := 1) tab_ok mixed_ok [] [] (hsU _) [_, _, _, _, _, _, _, _, _, _, _, _, _, _, _, _, _, _, _, _, _, _, _, _, _, _, _] (by kernel_rfl) rfl) | (apply Walk.drawN (id := 15) tab_ok mixed_ok [] [] (hsU _) [_, _, _, _, _, _, _, _, _, _, _, _, _, _, _, _, _, _, _, _, _, _] (by kernel_rfl) rfl) | ((with_reducible apply XNext.mk); conv => whnf) | ((with_reducible apply XBr.mk') <;> (intro h; conv => whnf))
        refine Walk.loopK tab_ok [] [(0, _), (1, _), (4, _), (5, _), (6, _), (7, _), (8, _), (9, _), (10, _), (11, _), (44, _), (45, _), (46, _)] ⟨rfl, rfl, rfl, rfl, rfl, rfl, rfl, rfl, rfl, rfl, rfl, rfl, rfl, trivial⟩ (fun st : Nat => (moB b m).tl ≤ st ∧ (st : Int) ≤ (moB b m).th + 1 ∧ fF (stS b m (c.getD m default) (c.getD (m + 1) default) sp) st (moB b m).th = spS b m (c.getD m default) (c.getD (m + 1) default) sp) (fun st => [(12, natA st)]) (fun _ => [.grow 56 l.isEmpty (chsA l), .cells (moC (moB b m)), .cells [.int .i64 (-1), .int .i64 (-1)], .cells [.int .i64 (-1), .int .i64 (-1)]]) (fun st => ((moB b m).th + 1).toNat - st) (moB b m).tl.toNat ⟨by omega, by omega, rfl⟩ rfl ⟨congrArg (fun z => some (AV.int .i64 z)) (show (moB b m).tl = (((moB b m).tl.toNat : Nat) : Int) by omega), trivial⟩ ?_
        rintro st ⟨ht1, ht2, htf⟩
        conv => whnf
        by_cases hst : (st : Int) ≤ (moB b m).th
        · have hst' : (st : Int) ≤ (b.months.getD m default).th := hst
          have hgc := gross_c b m (c.getD m default) sp st hmM hcm.1 (by omega) hmo.1 hmo.2.1 (by omega) (by omega) (by omega) (by omega) (by omega) (by omega)
          change Comp Try.prog _ _ (.int .i64 (grossR b.room (moB b m).g (c.getD m default) sp st)) at hgc
          have hgb := grossR_le (room := b.room) (g := (moB b m).g) (a := c.getD m default) (sp := sp) (st := st) (by omega) (by omega)
          have hhit : stS b m (c.getD m default) (c.getD (m + 1) default) sp st = if grossR b.room (moB b m).g (c.getD m default) sp st - (moB b m).r = c.getD (m + 1) default then some ((sp : Int), (st : Int)) else none := by
            unfold stS hitB
            by_cases h : grossR b.room (moB b m).g (c.getD m default) sp st - (moB b m).r = c.getD (m + 1) default
            · rw [if_pos h, if_pos (by rw [h]; exact beq_self_eq_true _)]
            · rw [if_neg h, if_neg (by rw [beq_eq_false_iff_ne.2 h]; simp)]
          generalize grossR b.room (moB b m).g (c.getD m default) sp st = gz at hgc hgb hhit
          repeat' first | ((with_reducible first | apply XBr.tt | apply XBr.ff | apply Chk.go | apply ChkA.go | apply ChkF.go | apply ChkB.go | apply XArr.pim0 | apply XArr.pim1); conv => whnf) | (with_reducible apply XBr.not) | ((with_reducible apply XBr.dec) <;> (intro h; first | (exfalso; omega) | ((try simp only [List.length_map] at h); first | (exfalso; omega) | (conv => whnf)))) | ((with_reducible first | apply XBr.beq | apply XBr.bne) <;> (intro h; first | (exfalso; omega) | (conv => whnf))) | ((with_reducible refine XInt.i64 (by omega) (by omega) ?_); conv => whnf) | ((with_reducible refine XHold.mk ?_ ?_); (first | omega | rfl | decide | exact ⟨rfl, by decide, rfl⟩ | exact wideI _ | exact widePr _ | exact wideSk _ | (unfold Room; constructor <;> ((try simp) <;> omega)) | exact ⟨rfl, by simp only [List.length_map], by unfold Room; constructor <;> ((try simp) <;> omega)⟩ | exact ⟨by omega, by omega, by unfold Room; constructor <;> ((try simp) <;> omega)⟩); conv => whnf) | ((first | ((with_reducible refine XIx.nat ?_ ?_ ?_); omega; (intro _; rfl)) | ((with_reducible refine XIx.map ?_ ?_ ?_ ?_); omega; omega; (intro _; rfl))); conv => whnf) | (with_reducible apply XAnd.mk) | (exact XSame.mk rfl rfl) | (exact XSame.mk (by first | rfl | (simp only [List.map_append, List.length_append, List.length_map]; done) | (simp only [List.map_append, List.length_append, List.length_map]; rfl)) (by first | rfl | (simp only [List.map_append]; done) | (simp only [List.map_append]; rfl))) | (with_reducible exact trivial) | ((first | (with_reducible refine xdrop_app (by rw [List.length_map]; omega) ?_) | (with_reducible refine XDrop.desk (by assumption) ?_) | (with_reducible first | refine XArr.ints (by omega) (by omega) (by omega) ?_ | refine XArr.intsA (by omega) (by omega) (by omega) ?_) | ((with_reducible first | refine XArr.nats ?_ ?_ ?_ | refine XArr.natsA ?_ ?_ ?_ | refine XArr.ptr ?_ ?_ ?_); omega; omega)); conv => whnf) | (apply Walk.drawN (id := 1) tab_ok mixed_ok [] [] (hsU _) [_, _, _, _, _, _, _, _, _, _, _, _, _, _, _, _, _, _, _, _, _, _, _, _, _, _, _] (by kernel_rfl) rfl) | (apply Walk.drawN (id := 15) tab_ok mixed_ok [] [] (hsU _) [_, _, _, _, _, _, _, _, _, _, _, _, _, _, _, _, _, _, _, _, _, _] (by kernel_rfl) rfl) | ((first | (with_reducible apply XNext.mk) | (refine XCall.ret hgc ?_) | (refine XInt.i64 (show _ ≤ gz - (moB b m).r by omega) (show gz - (moB b m).r ≤ _ by omega) ?_) | (refine XEqA.mk ⟨[(sp : Int), (st : Int)], [-1, -1], rfl, rfl, rfl, rfl, ?_⟩)); conv => whnf) | ((refine XHold.mk ⟨rfl, hcl, by unfold Room; constructor <;> (simp only [List.length_cons, List.length_nil]; omega)⟩ ?_); conv => whnf) | ((with_reducible apply XBr.mk') <;> (intro h; conv => whnf))
          · exfalso
            have h' : [(sp : Int), (st : Int)] = [-1, -1] := by simp at h
            injection h' with h1 h2; omega
          · rename_i hh
            rw [hms] at hh
            rw [if_pos hh] at hhit
            have hsp2 : spS b m (c.getD m default) (c.getD (m + 1) default) sp = some ((sp : Int), (st : Int)) := by rw [← htf]; exact fF_some hst hhit
            have hfs : fstC b m (c.getD m default) (c.getD (m + 1) default) = some ((sp : Int), (st : Int)) := by rw [← hsf]; exact fF_some hsp hsp2
            rw [hfs] at hnx
            refine XAgainG.go (m + 1, l ++ [((sp : Int), (st : Int))]) [.cells (moC (moB b m)), .cells [.int .i64 (-1), .int .i64 (-1)], .cells [natA sp, natA st]] ⟨by dsimp only; omega, hnx⟩ (by dsimp only; omega) ?_ ⟨rfl, rfl, rfl, rfl, rfl, rfl, ?_, rfl, trivial⟩
            · show [Blk.grow _ (l ++ [_]).isEmpty ((l ++ [_]).map prA)] ++ _ = _
              rw [isEmpty_app, List.map_append]; rfl
            · show some (AV.gr 0 (l.length + 1)) = _
              rw [List.length_append]; rfl
          · have hh := h
            rw [hms] at hh
            rw [if_neg hh] at hhit
            exact XAgain.go (st + 1) ⟨by omega, by omega, by rw [← htf]; exact (fF_none hst hhit).symm⟩ (by omega) rfl ⟨rfl, rfl, rfl, rfl, rfl, rfl, rfl, rfl, rfl, rfl, rfl, rfl, rfl, rfl, trivial⟩
        · have hst' : ¬ (st : Int) ≤ (b.months.getD m default).th := hst
          repeat' first | ((with_reducible first | apply XBr.tt | apply XBr.ff | apply Chk.go | apply ChkA.go | apply ChkF.go | apply ChkB.go | apply XArr.pim0 | apply XArr.pim1); conv => whnf) | (with_reducible apply XBr.not) | ((with_reducible apply XBr.dec) <;> (intro h; first | (exfalso; omega) | ((try simp only [List.length_map] at h); first | (exfalso; omega) | (conv => whnf)))) | ((with_reducible first | apply XBr.beq | apply XBr.bne) <;> (intro h; first | (exfalso; omega) | (conv => whnf))) | ((with_reducible refine XInt.i64 (by omega) (by omega) ?_); conv => whnf) | ((with_reducible refine XHold.mk ?_ ?_); (first | omega | rfl | decide | exact ⟨rfl, by decide, rfl⟩ | exact wideI _ | exact widePr _ | exact wideSk _ | (unfold Room; constructor <;> ((try simp) <;> omega)) | exact ⟨rfl, by simp only [List.length_map], by unfold Room; constructor <;> ((try simp) <;> omega)⟩ | exact ⟨by omega, by omega, by unfold Room; constructor <;> ((try simp) <;> omega)⟩); conv => whnf) | ((first | ((with_reducible refine XIx.nat ?_ ?_ ?_); omega; (intro _; rfl)) | ((with_reducible refine XIx.map ?_ ?_ ?_ ?_); omega; omega; (intro _; rfl))); conv => whnf) | (with_reducible apply XAnd.mk) | (exact XSame.mk rfl rfl) | (exact XSame.mk (by first | rfl | (simp only [List.map_append, List.length_append, List.length_map]; done) | (simp only [List.map_append, List.length_append, List.length_map]; rfl)) (by first | rfl | (simp only [List.map_append]; done) | (simp only [List.map_append]; rfl))) | (with_reducible exact trivial) | ((first | (with_reducible refine xdrop_app (by rw [List.length_map]; omega) ?_) | (with_reducible refine XDrop.desk (by assumption) ?_) | (with_reducible first | refine XArr.ints (by omega) (by omega) (by omega) ?_ | refine XArr.intsA (by omega) (by omega) (by omega) ?_) | ((with_reducible first | refine XArr.nats ?_ ?_ ?_ | refine XArr.natsA ?_ ?_ ?_ | refine XArr.ptr ?_ ?_ ?_); omega; omega)); conv => whnf) | (apply Walk.drawN (id := 1) tab_ok mixed_ok [] [] (hsU _) [_, _, _, _, _, _, _, _, _, _, _, _, _, _, _, _, _, _, _, _, _, _, _, _, _, _, _] (by kernel_rfl) rfl) | (apply Walk.drawN (id := 15) tab_ok mixed_ok [] [] (hsU _) [_, _, _, _, _, _, _, _, _, _, _, _, _, _, _, _, _, _, _, _, _, _] (by kernel_rfl) rfl) | ((with_reducible apply XNext.mk); conv => whnf) | ((with_reducible apply XBr.mk') <;> (intro h; conv => whnf))
          have hsp2 : spS b m (c.getD m default) (c.getD (m + 1) default) sp = none := by rw [← htf]; exact fF_end (by omega)
          exact XAgain.go (sp + 1) ⟨by omega, by omega, by rw [← hsf]; exact (fF_none hsp hsp2).symm⟩ (by omega) rfl ⟨rfl, rfl, rfl, rfl, rfl, rfl, rfl, rfl, rfl, rfl, rfl, rfl, rfl, trivial⟩
      · have hsp' : ¬ (sp : Int) ≤ (b.months.getD m default).ph := hsp
        repeat' first | ((with_reducible first | apply XBr.tt | apply XBr.ff | apply Chk.go | apply ChkA.go | apply ChkF.go | apply ChkB.go | apply XArr.pim0 | apply XArr.pim1); conv => whnf) | (with_reducible apply XBr.not) | ((with_reducible apply XBr.dec) <;> (intro h; first | (exfalso; omega) | ((try simp only [List.length_map] at h); first | (exfalso; omega) | (conv => whnf)))) | ((with_reducible first | apply XBr.beq | apply XBr.bne) <;> (intro h; first | (exfalso; omega) | (conv => whnf))) | ((with_reducible refine XInt.i64 (by omega) (by omega) ?_); conv => whnf) | ((with_reducible refine XHold.mk ?_ ?_); (first | omega | rfl | decide | exact ⟨rfl, by decide, rfl⟩ | exact wideI _ | exact widePr _ | exact wideSk _ | (unfold Room; constructor <;> ((try simp) <;> omega)) | exact ⟨rfl, by simp only [List.length_map], by unfold Room; constructor <;> ((try simp) <;> omega)⟩ | exact ⟨by omega, by omega, by unfold Room; constructor <;> ((try simp) <;> omega)⟩); conv => whnf) | ((first | ((with_reducible refine XIx.nat ?_ ?_ ?_); omega; (intro _; rfl)) | ((with_reducible refine XIx.map ?_ ?_ ?_ ?_); omega; omega; (intro _; rfl))); conv => whnf) | (with_reducible apply XAnd.mk) | (exact XSame.mk rfl rfl) | (exact XSame.mk (by first | rfl | (simp only [List.map_append, List.length_append, List.length_map]; done) | (simp only [List.map_append, List.length_append, List.length_map]; rfl)) (by first | rfl | (simp only [List.map_append]; done) | (simp only [List.map_append]; rfl))) | (with_reducible exact trivial) | ((first | (with_reducible refine xdrop_app (by rw [List.length_map]; omega) ?_) | (with_reducible refine XDrop.desk (by assumption) ?_) | (with_reducible first | refine XArr.ints (by omega) (by omega) (by omega) ?_ | refine XArr.intsA (by omega) (by omega) (by omega) ?_) | ((with_reducible first | refine XArr.nats ?_ ?_ ?_ | refine XArr.natsA ?_ ?_ ?_ | refine XArr.ptr ?_ ?_ ?_); omega; omega)); conv => whnf) | (apply Walk.drawN (id := 1) tab_ok mixed_ok [] [] (hsU _) [_, _, _, _, _, _, _, _, _, _, _, _, _, _, _, _, _, _, _, _, _, _, _, _, _, _, _] (by kernel_rfl) rfl) | (apply Walk.drawN (id := 15) tab_ok mixed_ok [] [] (hsU _) [_, _, _, _, _, _, _, _, _, _, _, _, _, _, _, _, _, _, _, _, _, _] (by kernel_rfl) rfl) | ((first | (with_reducible apply XNext.mk) | (refine XEqA.mk ⟨[-1, -1], [-1, -1], rfl, rfl, rfl, rfl, ?_⟩)); conv => whnf) | ((with_reducible apply XBr.mk') <;> (intro h; conv => whnf))
        · have hfs : fstC b m (c.getD m default) (c.getD (m + 1) default) = none := by rw [← hsf]; exact fF_end (by omega)
          rw [hfs] at hnx
          rw [hno hnx]; exact ⟨.low rfl⟩
        · exfalso; simp at h
    · obtain rfl : m = b.months.length := by omega
      rw [hk]
      repeat' first | ((with_reducible first | apply XBr.tt | apply XBr.ff | apply Chk.go | apply ChkA.go | apply ChkF.go | apply ChkB.go | apply XArr.pim0 | apply XArr.pim1); conv => whnf) | (with_reducible apply XBr.not) | ((with_reducible apply XBr.dec) <;> (intro h; first | (exfalso; omega) | ((try simp only [List.length_map] at h); first | (exfalso; omega) | (conv => whnf)))) | ((with_reducible first | apply XBr.beq | apply XBr.bne) <;> (intro h; first | (exfalso; omega) | (conv => whnf))) | ((with_reducible refine XInt.i64 (by omega) (by omega) ?_); conv => whnf) | ((with_reducible refine XHold.mk ?_ ?_); (first | omega | rfl | decide | exact ⟨rfl, by decide, rfl⟩ | exact wideI _ | exact widePr _ | exact wideSk _ | (unfold Room; constructor <;> ((try simp) <;> omega)) | exact ⟨rfl, by simp only [List.length_map], by unfold Room; constructor <;> ((try simp) <;> omega)⟩ | exact ⟨by omega, by omega, by unfold Room; constructor <;> ((try simp) <;> omega)⟩); conv => whnf) | ((first | ((with_reducible refine XIx.nat ?_ ?_ ?_); omega; (intro _; rfl)) | ((with_reducible refine XIx.map ?_ ?_ ?_ ?_); omega; omega; (intro _; rfl))); conv => whnf) | (with_reducible apply XAnd.mk) | (exact XSame.mk rfl rfl) | (exact XSame.mk (by first | rfl | (simp only [List.map_append, List.length_append, List.length_map]; done) | (simp only [List.map_append, List.length_append, List.length_map]; rfl)) (by first | rfl | (simp only [List.map_append]; done) | (simp only [List.map_append]; rfl))) | (with_reducible exact trivial) | ((first | (with_reducible refine xdrop_app (by rw [List.length_map]; omega) ?_) | (with_reducible refine XDrop.desk (by assumption) ?_) | (with_reducible first | refine XArr.ints (by omega) (by omega) (by omega) ?_ | refine XArr.intsA (by omega) (by omega) (by omega) ?_) | ((with_reducible first | refine XArr.nats ?_ ?_ ?_ | refine XArr.natsA ?_ ?_ ?_ | refine XArr.ptr ?_ ?_ ?_); omega; omega)); conv => whnf) | (apply Walk.drawN (id := 1) tab_ok mixed_ok [] [] (hsU _) [_, _, _, _, _, _, _, _, _, _, _, _, _, _, _, _, _, _, _, _, _, _, _, _, _, _, _] (by kernel_rfl) rfl) | (apply Walk.drawN (id := 15) tab_ok mixed_ok [] [] (hsU _) [_, _, _, _, _, _, _, _, _, _, _, _, _, _, _, _, _, _, _, _, _, _] (by kernel_rfl) rfl) | ((with_reducible apply XNext.mk); conv => whnf) | ((with_reducible apply XBr.mk') <;> (intro h; conv => whnf))
      exact ⟨Froz.tup (.cons (Froz.grow rfl hcl (chs_low _)) (.cons (.low rfl) .nil))⟩
def agrB (b : Bd) (c : List Int) : Bool := (chR b c).isSome && (List.range (b.months.length + 1)).all fun m => agB b alwP m (c.getD m default).toNat
def agreesA (b : Bd) (c : List Int) : AV := if courE b c ≠ 0 then .tup [.bool false, .int .i64 (courE b c)] else .tup [.bool (agrB b c), .int .i64 0]
theorem agrees_all_c (b : Bd) (nl : Bool) (c : List Int) (hm : b.months.length ≤ 100000) (hs : b.surveys.length ≤ 100000) (hl : c.length ≤ 100000) : Comp Try.prog 56 [bedA b, .sl nl (ints c)] (agreesA b c) := by
  have hco := coursed_c b nl c hm hs hl
  unfold courA at hco
  unfold agreesA
  by_cases hE : courE b c = 0
  · obtain ⟨ok, h1, h2⟩ := courE_iff.1 hE
    rw [if_neg (fun h => h hE)] at hco ⊢
    have hch := chances_c b ok.toBedOk nl c h1 h2
    have e2 : ((ints c).length : Int) = b.months.length + 1 := by rw [ints_len]; omega
    have hcx : ∃ x, chA' (chR b c) = .tup [x, .bool (chR b c).isSome] ∧ x.low 0 = true := by
      cases chR b c with
      | none => exact ⟨_, rfl, rfl⟩
      | some l => exact ⟨_, rfl, chs_low l⟩
    obtain ⟨x, hx1, hx2⟩ := hcx
    rw [hx1] at hch
    unfold agrB
    generalize (chR b c).isSome = r0 at hch
    have m2 := ok.m2
    refine Comp.body (T := tab) (res := [.tmp 4, .tmp 5]) tab_ok [] Try.func56 rfl (by kernel_rfl) Try.ntmps56 rfl (by simp only [List.length_cons, List.length_nil]; decide) (by simp only [lowL, bedL, AV.low, lowI]; rfl) ?_; conv => whnf
    repeat' first | ((with_reducible first | apply XBr.tt | apply XBr.ff | apply Chk.go | apply ChkA.go | apply ChkF.go | apply ChkB.go | apply XArr.pim0 | apply XArr.pim1); conv => whnf) | (with_reducible apply XBr.not) | ((with_reducible apply XBr.dec) <;> (intro h; first | (exfalso; omega) | ((try simp only [List.length_map] at h); first | (exfalso; omega) | (conv => whnf)))) | ((with_reducible first | apply XBr.beq | apply XBr.bne) <;> (intro h; first | (exfalso; omega) | (conv => whnf))) | ((with_reducible refine XInt.i64 (by omega) (by omega) ?_); conv => whnf) | ((with_reducible refine XHold.mk ?_ ?_); (first | omega | rfl | decide | exact ⟨rfl, by decide, rfl⟩ | exact wideI _ | exact widePr _ | exact wideSk _ | (unfold Room; constructor <;> ((try simp) <;> omega)) | exact ⟨rfl, by simp only [List.length_map], by unfold Room; constructor <;> ((try simp) <;> omega)⟩ | exact ⟨by omega, by omega, by unfold Room; constructor <;> ((try simp) <;> omega)⟩); conv => whnf) | ((first | ((with_reducible refine XIx.nat ?_ ?_ ?_); omega; (intro _; rfl)) | ((with_reducible refine XIx.map ?_ ?_ ?_ ?_); omega; omega; (intro _; rfl))); conv => whnf) | (with_reducible apply XAnd.mk) | (exact XSame.mk rfl rfl) | (exact XSame.mk (by first | rfl | (simp only [List.map_append, List.length_append, List.length_map]; done) | (simp only [List.map_append, List.length_append, List.length_map]; rfl)) (by first | rfl | (simp only [List.map_append]; done) | (simp only [List.map_append]; rfl))) | (with_reducible exact trivial) | ((first | (with_reducible refine xdrop_app (by rw [List.length_map]; omega) ?_) | (with_reducible refine XDrop.desk (by assumption) ?_) | (with_reducible first | refine XArr.ints (by omega) (by omega) (by omega) ?_ | refine XArr.intsA (by omega) (by omega) (by omega) ?_) | ((with_reducible first | refine XArr.nats ?_ ?_ ?_ | refine XArr.natsA ?_ ?_ ?_ | refine XArr.ptr ?_ ?_ ?_); omega; omega) | (with_reducible apply XNext.mk) | (refine XCall.ret hco ?_) | (refine XCall.ret hch ?_)); conv => whnf) | ((with_reducible apply XBr.mk') <;> (intro h; conv => whnf))
    refine Walk.loopK tab_ok [] [(4, _), (5, _), (6, _), (27, _), (28, _)] ⟨rfl, rfl, rfl, rfl, rfl, trivial⟩ (fun m : Nat => m ≤ b.months.length + 1) (fun m => [(9, .bool (r0 && (List.range m).all fun m => agB b alwP m (c.getD m default).toNat)), (29, natA m)]) (fun _ => []) (fun m => b.months.length + 1 - m) 0 (Nat.zero_le _) rfl ⟨by show some (AV.bool r0) = some (AV.bool (r0 && true)); rw [Bool.and_true], rfl, trivial⟩ ?_
    intro m hm
    have hnx : ((List.range (m + 1)).all fun m => agB b alwP m (c.getD m default).toNat) = (((List.range m).all fun m => agB b alwP m (c.getD m default).toNat) && agB b alwP m (c.getD m default).toNat) := by
      rw [List.range_succ, List.all_append, List.all_cons, List.all_nil, Bool.and_true]
    by_cases hlt : m < b.months.length + 1
    · have hv := h2 (c.getD m default) (getD_mem (by omega))
      have hag := bAgrees_c b ok 180 [] alwP (allF_c b) m (c.getD m default).toNat
      have hvn : (((c.getD m default).toNat : Nat) : Int) = c.getD m default := by omega
      have hag' : Comp Try.prog 131 [dskA b, fltA 180 [], natA m, .int .i64 (c.getD m default)] (.bool (agB b alwP m (c.getD m default).toNat)) := by rw [← hvn] at hag ⊢; exact hag
      generalize ((List.range m).all fun m => agB b alwP m (c.getD m default).toNat) = s at hnx
      generalize agB b alwP m (c.getD m default).toNat = t at hag' hnx
      generalize hq : (r0 && s) = q
      conv => whnf
      cases q
      all_goals
        repeat' first | ((with_reducible first | apply XBr.tt | apply XBr.ff | apply Chk.go | apply ChkA.go | apply ChkF.go | apply ChkB.go | apply XArr.pim0 | apply XArr.pim1); conv => whnf) | (with_reducible apply XBr.not) | ((with_reducible apply XBr.dec) <;> (intro h; first | (exfalso; omega) | ((try simp only [List.length_map] at h); first | (exfalso; omega) | (conv => whnf)))) | ((with_reducible first | apply XBr.beq | apply XBr.bne) <;> (intro h; first | (exfalso; omega) | (conv => whnf))) | ((with_reducible refine XInt.i64 (by omega) (by omega) ?_); conv => whnf) | ((with_reducible refine XHold.mk ?_ ?_); (first | omega | rfl | decide | exact ⟨rfl, by decide, rfl⟩ | exact wideI _ | exact widePr _ | exact wideSk _ | (unfold Room; constructor <;> ((try simp) <;> omega)) | exact ⟨rfl, by simp only [List.length_map], by unfold Room; constructor <;> ((try simp) <;> omega)⟩ | exact ⟨by omega, by omega, by unfold Room; constructor <;> ((try simp) <;> omega)⟩); conv => whnf) | ((first | ((with_reducible refine XIx.nat ?_ ?_ ?_); omega; (intro _; rfl)) | ((with_reducible refine XIx.map ?_ ?_ ?_ ?_); omega; omega; (intro _; rfl))); conv => whnf) | (with_reducible apply XAnd.mk) | (exact XSame.mk rfl rfl) | (exact XSame.mk (by first | rfl | (simp only [List.map_append, List.length_append, List.length_map]; done) | (simp only [List.map_append, List.length_append, List.length_map]; rfl)) (by first | rfl | (simp only [List.map_append]; done) | (simp only [List.map_append]; rfl))) | (with_reducible exact trivial) | ((first | (with_reducible refine xdrop_app (by rw [List.length_map]; omega) ?_) | (with_reducible refine XDrop.desk (by assumption) ?_) | (with_reducible first | refine XArr.ints (by omega) (by omega) (by omega) ?_ | refine XArr.intsA (by omega) (by omega) (by omega) ?_) | ((with_reducible first | refine XArr.nats ?_ ?_ ?_ | refine XArr.natsA ?_ ?_ ?_ | refine XArr.ptr ?_ ?_ ?_); omega; omega) | (with_reducible apply XNext.mk) | (refine XCall.ret bAll_c ?_) | (refine XCall.ret hag' ?_)); conv => whnf) | ((with_reducible apply XBr.mk') <;> (intro h; conv => whnf))
      · refine XAgain.go (m + 1) (by omega) (by omega) rfl ⟨rfl, rfl, rfl, rfl, rfl, ?_, rfl, trivial⟩
        show some (AV.bool false) = _
        rw [hnx, ← Bool.and_assoc, hq]; rfl
      · refine XAgain.go (m + 1) (by omega) (by omega) rfl ⟨rfl, rfl, rfl, rfl, rfl, ?_, rfl, trivial⟩
        show some (AV.bool t) = _
        rw [hnx, ← Bool.and_assoc, hq]; rfl
    · obtain rfl : m = b.months.length + 1 := by omega
      conv => whnf
      repeat' first | ((with_reducible first | apply XBr.tt | apply XBr.ff | apply Chk.go | apply ChkA.go | apply ChkF.go | apply ChkB.go | apply XArr.pim0 | apply XArr.pim1); conv => whnf) | (with_reducible apply XBr.not) | ((with_reducible apply XBr.dec) <;> (intro h; first | (exfalso; omega) | ((try simp only [List.length_map] at h); first | (exfalso; omega) | (conv => whnf)))) | ((with_reducible first | apply XBr.beq | apply XBr.bne) <;> (intro h; first | (exfalso; omega) | (conv => whnf))) | ((with_reducible refine XInt.i64 (by omega) (by omega) ?_); conv => whnf) | ((with_reducible refine XHold.mk ?_ ?_); (first | omega | rfl | decide | exact ⟨rfl, by decide, rfl⟩ | exact wideI _ | exact widePr _ | exact wideSk _ | (unfold Room; constructor <;> ((try simp) <;> omega)) | exact ⟨rfl, by simp only [List.length_map], by unfold Room; constructor <;> ((try simp) <;> omega)⟩ | exact ⟨by omega, by omega, by unfold Room; constructor <;> ((try simp) <;> omega)⟩); conv => whnf) | ((first | ((with_reducible refine XIx.nat ?_ ?_ ?_); omega; (intro _; rfl)) | ((with_reducible refine XIx.map ?_ ?_ ?_ ?_); omega; omega; (intro _; rfl))); conv => whnf) | (with_reducible apply XAnd.mk) | (exact XSame.mk rfl rfl) | (exact XSame.mk (by first | rfl | (simp only [List.map_append, List.length_append, List.length_map]; done) | (simp only [List.map_append, List.length_append, List.length_map]; rfl)) (by first | rfl | (simp only [List.map_append]; done) | (simp only [List.map_append]; rfl))) | (with_reducible exact trivial) | ((first | (with_reducible refine xdrop_app (by rw [List.length_map]; omega) ?_) | (with_reducible refine XDrop.desk (by assumption) ?_) | (with_reducible first | refine XArr.ints (by omega) (by omega) (by omega) ?_ | refine XArr.intsA (by omega) (by omega) (by omega) ?_) | ((with_reducible first | refine XArr.nats ?_ ?_ ?_ | refine XArr.natsA ?_ ?_ ?_ | refine XArr.ptr ?_ ?_ ?_); omega; omega) | (with_reducible apply XNext.mk)); conv => whnf) | ((with_reducible apply XBr.mk') <;> (intro h; conv => whnf))
      exact ⟨.low rfl⟩
  · rw [if_pos hE] at hco ⊢
    generalize courE b c = e at hco hE
    refine Comp.body (T := tab) (res := [.tmp 4, .tmp 5]) tab_ok [] Try.func56 rfl (by kernel_rfl) Try.ntmps56 rfl (by simp only [List.length_cons, List.length_nil]; decide) (by simp only [lowL, bedL, AV.low, lowI]; rfl) ?_; conv => whnf
    repeat' first | ((with_reducible first | apply XBr.tt | apply XBr.ff | apply Chk.go | apply ChkA.go | apply ChkF.go | apply ChkB.go | apply XArr.pim0 | apply XArr.pim1); conv => whnf) | (with_reducible apply XBr.not) | ((with_reducible apply XBr.dec) <;> (intro h; first | (exfalso; omega) | ((try simp only [List.length_map] at h); first | (exfalso; omega) | (conv => whnf)))) | ((with_reducible first | apply XBr.beq | apply XBr.bne) <;> (intro h; first | (exfalso; omega) | (conv => whnf))) | ((with_reducible refine XInt.i64 (by omega) (by omega) ?_); conv => whnf) | ((with_reducible refine XHold.mk ?_ ?_); (first | omega | rfl | decide | exact ⟨rfl, by decide, rfl⟩ | exact wideI _ | exact widePr _ | exact wideSk _ | (unfold Room; constructor <;> ((try simp) <;> omega)) | exact ⟨rfl, by simp only [List.length_map], by unfold Room; constructor <;> ((try simp) <;> omega)⟩ | exact ⟨by omega, by omega, by unfold Room; constructor <;> ((try simp) <;> omega)⟩); conv => whnf) | ((first | ((with_reducible refine XIx.nat ?_ ?_ ?_); omega; (intro _; rfl)) | ((with_reducible refine XIx.map ?_ ?_ ?_ ?_); omega; omega; (intro _; rfl))); conv => whnf) | (with_reducible apply XAnd.mk) | (exact XSame.mk rfl rfl) | (exact XSame.mk (by first | rfl | (simp only [List.map_append, List.length_append, List.length_map]; done) | (simp only [List.map_append, List.length_append, List.length_map]; rfl)) (by first | rfl | (simp only [List.map_append]; done) | (simp only [List.map_append]; rfl))) | (with_reducible exact trivial) | ((first | (with_reducible refine xdrop_app (by rw [List.length_map]; omega) ?_) | (with_reducible refine XDrop.desk (by assumption) ?_) | (with_reducible first | refine XArr.ints (by omega) (by omega) (by omega) ?_ | refine XArr.intsA (by omega) (by omega) (by omega) ?_) | ((with_reducible first | refine XArr.nats ?_ ?_ ?_ | refine XArr.natsA ?_ ?_ ?_ | refine XArr.ptr ?_ ?_ ?_); omega; omega) | (with_reducible apply XNext.mk) | (refine XCall.ret hco ?_)); conv => whnf) | ((with_reducible apply XBr.mk') <;> (intro h; conv => whnf))
    exact ⟨.low rfl⟩
end GA
end

section
namespace GA
open Go Go.RowKit Go.Proofs
set_option pp.deepTerms true
set_option maxRecDepth 8000
set_option linter.unusedVariables false
set_option linter.unusedSimpArgs false

theorem fF_ex {α : Type} {f : Nat → Option α} {hi : Int} : ∀ (d c n : Nat), n - c = d → c ≤ n → (n : Int) ≤ hi → f n ≠ none → fF f c hi ≠ none
  | d, c, n, hd, h1, h2, h3 => by
    cases hc : f c with
    | some x => rw [fF_some (by omega) hc]; simp
    | none =>
      have hne : n ≠ c := fun e => h3 (e ▸ hc)
      rw [fF_none (by omega) hc]
      exact fF_ex (n - (c + 1)) (c + 1) n rfl (by omega) h2 h3
  termination_by d => d
  decreasing_by omega
theorem fstC_ex {b : Bd} (ok : BedOk b) {m : Nat} (hm : m < b.months.length) {a k sp st : Int} (h1 : (moB b m).pl ≤ sp) (h2 : sp ≤ (moB b m).ph) (h3 : (moB b m).tl ≤ st) (h4 : st ≤ (moB b m).th) (h : grossR b.room (moB b m).g a sp st - (moB b m).r = k) : fstC b m a k ≠ none := by
  have hmo := ok.mo' hm
  refine fF_ex _ _ sp.toNat rfl (by omega) (by omega) (fF_ex _ _ st.toNat rfl (by omega) (by omega) ?_)
  unfold stS hitB
  rw [Int.toNat_of_nonneg (by omega), Int.toNat_of_nonneg (by omega), if_pos (by rw [h]; exact beq_self_eq_true _)]; simp
def AlongC (b : Bd) (c : List Int) (ch : List (Int × Int)) (k : Nat) : Prop := ∀ m, m < k → (moB b m).pl ≤ (ch.getD m default).1 ∧ (ch.getD m default).1 ≤ (moB b m).ph ∧ (moB b m).tl ≤ (ch.getD m default).2 ∧ (ch.getD m default).2 ≤ (moB b m).th ∧ grossR b.room (moB b m).g (c.getD m default) (ch.getD m default).1 (ch.getD m default).2 - (moB b m).r = c.getD (m + 1) default
structure RealB (b : Bd) (re : List Int) (ch : List (Int × Int)) : Prop where
  b0 : ∀ x ∈ re, 0 ≤ x ∧ x ≤ b.room
  st : b.first - b.unsure ≤ re.getD 0 default ∧ re.getD 0 default ≤ b.first + b.unsure
  al : AlongC b re ch b.months.length
theorem getD_app {α : Type} {l : List α} {x d : α} {i k : Nat} (hk : l.length = k) : (l ++ [x]).getD i d = if i < k then l.getD i d else if i = k then x else d := by
  rw [List.getD_eq_getElem?_getD]
  by_cases h : i < k
  · rw [if_pos h, List.getElem?_append_left (by omega), ← List.getD_eq_getElem?_getD]
  · rw [if_neg h]
    by_cases h2 : i = k
    · subst h2; rw [if_pos rfl, List.getElem?_append_right (by omega), hk, Nat.sub_self]; rfl
    · rw [if_neg h2, List.getElem?_eq_none (by simp; omega)]; rfl
structure MdRe (R : Int) (s : MdB) (k : Nat) (n0 : Int) : Prop where
  now : s.re.getD k default = s.now
  fst : s.re.getD 0 default = n0
  b : ∀ x ∈ s.re, 0 ≤ x ∧ x ≤ R
  al : ∀ m, m < k → (s.ms.getD m default).pl ≤ (s.ch.getD m default).1 ∧ (s.ch.getD m default).1 ≤ (s.ms.getD m default).ph ∧ (s.ms.getD m default).tl ≤ (s.ch.getD m default).2 ∧ (s.ch.getD m default).2 ≤ (s.ms.getD m default).th ∧ grossR R (s.ms.getD m default).g (s.re.getD m default) (s.ch.getD m default).1 (s.ch.getD m default).2 - (s.ms.getD m default).r = s.re.getD (m + 1) default
theorem MdRe.step {R : Int} {s : MdB} {k : Nat} {n0 : Int} (o : MdOk R s k) (h : MdRe R s k n0) : MdRe R (mdBS R s) (k + 1) n0 := by
  have h1 := mdN_b o
  have h2 := mdR_b o
  have hc := mdC_b s.u
  have hml := o.ml
  have hrl := o.rl
  have hcl := o.cl
  unfold mdBS
  refine ⟨?_, ?_, ?_, ?_⟩
  · dsimp only; rw [getD_app hrl, if_neg (by omega), if_pos rfl]
  · dsimp only; rw [getD_app hrl, if_pos (by omega)]; exact h.fst
  · dsimp only
    intro x hx
    rw [List.mem_append, List.mem_singleton] at hx
    rcases hx with hx | rfl
    · exact h.b x hx
    · omega
  · dsimp only
    intro m hm
    rw [getD_app hml, getD_app hrl, getD_app hcl, getD_app hrl]
    by_cases hmk : m = k
    · subst hmk
      rw [if_neg (by omega), if_pos rfl, if_neg (by omega), if_pos rfl, if_pos (by omega), if_neg (by omega), if_pos rfl, h.now]
      exact ⟨hc.1, hc.2.1, hc.2.2.1, hc.2.2.2, rfl⟩
    · rw [if_pos (by omega), if_pos (by omega), if_pos (by omega), if_pos (by omega)]
      exact h.al m (by omega)
theorem mdBK_re {R : Int} {s : MdB} (o : MdOk R s 0) (h : MdRe R s 0 s.now) : ∀ k, MdRe R (mdBK R s k) k s.now
  | 0 => h
  | k + 1 => by rw [mdBK_succ]; exact (mdBK_re o h k).step (mdBK_ok o k)
theorem made_real {u : Hp} (uo : u.Ok) {room months : Int} (h1 : 2 ≤ room) (h2 : room ≤ 100) (h3 : 1 ≤ months) (h4 : months ≤ 10) :
    ∃ b re ch u1, HpOk 19 [.int .i64 room, .int .i64 months] u (.tup [bedA b, .sl false (ints re), .sl ch.isEmpty (ch.map prA)]) u1 ∧ MadeB room months b re ch ∧ u1.Ok ∧ RealB b re ch := by
  have e := mdBK_ok (mdS0_ok uo h1) (mdMany u months).toNat
  have bo := madeB_ok uo (room := room) (months := months) h1 h2 h3 h4
  have g4 := modV_bound (mdH u) (months - 1)
  have hn := mdS0_ok uo h1
  have hre := mdBK_re hn ⟨rfl, rfl, fun x hx => by
    have : x = mdNow u room := by simpa [mdS0] using hx
    rw [this]
    have := hn.n0; have := hn.n1
    exact ⟨hn.n0, hn.n1⟩, fun m hm => by omega⟩ (mdMany u months).toNat
  have hml := e.ml
  refine ⟨_, _, _, _, bedMade_c u room months uo h1 h2 h3 h4, ⟨⟨bo, by show ([] : List Su).length ≤ 8; simp, fun s hs => by cases hs⟩, rfl, rfl, ?_, ?_, ?_, ?_⟩, e.u, ⟨hre.b, ?_, fun m hm => ?_⟩⟩
  · have := modV_bound u (room - 2)
    show mdRoom _ _ ≤ room
    unfold mdRoom; omega
  · have := e.ml
    show (((mdBK _ _ _).ms.length : Nat) : Int) ≤ months
    rw [this]; unfold mdMany; omega
  · show (mdBK _ _ _).re.length = (mdBK _ _ _).ms.length + 1
    rw [e.rl, e.ml]
  · show (mdBK _ _ _).ch.length = (mdBK _ _ _).ms.length
    rw [e.cl, e.ml]
  · show mdFst u room - mdUns u ≤ (mdBK _ _ _).re.getD 0 default ∧ (mdBK _ _ _).re.getD 0 default ≤ mdFst u room + mdUns u
    rw [hre.fst]
    show mdFst u room - mdUns u ≤ mdNow u room ∧ mdNow u room ≤ mdFst u room + mdUns u
    have a1 := bo.f1
    have a2 := bo.f2
    have a3 := bo.u1
    have a5 : 0 ≤ mdFst u room := a1
    have a6 : mdFst u room ≤ mdRoom u room := a2
    have a7 : 0 ≤ mdUns u := a3
    have a4 := modV_bound (hpS (hpS (hpS u))) (mdUns u - (0 - mdUns u))
    unfold mdNow; omega
  · have hm' : m < (mdMany u months).toNat := by
      have : m < (mdBK _ _ _).ms.length := hm
      rwa [hml] at this
    exact hre.al m hm'
end GA
end

section
namespace GA
open Go Go.RowKit Go.Proofs
set_option maxRecDepth 8000
set_option linter.unusedVariables false
set_option linter.unusedSimpArgs false

structure Crs (b : Bd) (p : Nat → Bool) (c : Nat → Nat) : Prop where
  st : inZ (c 0 : Nat) (b.first - b.unsure) (b.first + b.unsure) = true
  rm : ∀ m, m ≤ b.months.length → (c m : Int) ≤ b.room
  ag : ∀ m, m ≤ b.months.length → agB b p m (c m) = true
  nx : ∀ m, m < b.months.length → c (m + 1) ∈ lvL b m (c m)
theorem Crs.ah {b : Bd} {p : Nat → Bool} {c : Nat → Nat} (h : Crs b p c) : ∀ k, k ≤ b.months.length → ahB b p k (c (b.months.length - k)) = true
  | 0, _ => h.ag _ (Nat.le_refl _)
  | k + 1, hk => by
    have ih := h.ah k (by omega)
    rw [ahB, Bool.and_eq_true, List.any_eq_true]
    refine ⟨⟨c (b.months.length - k), ?_, ih⟩, h.ag _ (by omega)⟩
    have := h.nx (b.months.length - (k + 1)) (by omega)
    rwa [show b.months.length - (k + 1) + 1 = b.months.length - k by omega] at this
theorem Crs.af {b : Bd} {p : Nat → Bool} {c : Nat → Nat} (h : Crs b p c) {m : Nat} (hm : m ≤ b.months.length) : ahF b p m (c m) = true := by
  unfold ahF
  have := h.ah (b.months.length - m) (by omega)
  rw [show b.months.length - (b.months.length - m) = m by omega] at this
  rw [this, decide_eq_true (h.rm m hm)]; rfl
theorem Crs.cn {b : Bd} {p : Nat → Bool} {c : Nat → Nat} (hr : b.room ≤ 120) (h : Crs b p c) : ∀ m, m ≤ b.months.length → cnB b p m (c m) = true
  | 0, _ => by rw [cnB, h.af (Nat.zero_le _), h.st]; rfl
  | m + 1, hm => by
    have ih := h.cn hr m (by omega)
    rw [cnB, h.af hm, Bool.and_true, List.any_eq_true]
    refine ⟨c m, List.mem_range.2 (by have := h.rm m (by omega); omega), ?_⟩
    rw [ih, Bool.true_and, List.contains_iff_mem]
    exact h.nx m (by omega)
theorem ah_room {b : Bd} (ok : BedOk b) {m n k : Nat} (hm : m < b.months.length) (hk : k ∈ lvL b m n) : (k : Int) ≤ b.room := by
  obtain ⟨sp, st, h1, h2⟩ := (mem_lv ok hm).1 hk
  have := grC_b ok hm (n := n) h1
  have := ok.mo' hm
  omega
theorem ah_course {b : Bd} (ok : BedOk b) {p : Nat → Bool} : ∀ (k n : Nat), k ≤ b.months.length → (n : Int) ≤ b.room → ahB b p k n = true →
    ∃ c : Nat → Nat, c (b.months.length - k) = n ∧ ∀ m, b.months.length - k ≤ m → m ≤ b.months.length → (c m : Int) ≤ b.room ∧ agB b p m (c m) = true ∧ (m < b.months.length → c (m + 1) ∈ lvL b m (c m))
  | 0, n, _, hn, h => ⟨fun _ => n, rfl, fun m h1 h2 => by
      obtain rfl : m = b.months.length := by omega
      exact ⟨hn, h, fun h => by omega⟩⟩
  | k + 1, n, hk, hn, h => by
    rw [ahB, Bool.and_eq_true, List.any_eq_true] at h
    obtain ⟨⟨j, h1, h2⟩, h3⟩ := h
    obtain ⟨c, e, hc⟩ := ah_course ok k j (by omega) (ah_room ok (by omega) h1) h2
    refine ⟨fun m => if m = b.months.length - (k + 1) then n else c m, if_pos rfl, fun m q1 q2 => ?_⟩
    dsimp only
    rw [if_neg (show ¬ m + 1 = b.months.length - (k + 1) by omega)]
    by_cases hm : m = b.months.length - (k + 1)
    · rw [if_pos hm]
      subst hm
      refine ⟨hn, h3, fun _ => ?_⟩
      rw [show b.months.length - (k + 1) + 1 = b.months.length - k by omega, e]; exact h1
    · rw [if_neg hm]; exact hc m (by omega) q2
theorem cn_begin {b : Bd} (ok : BedOk b) {p : Nat → Bool} : ∀ (m n : Nat), m ≤ b.months.length → cnB b p m n = true →
    ∃ c : Nat → Nat, c m = n ∧ inZ (c 0 : Nat) (b.first - b.unsure) (b.first + b.unsure) = true ∧ (∀ i, i ≤ m → (c i : Int) ≤ b.room ∧ agB b p i (c i) = true) ∧ ∀ i, i < m → c (i + 1) ∈ lvL b i (c i)
  | 0, n, _, h => by
    have hr := cnB_room h
    have hf := cn_ah h
    rw [cnB, Bool.and_eq_true] at h
    refine ⟨fun _ => n, rfl, h.2, fun i hi => ⟨hr, ?_⟩, fun i hi => by omega⟩
    obtain rfl : i = 0 := by omega
    unfold ahF at hf
    rw [Bool.and_eq_true] at hf
    have hf := hf.2
    cases hk : b.months.length - 0 with
    | zero => rw [hk] at hf; rw [ahB] at hf; rwa [show b.months.length = 0 by omega] at hf
    | succ k => rw [hk, ahB, Bool.and_eq_true] at hf; have := hf.2; rwa [show b.months.length - (k + 1) = 0 by omega] at this
  | m + 1, n, hm, h => by
    have hr := cnB_room h
    have hf := cn_ah h
    rw [cnB, Bool.and_eq_true, List.any_eq_true] at h
    obtain ⟨⟨j, -, h1⟩, -⟩ := h
    rw [Bool.and_eq_true, List.contains_iff_mem] at h1
    obtain ⟨c, e, q1, q2, q3⟩ := cn_begin ok m j (by omega) h1.1
    refine ⟨fun i => if i = m + 1 then n else c i, if_pos rfl, ?_, fun i hi => ?_, fun i hi => ?_⟩
    · dsimp only; rw [if_neg (by omega)]; exact q1
    · dsimp only
      by_cases hi2 : i = m + 1
      · rw [if_pos hi2]; subst hi2
        refine ⟨hr, ?_⟩
        unfold ahF at hf
        rw [Bool.and_eq_true] at hf
        have hf := hf.2
        cases hk : b.months.length - (m + 1) with
        | zero => rw [hk, ahB] at hf; rwa [show b.months.length = m + 1 by omega] at hf
        | succ k => rw [hk, ahB, Bool.and_eq_true] at hf; have := hf.2; rwa [show b.months.length - (k + 1) = m + 1 by omega] at this
      · rw [if_neg hi2]; exact q2 i (by omega)
    · dsimp only
      rw [if_neg (show ¬ i = m + 1 by omega)]
      by_cases hi2 : i = m
      · rw [if_pos (by omega)]; subst hi2; rw [e]; exact h1.2
      · rw [if_neg (by omega)]; exact q3 i (by omega)
theorem cn_course {b : Bd} (ok : BedOk b) {p : Nat → Bool} {m n : Nat} (hm : m ≤ b.months.length) (h : cnB b p m n = true) : ∃ c, Crs b p c ∧ c m = n := by
  have hf := cn_ah h
  have hr := cnB_room h
  unfold ahF at hf
  rw [Bool.and_eq_true] at hf
  obtain ⟨c, e, q1, q2, q3⟩ := cn_begin ok m n hm h
  obtain ⟨d, e2, q4⟩ := ah_course ok (b.months.length - m) n (by omega) hr hf.2
  rw [show b.months.length - (b.months.length - m) = m by omega] at e2 q4
  refine ⟨fun i => if i ≤ m then c i else d i, ⟨?_, fun i hi => ?_, fun i hi => ?_, fun i hi => ?_⟩, by dsimp only; rw [if_pos (Nat.le_refl _), e]⟩
  · rw [if_pos (Nat.zero_le _)]; exact q1
  · split
    · exact (q2 i (by omega)).1
    · exact (q4 i (by omega) hi).1
  · split
    · exact (q2 i (by omega)).2
    · exact (q4 i (by omega) hi).2.1
  · skip
    by_cases h1 : i + 1 ≤ m
    · rw [if_pos h1, if_pos (by omega)]; exact q3 i (by omega)
    · rw [if_neg h1]
      by_cases h2 : i ≤ m
      · obtain rfl : i = m := by omega
        rw [if_pos h2, e, ← e2]
        exact (q4 i (by omega) (by omega)).2.2 hi
      · rw [if_neg h2]; exact (q4 i (by omega) (by omega)).2.2 hi
theorem cn_iff {b : Bd} (ok : BedOk b) {p : Nat → Bool} {m n : Nat} (hm : m ≤ b.months.length) : cnB b p m n = true ↔ ∃ c, Crs b p c ∧ c m = n :=
  ⟨cn_course ok hm, fun ⟨c, h, e⟩ => by rw [← e]; exact h.cn ok.r2 m hm⟩
theorem none_iff {b : Bd} (ok : BedOk b) {p : Nat → Bool} : noneB b p = false ↔ ∃ c, Crs b p c := by
  rw [← Bool.not_eq_true, noneB_iff]
  constructor
  · intro h
    cases hx : (List.range 121).all fun n => !cnB b p 0 n with
    | true => exact absurd (fun n hn => by have := List.all_eq_true.1 hx n (List.mem_range.2 hn); simpa using this) h
    | false =>
      rw [List.all_eq_false] at hx
      obtain ⟨n, hn, hc⟩ := hx
      obtain ⟨c, hc2, -⟩ := cn_course (p := p) ok (m := 0) (n := n) (Nat.zero_le _) (by simpa using hc)
      exact ⟨c, hc2⟩
  · rintro ⟨c, hc⟩ h
    have h1 := hc.cn ok.r2 0 (Nat.zero_le _)
    have h2 := h (c 0) (by have := hc.rm 0 (Nat.zero_le _); have := ok.r2; omega)
    rw [h1] at h2; cases h2
structure SameB (b c : Bd) : Prop where
  r : b.room = c.room
  f : b.first = c.first
  u : b.unsure = c.unsure
  m : b.months = c.months
theorem SameB.lv {b c : Bd} (h : SameB b c) (m n : Nat) : lvL b m n = lvL c m n := by
  unfold lvL loR hiR lieR moB
  rw [h.r, h.m]
theorem Crs.other {b b' : Bd} {p p' : Nat → Bool} {c : Nat → Nat} (h : Crs b p c) (e : SameB b b') (hag : ∀ m, m ≤ b.months.length → agB b p m (c m) = true → agB b' p' m (c m) = true) : Crs b' p' c :=
  ⟨by rw [← e.f, ← e.u]; exact h.st, fun m hm => by rw [← e.r]; exact h.rm m (by rw [e.m]; exact hm), fun m hm => hag m (by rw [e.m]; exact hm) (h.ag m (by rw [e.m]; exact hm)), fun m hm => by rw [← e.lv]; exact h.nx m (by rw [e.m]; exact hm)⟩
theorem RealB.nx {b : Bd} (ok : BedOk b) {re : List Int} {ch : List (Int × Int)} (h : RealB b re ch) (hl : re.length = b.months.length + 1) {m : Nat} (hm : m < b.months.length) : (re.getD (m + 1) default).toNat ∈ lvL b m (re.getD m default).toNat := by
  obtain ⟨a1, a2, a3, a4, a5⟩ := h.al m hm
  have b1 := h.b0 _ (getD_mem (xs := re) (d := default) (i := m) (by omega))
  have b2 := h.b0 _ (getD_mem (xs := re) (d := default) (i := m + 1) (by omega))
  refine (mem_lv ok hm).2 ⟨_, _, ⟨a1, a2, a3, a4⟩, ?_⟩
  unfold grC
  rw [Int.toNat_of_nonneg b1.1, Int.toNat_of_nonneg b2.1]
  exact a5
theorem RealB.crs {b : Bd} (ok : BedOk b) {re : List Int} {ch : List (Int × Int)} (h : RealB b re ch) (hl : re.length = b.months.length + 1) {b' : Bd} (e : SameB b b') {p : Nat → Bool} (hag : ∀ m, m ≤ b.months.length → agB b' p m (re.getD m default).toNat = true) : Crs b' p fun m => (re.getD m default).toNat := by
  have hb : ∀ m, m ≤ b.months.length → 0 ≤ re.getD m default ∧ re.getD m default ≤ b.room := fun m hm => h.b0 _ (getD_mem (by omega))
  refine ⟨?_, fun m hm => ?_, fun m hm => hag m (by rw [e.m]; exact hm), fun m hm => ?_⟩
  · have := hb 0 (Nat.zero_le _)
    rw [Int.toNat_of_nonneg this.1, ← e.f, ← e.u]
    exact inZ_iff.2 h.st
  · have := hb m (by rw [e.m]; exact hm)
    rw [Int.toNat_of_nonneg this.1, ← e.r]; exact this.2
  · rw [← e.lv]; exact h.nx ok hl (by rw [e.m]; exact hm)
end GA
end

section
namespace GA
open Go Go.RowKit Go.Proofs
set_option pp.deepTerms true
set_option maxRecDepth 8000
set_option linter.unusedVariables false
set_option linter.unusedSimpArgs false

structure EI (c : Int) (G : Nat → Bool) (d : Prop) : Prop where
  lo : ∀ k : Nat, G k = true → c ≤ k
  dn : d → 0 ≤ c ∧ G c.toNat = true
theorem EI.put {c : Int} {G : Nat → Bool} {d d' : Prop} (h : EI c G d) {v : Nat} (hv : c ≤ v) (hd : d' → d ∨ (v : Int) = c) : EI c (updV G v true) d' := by
  refine ⟨fun k hk => ?_, fun x => ?_⟩
  · unfold updV at hk
    split at hk
    · rename_i e; subst e; exact hv
    · exact h.lo k hk
  · unfold updV
    rcases hd x with h1 | h1
    · obtain ⟨h2, h3⟩ := h.dn h1
      refine ⟨h2, ?_⟩
      split <;> first | rfl | exact h3
    · exact ⟨by omega, by rw [if_pos (by omega)]⟩
end GA
end

section
namespace GA
open Go Go.RowKit Go.Proofs
set_option pp.deepTerms true
set_option maxRecDepth 8000
set_option linter.unusedVariables false
set_option linter.unusedSimpArgs false

def bzero : List AV := [.int .i64 0, .int .i64 0, .int .i64 0, .sl true [], .sl true []]
end GA
end

section
namespace GA
open Go Go.RowKit Go.Proofs
set_option pp.deepTerms true
set_option maxRecDepth 8000
set_option linter.unusedVariables false
set_option linter.unusedSimpArgs false

def svM (b : Bd) (u : Hp) : Int := modV u b.months.length
def svS (b : Bd) (re : List Int) (u : Hp) : Su := ⟨svM b u, max 0 (re.getD (svM b u).toNat default - modV (hpS u) 6), min b.room (re.getD (svM b u).toNat default + modV (hpS (hpS u)) 6)⟩
def svK (b : Bd) (re : List Int) (u : Hp) : Nat → List Su × Hp
  | 0 => ([], u)
  | k + 1 => ((svK b re u k).1 ++ [svS b re (svK b re u k).2], hpS (hpS (hpS (svK b re u k).2)))
theorem svK_ok {b : Bd} {re : List Int} {u : Hp} (o : u.Ok) : ∀ k, (svK b re u k).2.Ok ∧ (svK b re u k).1.length = k
  | 0 => ⟨o, rfl⟩
  | k + 1 => by
    obtain ⟨h1, h2⟩ := svK_ok (b := b) (re := re) o k
    exact ⟨hpS_ok (hpS_ok (hpS_ok h1)), by show ((svK b re u k).1 ++ [_]).length = _; rw [List.length_append, h2]; rfl⟩
def svB (b : Bd) (re : List Int) (u : Hp) (k : Nat) : Bd := { b with nls := (svK b re u k).1.isEmpty, surveys := (svK b re u k).1 }
theorem svS_ok {b : Bd} (ok : BedOk b) {re : List Int} (hl : re.length = b.months.length + 1) (hb : ∀ x ∈ re, 0 ≤ x ∧ x ≤ b.room) (u : Hp) : 0 ≤ (svS b re u).m ∧ (svS b re u).m ≤ b.months.length ∧ 0 ≤ (svS b re u).lo ∧ (svS b re u).lo ≤ re.getD (svS b re u).m.toNat default ∧ re.getD (svS b re u).m.toNat default ≤ (svS b re u).hi ∧ (svS b re u).hi ≤ b.room := by
  have h1 := modV_bound u b.months.length
  have h2 := modV_bound (hpS u) 6
  have h3 := modV_bound (hpS (hpS u)) 6
  have h4 := hb _ (getD_mem (xs := re) (d := default) (i := (svM b u).toNat) (by unfold svM; omega))
  have h5 : (svS b re u).m = svM b u := rfl
  have h6 : (svS b re u).lo = max 0 (re.getD (svM b u).toNat default - modV (hpS u) 6) := rfl
  have h7 : (svS b re u).hi = min b.room (re.getD (svM b u).toNat default + modV (hpS (hpS u)) 6) := rfl
  rw [h5, h6, h7]
  have h8 : svM b u = modV u b.months.length := rfl
  generalize re.getD (svM b u).toNat default = r at h4
  omega
theorem svK_mem {b : Bd} {re : List Int} {u : Hp} : ∀ {k : Nat} {s : Su}, s ∈ (svK b re u k).1 → ∃ v, s = svS b re v
  | k + 1, s, h => by
    have h' : s ∈ (svK b re u k).1 ++ [svS b re (svK b re u k).2] := h
    rw [List.mem_append, List.mem_singleton] at h'
    rcases h' with h' | h'
    · exact svK_mem h'
    · exact ⟨_, h'⟩
theorem svB_ok {b : Bd} (ok : BedOk b) {re : List Int} (hl : re.length = b.months.length + 1) (hb : ∀ x ∈ re, 0 ≤ x ∧ x ≤ b.room) {u : Hp} (o : u.Ok) {k : Nat} (hk : k ≤ 8) : BdOk (svB b re u k) := by
  refine ⟨⟨ok.r1, ok.r2, ok.m1, ok.m2, ok.f1, ok.f2, ok.u1, ok.u2, ok.mo⟩, ?_, fun s hs => ?_⟩
  · show (svK b re u k).1.length ≤ 8
    rw [(svK_ok o k).2]; exact hk
  · obtain ⟨v, rfl⟩ := svK_mem (k := k) hs
    have := svS_ok ok hl hb v
    show _ ∧ _ ≤ (b.months.length : Int) ∧ _ ∧ _ ∧ _ ≤ b.room
    omega
theorem svB_ag {b : Bd} (ok : BedOk b) {re : List Int} (hl : re.length = b.months.length + 1) (hb : ∀ x ∈ re, 0 ≤ x ∧ x ≤ b.room) {u : Hp} {k : Nat} {p : Nat → Bool} (m : Nat) (hm : m ≤ b.months.length) : agB (svB b re u k) p m (re.getD m default).toNat = true := by
  refine agB_iff.2 fun i hi h1 h2 => ?_
  have hmem : suB (svB b re u k) i ∈ (svK b re u k).1 := getD_mem (xs := (svK b re u k).1) hi
  obtain ⟨v, hv⟩ := svK_mem hmem
  rw [hv] at h1 ⊢
  have := svS_ok ok hl hb v
  have h4 := hb _ (getD_mem (xs := re) (d := default) (i := m) (by omega))
  rw [h1, Int.toNat_natCast] at this
  omega
theorem svB_same (b : Bd) (re : List Int) (u : Hp) (k : Nat) : SameB b (svB b re u k) := ⟨rfl, rfl, rfl, rfl⟩
def sus (l : List Su) : List AV := l.map suA
theorem sus_low {n : Nat} (l : List Su) : lowL n (sus l) = true := lowSu l
set_option maxHeartbeats 1000000 in
theorem surveyed_c (b : Bd) (ok : BedOk b) (hs : b.surveys = []) (hn : b.nls = true) (nl : Bool) (re : List Int) (hl : re.length = b.months.length + 1) (hb : ∀ x ∈ re, 0 ≤ x ∧ x ≤ b.room) (most : Int) (h0 : 0 ≤ most) (h8 : most ≤ 8) (u : Hp) (o : u.Ok) :
    HpOk 75 [bedA b, .sl nl (ints re), .int .i64 most] u (bedA (svB b re (hpS u) (modV u most).toNat)) (svK b re (hpS u) (modV u most).toNat).2 := by
  have m1 := ok.m1
  have m2 := ok.m2
  have r1 := ok.r1
  have r2 := ok.r2
  have hup := upto_c u most o (by omega) (by omega)
  have hub := modV_bound u most
  have o1 := hpS_ok o
  have e2 : ((ints re).length : Int) = b.months.length + 1 := by rw [ints_len]; omega
  obtain ⟨N, hN⟩ : ∃ N : Nat, modV u most = N := ⟨(modV u most).toNat, by omega⟩
  rw [hN] at hup hub ⊢
  rw [Int.toNat_natCast]
  generalize hpS u = v0 at hup o1
  refine ⟨by simp only [lowL, bedL, AV.low, lowI]; rfl, ?_⟩
  refine ACall.bodyN (T := tab) (res := [.cell 8 26]) tab_ok [5] Try.func75 rfl (by kernel_rfl) Try.ntmps75 rfl (by simp only [List.length_cons, List.length_nil]; decide) ⟨rfl, rfl⟩ ?_; conv => whnf
  repeat' first | ((refine XCall.hp (j := 0) hup rfl rfl ?_); conv => whnf) | fail
  refine Walk.nilcell 1 4 122 (cs := bedC b) rfl (by show some (AV.sl b.nls (b.surveys.map suA)) = _; rw [hs, hn]; rfl) ?_
  refine Walk.loopK tab_ok [] [(0, _), (2, _), (5, _), (8, _), (12, _)] ⟨rfl, rfl, rfl, rfl, rfl, trivial⟩ (fun k : Nat => k ≤ N) (fun k => [(13, natA k)]) (fun k => [hpC (svK b re v0 k).2, .cells [.int .i64 b.room, .int .i64 b.first, .int .i64 b.unsure, .sl b.nlm (b.months.map moA), .gr 3 (svK b re v0 k).1.length], .cells bzero, .grow 122 (svK b re v0 k).1.isEmpty (sus (svK b re v0 k).1)]) (fun k => N - k) 0 (Nat.zero_le _) rfl ⟨rfl, trivial⟩ ?_
  intro k hk
  obtain ⟨vo, vl⟩ := svK_ok (b := b) (re := re) o1 k
  by_cases hlt : k < N
  · have hnx : svK b re v0 (k + 1) = ((svK b re v0 k).1 ++ [svS b re (svK b re v0 k).2], hpS (hpS (hpS (svK b re v0 k).2))) := rfl
    generalize svK b re v0 k = st at vo vl hnx
    obtain ⟨cs, v⟩ := st
    dsimp only at vo vl hnx
    have v1 := hpS_ok vo
    have v2 := hpS_ok v1
    have c1 := upto_c v b.months.length vo (by omega) (by omega)
    have c2 := upto_c (hpS v) 6 v1 (by omega) (by omega)
    have c3 := upto_c (hpS (hpS v)) 6 v2 (by omega) (by omega)
    have b1 := modV_bound v b.months.length
    have b2 := modV_bound (hpS v) 6
    have b3 := modV_bound (hpS (hpS v)) 6
    have hso := svS_ok ok hl hb v
    have hcl : (sus cs).length = cs.length := List.length_map _
    obtain ⟨m, hm⟩ : ∃ m : Nat, modV v b.months.length = m := ⟨(modV v b.months.length).toNat, by omega⟩
    have hrb := hb _ (getD_mem (xs := re) (d := default) (i := m) (by omega))
    have hsv : svS b re v = ⟨m, max 0 (re.getD m default - modV (hpS v) 6), min b.room (re.getD m default + modV (hpS (hpS v)) 6)⟩ := by
      unfold svS svM; rw [hm, Int.toNat_natCast]
    rw [hm] at c1 b1
    have hfo := found_c m (max 0 (re.getD m default - modV (hpS v) 6)) (min b.room (re.getD m default + modV (hpS (hpS v)) 6))
    rw [← hsv] at hfo
    generalize modV (hpS v) 6 = x1 at c2 b2 hfo
    generalize modV (hpS (hpS v)) 6 = x2 at c3 b3 hfo
    generalize svS b re v = s at hnx hfo hso
    dsimp only
    conv => whnf
    have e3 : ((ints re).length : Int) - 1 = b.months.length := by omega
    repeat' first | ((with_reducible apply XBr.dec) <;> (intro h; first | (exfalso; omega) | ((try simp only [List.length_map] at h); first | (exfalso; omega) | (conv => whnf)))) | ((first | (with_reducible refine XInt.i64 (by omega) (by omega) ?_) | (rw [e3]; refine XCall.hp (j := 0) c1 rfl rfl ?_)); conv => whnf) | fail
    apply Walk.drawX tab_ok mixed_ok [] [8, 18, 23, 25] (fun fl => match fl with
      | [a, b', x, y] => [hpC (bif b' then hpS (hpS (hpS v)) else bif a then hpS (hpS v) else hpS v), .cells (bif y then [.int .i64 b.room, .int .i64 b.first, .int .i64 b.unsure, .sl b.nlm (b.months.map moA), .gr 3 (cs.length + 1)] else [.int .i64 b.room, .int .i64 b.first, .int .i64 b.unsure, .sl b.nlm (b.months.map moA), .gr 3 cs.length]), .cells bzero, (bif x then .grow 122 (cs.isEmpty && false) (sus cs ++ [suA s]) else .grow 122 cs.isEmpty (sus cs))]
      | _ => []) [_, _, _, _, _, _, _, _, _, _, _, _, _, _, _, _, _, _, _, _, _, _, _, _, _, _] (by kernel_rfl) rfl
    · skip
      repeat' first | ((with_reducible refine XInt.i64 (by omega) (by omega) ?_); conv => whnf) | ((with_reducible refine XHold.mk ?_ ?_); (first | omega | rfl | decide | exact ⟨rfl, by decide, rfl⟩ | exact wideI _ | exact widePr _ | exact wideSk _ | (unfold Room; constructor <;> ((try simp) <;> omega)) | exact ⟨rfl, by simp only [List.length_map], by unfold Room; constructor <;> ((try simp) <;> omega)⟩ | exact ⟨by omega, by omega, by unfold Room; constructor <;> ((try simp) <;> omega)⟩); conv => whnf) | (((with_reducible refine XIx.nat ?_ ?_ ?_); omega; (intro _; rfl)); conv => whnf) | (with_reducible apply XAnd.mk) | ((first | (with_reducible apply Chk.go) | (with_reducible apply ChkA.go)); conv => whnf) | (exact XSame.mk rfl rfl) | (with_reducible exact trivial) | ((first | (refine XCall.hp (j := 0) c2 rfl rfl ?_) | (refine XCall.hp (j := 0) c3 rfl rfl ?_) | (refine XCall.ret hfo ?_)); conv => whnf) | fail
    · skip
      repeat' first | ((with_reducible refine XInt.i64 (by omega) (by omega) ?_); conv => whnf) | ((with_reducible refine XHold.mk ?_ ?_); (first | omega | rfl | decide | exact ⟨rfl, by decide, rfl⟩ | exact wideI _ | exact widePr _ | exact wideSk _ | (unfold Room; constructor <;> ((try simp) <;> omega)) | exact ⟨rfl, by simp only [List.length_map], by unfold Room; constructor <;> ((try simp) <;> omega)⟩ | exact ⟨by omega, by omega, by unfold Room; constructor <;> ((try simp) <;> omega)⟩); conv => whnf) | (((with_reducible refine XIx.nat ?_ ?_ ?_); omega; (intro _; rfl)); conv => whnf) | (with_reducible apply XAnd.mk) | ((first | (with_reducible apply Chk.go) | (with_reducible apply ChkF.go) | (with_reducible apply ChkB.go)); conv => whnf) | (exact XSame.mk rfl rfl) | (with_reducible exact trivial) | ((first | (refine XCall.hp (j := 0) c2 rfl rfl ?_) | (refine XCall.hp (j := 0) c3 rfl rfl ?_)); conv => whnf) | fail
    conv => whnf
    repeat' first | ((with_reducible refine XInt.i64 (by omega) (by omega) ?_); conv => whnf) | fail
    refine XAgain.go (k + 1) (by omega) (by omega) ?_ ⟨rfl, rfl, rfl, rfl, rfl, rfl, trivial⟩
    rw [hnx]
    show [_, Blk.cells [_, _, _, _, .gr 3 (cs ++ [s]).length], _, Blk.grow _ (cs ++ [s]).isEmpty ((cs ++ [s]).map suA)] = _
    rw [isEmpty_app, List.map_append, List.length_append]; rfl
  · obtain rfl : k = N := by omega
    have hcl : (sus (svK b re v0 k).1).length = (svK b re v0 k).1.length := List.length_map _
    conv => whnf
    repeat' first | ((with_reducible apply XBr.dec) <;> (intro h; first | (exfalso; omega) | ((try simp only [List.length_map] at h); first | (exfalso; omega) | (conv => whnf)))) | fail
    refine ⟨rfl, rfl, fun y hy => by rw [List.mem_singleton] at hy; subst hy; exact hpC_low _, FrozN.agg (bedOne _) (.cons (FrozN.low rfl) (.cons (FrozN.low rfl) (.cons (FrozN.low rfl) (.cons (FrozN.low (lowMo _)) (.cons (FrozN.grow (i := 3) (show (1 : Nat) ≤ 3 by omega) rfl hcl (sus_low _)) .nil)))))⟩
end GA
end

section
namespace GA
open Go Go.RowKit Go.Proofs
set_option maxRecDepth 8000
set_option linter.unusedVariables false
set_option linter.unusedSimpArgs false

def moreF (q : List Int → Bool) (S : Nat) : Nat → List Int → Nat → Option (List Int)
  | 0, l, _ => if q l = true then some l else none
  | k + 1, l, f => (List.range' f (S - f)).findSome? fun i : Nat => moreF q S k (l ++ [(i : Int)]) (i + 1)
structure Pck (S f : Nat) (t : List Int) : Prop where
  lt : t.Pairwise (· < ·)
  b : ∀ x ∈ t, (f : Int) ≤ x ∧ x < S
theorem Pck.cons {S f i : Nat} {t : List Int} (h : Pck S (i + 1) t) (hf : f ≤ i) (hi : i < S) : Pck S f ((i : Int) :: t) :=
  ⟨List.pairwise_cons.2 ⟨fun x hx => by have := h.b x hx; omega, h.lt⟩, fun x hx => by
    rcases List.mem_cons.1 hx with rfl | hx
    · omega
    · have := h.b x hx; omega⟩
end GA
end

section
namespace GA
open Go Go.RowKit Go.Proofs
set_option pp.deepTerms true
set_option maxRecDepth 8000
set_option linter.unusedVariables false
set_option linter.unusedSimpArgs false

def canRs (b : Bd) : List (List Int) := vecF (b.months.length + 1) (canL b)
theorem canRs_get {b : Bd} {m : Nat} (h : m ≤ b.months.length) : (canRs b).getD m default = canL b m := vecF_get _ (by omega)
theorem canRs_len (b : Bd) : (canRs b).length = b.months.length + 1 := vecF_len _ _
def canV (b : Bd) : AV := if possE b ≠ 0 then .tup [.sl true [], .int .i64 (possE b)] else .tup [.sl false (rowsA (canRs b)), .int .i64 0]
def canS (b : Bd) (i : Nat) : List AV := rowsA (vecF i (canL b))
theorem canS_len (b : Bd) (i : Nat) : (canS b i).length = i := by unfold canS rowsA; rw [List.length_map, vecF_len]
theorem rowsA_low {n : Nat} (l : List (List Int)) : lowL n (rowsA l) = true := lowRw l
theorem can_all_c (b : Bd) (hm : b.months.length ≤ 100000) (hs : b.surveys.length ≤ 100000) : Comp Try.prog 64 [bedA b] (canV b) := by
  have hp := possible_c b hm hs
  unfold possA at hp
  unfold canV
  by_cases hE : possE b = 0
  · obtain ⟨ok, _⟩ := possE_iff.1 hE
    have m2 := ok.m2
    rw [if_neg (fun h => h hE)] at hp ⊢
    have e2 : (((matF (b.months.length + 1) 121 (cnB b alwP)).map (arrF AV.bool)).length : Int) = b.months.length + 1 := by rw [List.length_map, matF, vecF_len]; omega
    refine Comp.body (T := tab) (res := [.tmp 2, .tmp 3]) tab_ok [] Try.func64 rfl (by kernel_rfl) Try.ntmps64 rfl (by simp only [List.length_cons, List.length_nil]; decide) (by simp only [lowL, bedL]; rfl) ?_; conv => whnf
    repeat' first | ((refine XCall.ret hp ?_); conv => whnf) | fail
    refine Walk.nilgr 7 27 rfl ?_
    refine Walk.loopGK tab_ok [] [(2, _), (3, _), (6, _), (16, _), (17, _)] ⟨rfl, rfl, rfl, rfl, rfl, trivial⟩ (fun i : Nat => i ≤ b.months.length + 1) (fun i => [(7, .gr 0 i), (18, natA i)]) (fun i => [.grow 27 (decide (i = 0)) (canS b i)]) (fun i => b.months.length + 1 - i) 0 (Nat.zero_le _) ?_ ⟨rfl, rfl, trivial⟩ ?_ (fun _ _ => (show (1 : Nat) ≤ 1 from Nat.le_refl 1)) ?_
    · have e0 : canS b 0 = [] := List.length_eq_zero_iff.1 (canS_len b 0)
      rw [e0]; rfl
    · intro i _
      refine ⟨fun z hz => ?_, fun z hz => ?_⟩
      · rw [List.mem_singleton] at hz; subst hz; exact rowsA_low _
      · simp only [List.cons_append, List.nil_append, List.mem_cons, List.not_mem_nil, or_false] at hz
        rcases hz with rfl | rfl | rfl | rfl | rfl | rfl | rfl <;> first | rfl | exact canA_low b
    intro i hi
    have hli := canS_len b i
    have hls := amList_c (cnB b alwP i)
    change Comp Try.prog _ _ (slA (canL b i)) at hls
    conv => whnf
    by_cases hlt : i < b.months.length + 1
    · have hcl := canL_ne hE (m := i) (by omega)
      repeat' first | ((with_reducible apply XBr.dec) <;> (intro h; first | (exfalso; omega) | ((try simp only [List.length_map] at h); first | (exfalso; omega) | (conv => whnf)))) | ((with_reducible refine XInt.i64 (by omega) (by omega) ?_); conv => whnf) | ((with_reducible refine XHold.mk ?_ ?_); (first | omega | rfl | decide | exact ⟨rfl, by decide, rfl⟩ | exact wideI _ | exact widePr _ | exact wideSk _ | (unfold Room; constructor <;> ((try simp) <;> omega)) | exact ⟨rfl, by simp only [List.length_map], by unfold Room; constructor <;> ((try simp) <;> omega)⟩ | exact ⟨by omega, by omega, by unfold Room; constructor <;> ((try simp) <;> omega)⟩); conv => whnf) | ((first | (refine XIx.mat i rfl (by omega) rfl ?_) | (refine xtk_vec rfl ?_) | (refine xn_vec rfl ?_) | (refine xspl_am ?_) | (refine XCall.ret hls ?_)); conv => whnf) | fail
      refine XAgainG.go (i + 1) [.cells ((vecF 121 (cnB b alwP i)).map .bool)] (by omega) (by omega) ?_ ⟨rfl, rfl, rfl, rfl, rfl, rfl, rfl, trivial⟩
      show [Blk.grow _ (decide (i + 1 = 0)) (canS b (i + 1))] ++ _ = [Blk.grow _ (decide (i = 0) && false) (canS b i ++ [_]), _]
      have e : canS b (i + 1) = canS b i ++ [slA (canL b i)] := by
        unfold canS rowsA
        rw [vecF, dif_neg (by omega), Nat.add_sub_cancel, List.map_append]; rfl
      rw [e, Bool.and_false]; rfl
    · obtain rfl : i = b.months.length + 1 := by omega
      repeat' first | ((with_reducible apply XBr.dec) <;> (intro h; first | (exfalso; omega) | ((try simp only [List.length_map] at h); first | (exfalso; omega) | (conv => whnf)))) | fail
      exact ⟨Froz.tup (.cons (Froz.grow rfl hli (rowsA_low _)) (.cons (.low rfl) .nil))⟩
  · rw [if_pos hE] at hp ⊢
    generalize possE b = e at hp hE
    refine Comp.body (T := tab) (res := [.tmp 2, .tmp 3]) tab_ok [] Try.func64 rfl (by kernel_rfl) Try.ntmps64 rfl (by simp only [List.length_cons, List.length_nil]; decide) (by simp only [lowL, bedL]; rfl) ?_; conv => whnf
    repeat' first | ((refine XCall.ret hp ?_); conv => whnf) | fail
    refine Walk.loopK tab_ok [] [(2, _), (3, _), (6, _), (16, _), (17, _)] ⟨rfl, rfl, rfl, rfl, rfl, trivial⟩ (fun _ : Unit => True) (fun _ => [(7, .sl true []), (18, .int .i64 0)]) (fun _ => []) (fun _ => 0) () trivial rfl ⟨rfl, rfl, trivial⟩ ?_
    intro _ _
    conv => whnf
    repeat' first | ((with_reducible apply XBr.dec) <;> (intro h; first | (exfalso; omega) | ((try simp only [List.length_map] at h); first | (exfalso; omega) | (conv => whnf)))) | fail
    · rename_i h; simp at h
    · exact ⟨.low rfl⟩
end GA
end

section
namespace GA
open Go Go.RowKit Go.Proofs
set_option pp.deepTerms true
set_option maxRecDepth 8000
set_option linter.unusedVariables false
set_option linter.unusedSimpArgs false

def conP (L : List Int) : Nat → Bool := fun i => L.contains (i : Int)
def clB (b : Bd) (L : List Int) : Bool := noneB b (conP L)
def clH (b : Bd) (d c o m : Nat) (out : AV) : List Blk := [.cells [dskA b], .cells [.fn 136 [.ptr d 0]], .cells [out], .cells [.fn 139 [.ptr o 0, .ptr c 0, .pim (bedC b), .ptr m 0]]]
theorem clH_low (b : Bd) (l : List Int) : ∀ x ∈ clH b 0 1 2 3 (slA l), x.low 4 = true := by
  intro x hx
  simp only [clH, List.mem_cons, List.not_mem_nil, or_false] at hx
  rcases hx with rfl | rfl | rfl | rfl
  · simp only [Blk.low, lowL, dskL]; rfl
  · rfl
  · simp only [Blk.low, lowL, slA_low]; rfl
  · simp only [Blk.low, lowL, AV.low, show lowL 4 (bedC b) = true from lowBd b]; rfl
def outL (o : Option (List Int)) : List Int := o.getD []
def MoreOk (b : Bd) (k : Nat) (l : List Int) (f : Nat) : Prop :=
  ACall Try.prog 139 [slA l, natA f, natA k, .ptr 2 0, .ptr 1 0, .pim (bedC b), .ptr 3 0] (clH b 0 1 2 3 (slA [])) fun r H' => r = .bool (moreF (clB b) b.surveys.length k l f).isSome ∧ H' = clH b 0 1 2 3 (slA (outL (moreF (clB b) b.surveys.length k l f)))
def rho4 (d c o m : Nat) : Nat → Nat
  | 0 => d
  | 1 => c
  | 2 => o
  | _ => m
theorem XCall.more {b : Bd} {k : Nat} {l : List Int} {f : Nat} (x : MoreOk b k l f) {v : AV} (hv : v = slA l) {H : List Blk} {K : AV → List Blk → Prop} (d c o m : Nat) (hd : d < c ∧ c < o ∧ o < m) (h0 : lget H d = some (.cells [dskA b])) (h1 : lget H c = some (.cells [.fn 136 [.ptr d 0]])) (h2 : lget H o = some (.cells [slA []]))
    (h3 : lget H m = some (.cells [.fn 139 [.ptr o 0, .ptr c 0, .pim (bedC b), .ptr m 0]])) (hk : K (.bool (moreF (clB b) b.surveys.length k l f).isSome) (H.set o (.cells [slA (outL (moreF (clB b) b.surveys.length k l f))]))) :
    XCall Try.prog 139 [v, natA f, natA k, .ptr o 0, .ptr c 0, .pim (bedC b), .ptr m 0] H K := by
  subst hv
  have hb : renL (rho4 d c o m) (bedC b) = bedC b := renL_low0 (lowBd b)
  have hD : renL (rho4 d c o m) (dskC b) = dskC b := renL_low0 (lowDk1 b)
  have hL : ∀ xs : List Int, renL (rho4 d c o m) (ints xs) = ints xs := fun xs => renL_low0 (lowI xs)
  rw [lget_eq] at h0 h1 h2 h3
  constructor
  have e := ACall.frame (ρ := rho4 d c o m) (H := H) (k := K) x ?_ ?_ (clH_low b []) ?_ ?_
  · simp only [List.map_cons, List.map_nil, slA, natA, AV.ren, hb, hL] at e
    exact e
  · intro i j hi hj he
    simp only [clH, List.length_cons, List.length_nil] at hi hj
    rcases i with _ | _ | _ | _ | i <;> rcases j with _ | _ | _ | _ | j <;> simp only [rho4] at he <;> omega
  · intro i x1 hi
    rcases i with _ | _ | _ | _ | i
    · simp only [clH, List.getElem?_cons_zero, Option.some.injEq] at hi; subst hi
      simp only [Blk.ren, renL, dskA, AV.ren, hD]; exact h0
    · simp only [clH, List.getElem?_cons_succ, List.getElem?_cons_zero, Option.some.injEq] at hi; subst hi
      exact h1
    · simp only [clH, List.getElem?_cons_succ, List.getElem?_cons_zero, Option.some.injEq] at hi; subst hi
      exact h2
    · simp only [clH, List.getElem?_cons_succ, List.getElem?_cons_zero, Option.some.injEq] at hi; subst hi
      simp only [Blk.ren, renL, AV.ren, hb]; exact h3
    · simp [clH] at hi
  · simp only [clH, List.length_cons, List.length_nil, lowL, AV.low, natA, slA, lowI, show lowL 4 (bedC b) = true from lowBd b]; rfl
  · rintro r1 H1' ⟨rfl, rfl⟩
    have ho := (List.getElem?_eq_some_iff.1 h2).1
    refine ⟨rfl, H.set o (.cells [slA (outL (moreF (clB b) b.surveys.length k l f))]), by simp, fun i x1 hi => ?_, fun q hq => ?_, hk⟩
    · rcases i with _ | _ | _ | _ | i
      · simp only [clH, List.getElem?_cons_zero, Option.some.injEq] at hi; subst hi
        simp only [Blk.ren, renL, dskA, AV.ren, hD]
        rw [List.getElem?_set_ne (by simp only [rho4]; omega)]; exact h0
      · simp only [clH, List.getElem?_cons_succ, List.getElem?_cons_zero, Option.some.injEq] at hi; subst hi
        rw [List.getElem?_set_ne (by simp only [rho4]; omega)]; exact h1
      · simp only [clH, List.getElem?_cons_succ, List.getElem?_cons_zero, Option.some.injEq] at hi; subst hi
        simp only [Blk.ren, renL, slA, AV.ren, hL]
        exact List.getElem?_set_self ho
      · simp only [clH, List.getElem?_cons_succ, List.getElem?_cons_zero, Option.some.injEq] at hi; subst hi
        simp only [Blk.ren, renL, AV.ren, hb]
        rw [List.getElem?_set_ne (by simp only [rho4]; omega)]; exact h3
      · simp [clH] at hi
    · exact List.getElem?_set_ne (by have := hq 2 (by simp [clH]); simpa [rho4] using this)
end GA
end

section
namespace GA
open Go Go.RowKit Go.Proofs
set_option pp.deepTerms true
set_option maxRecDepth 8000
set_option linter.unusedVariables false
set_option linter.unusedSimpArgs false

def okP (b : Bd) (share : Int) : Nat → Nat → List Int → Prop
  | 0, q, xs => xs = [] ∧ share ≤ q
  | _ + 1, _, [] => False
  | k + 1, q, x :: xs => 0 ≤ x ∧ x ≤ lieR b (b.months.length - (k + 1)) q ∧ okP b share k (lieR b (b.months.length - (k + 1)) q - x).toNat xs
theorem stepM_ub {nx : Nat → Int} {lies : Nat} : ∀ {n r : Nat}, r < n → nx (lies - r) ≠ -1 → (r : Int) + nx (lies - r) ≤ stepM nx lies n
  | n + 1, r, h, hne => by
    unfold stepM
    by_cases hr : r = n
    · subst hr; rw [if_neg hne]; omega
    · have := stepM_ub (nx := nx) (lies := lies) (n := n) (r := r) (by omega) hne
      split <;> omega
theorem stepM_at {nx : Nat → Int} {lies : Nat} (h0 : ∀ q, -1 ≤ nx q) : ∀ n, stepM nx lies n = -1 ∨ ∃ r, r < n ∧ nx (lies - r) ≠ -1 ∧ (r : Int) + nx (lies - r) = stepM nx lies n
  | 0 => .inl rfl
  | n + 1 => by
    unfold stepM
    by_cases hn : nx (lies - n) = -1
    · rw [if_pos hn]
      rcases stepM_at h0 n with h | ⟨r, h1, h2, h3⟩
      · exact .inl h
      · exact .inr ⟨r, by omega, h2, h3⟩
    · rw [if_neg hn]
      right
      have := h0 (lies - n)
      by_cases hc : stepM nx lies n ≤ n + nx (lies - n)
      · exact ⟨n, by omega, hn, by omega⟩
      · rcases stepM_at (nx := nx) (lies := lies) h0 n with h | ⟨r, h1, h2, h3⟩
        · omega
        · exact ⟨r, by omega, h2, by omega⟩
theorem rakeM_iff {nx : Nat → Int} {lies r : Nat} {v : Int} : rakeM nx lies v r = true ↔ nx (lies - r) ≠ -1 ∧ (r : Int) + nx (lies - r) = v := by
  unfold rakeM
  simp
theorem planM_max {b : Bd} (o : BedOk b) (share : Int) : ∀ k, k ≤ b.months.length → ∀ a,
    (valM b share k a ≠ -1 → okP b share k a (planM b share k a) ∧ (planM b share k a).sum = valM b share k a) ∧
    ∀ xs, okP b share k a xs → valM b share k a ≠ -1 ∧ xs.sum ≤ valM b share k a ∧ (xs.sum = valM b share k a → 0 ≤ cmpL xs (planM b share k a))
  | 0, _, a => by
    refine ⟨fun h => ?_, fun xs h => ?_⟩
    · unfold valM at h ⊢
      by_cases hs : share ≤ a
      · rw [if_pos hs]; exact ⟨⟨rfl, hs⟩, rfl⟩
      · rw [if_neg hs] at h; exact absurd rfl h
    · obtain ⟨rfl, hs⟩ := h
      unfold valM
      rw [if_pos hs]
      exact ⟨by omega, by simp, fun _ => by simp [planM, cmpL]⟩
  | k + 1, hk, a => by
    have hl := lieR_b o (j := b.months.length - (k + 1)) (n := a) (by have := o.m1; omega)
    obtain ⟨lies, hlies⟩ : ∃ lies : Nat, lieR b (b.months.length - (k + 1)) a = lies := ⟨(lieR b (b.months.length - (k + 1)) a).toNat, by omega⟩
    have ih := planM_max o share k (by omega)
    have hvb := valM_b o share k (by omega)
    have hval : valM b share (k + 1) a = stepM (valM b share k) lies (lies + 1) := by
      show stepM _ (lieR b (b.months.length - (k + 1)) a).toNat ((lieR b (b.months.length - (k + 1)) a).toNat + 1) = _
      rw [hlies, Int.toNat_natCast]
    have key : ∀ r, r ≤ lies → rakeM (valM b share k) lies (valM b share (k + 1) a) r = true → ∃ r0, r0 ≤ r ∧ rakeM (valM b share k) lies (valM b share (k + 1) a) r0 = true ∧ planM b share (k + 1) a = (r0 : Int) :: planM b share k (lies - r0) := by
      intro r hr hrk
      cases hf : (List.range (lies + 1)).find? (rakeM (valM b share k) lies (valM b share (k + 1) a)) with
      | none =>
        have := List.find?_range_eq_none.1 hf r (by omega)
        rw [hrk] at this; cases this
      | some r0 =>
        obtain ⟨h1, h2, h3⟩ := List.find?_range_eq_some.1 hf
        have h2' := List.mem_range.1 h2
        have hle : r0 ≤ r := by
          by_cases hlt : r < r0
          · have := h3 r hlt
            rw [hrk] at this; cases this
          · omega
        exact ⟨r0, hle, h1, planM_some hlies (by omega) h1 fun q hq => by have := h3 q hq; simpa using this⟩
    refine ⟨fun h => ?_, fun xs h => ?_⟩
    · rw [hval] at h
      rcases stepM_at (lies := lies) (fun q => (hvb q).1) (lies + 1) with h' | ⟨r, h1, h2, h3⟩
      · exact absurd h' h
      · obtain ⟨r0, q1, q2, q3⟩ := key r (by omega) (rakeM_iff.2 ⟨h2, by rw [hval]; exact h3⟩)
        obtain ⟨p1, p2⟩ := rakeM_iff.1 q2
        obtain ⟨i1, i2⟩ := (ih (lies - r0)).1 p1
        rw [q3]
        refine ⟨⟨by omega, by rw [hlies]; omega, ?_⟩, ?_⟩
        · rw [hlies, show ((lies : Int) - (r0 : Int)).toNat = lies - r0 by omega]; exact i1
        · rw [List.sum_cons, i2, p2]
    · cases xs with
      | nil => exact h.elim
      | cons x xs =>
        obtain ⟨x1, x2, x3⟩ := h
        rw [hlies] at x2 x3
        obtain ⟨r, rfl⟩ : ∃ r : Nat, x = r := ⟨x.toNat, by omega⟩
        rw [show ((lies : Int) - (r : Int)).toNat = lies - r by omega] at x3
        obtain ⟨i1, i2, i3⟩ := (ih (lies - r)).2 xs x3
        have hub := stepM_ub (nx := valM b share k) (lies := lies) (n := lies + 1) (r := r) (by omega) i1
        rw [← hval] at hub
        have hv0 := (hvb (lies - r)).1
        refine ⟨by omega, by rw [List.sum_cons]; omega, fun hsum => ?_⟩
        rw [List.sum_cons] at hsum
        obtain ⟨r0, q1, q2, q3⟩ := key r (by omega) (rakeM_iff.2 ⟨i1, by omega⟩)
        rw [q3]
        show 0 ≤ (if (r : Int) < r0 then -1 else if (r0 : Int) < r then 1 else cmpL xs (planM b share k (lies - r0)))
        rw [if_neg (by omega)]
        by_cases hlt : (r0 : Int) < r
        · rw [if_pos hlt]; decide
        · rw [if_neg hlt]
          obtain rfl : r0 = r := by omega
          exact i3 (by omega)
theorem planM_bd {b : Bd} (o : BedOk b) (share : Int) : ∀ k, k ≤ b.months.length → ∀ a, (∀ x ∈ planM b share k a, 0 ≤ x ∧ x ≤ b.room) ∧ (planM b share k a).length ≤ k
  | 0, _, a => ⟨by simp [planM], Nat.le_refl _⟩
  | k + 1, hk, a => by
    have hl := lieR_b o (j := b.months.length - (k + 1)) (n := a) (by have := o.m1; omega)
    unfold planM
    split
    · rename_i r hr
      have hm := List.mem_range.1 (List.mem_of_find?_eq_some hr)
      have ih := planM_bd o share k (by omega) ((lieR b (b.months.length - (k + 1)) a).toNat - r)
      refine ⟨fun x hx => ?_, by simp only [List.length_cons]; omega⟩
      rcases List.mem_cons.1 hx with rfl | hx
      · omega
      · exact ih.1 x hx
    · have ih := planM_bd o share k (by omega) a
      exact ⟨ih.1, by omega⟩
def leL : List Int → List Int → Prop
  | [], [] => True
  | y :: ys, x :: xs => 0 ≤ y ∧ y ≤ x ∧ leL ys xs
  | _, _ => False
theorem leL_of : ∀ {ys xs : List Int}, ys.length = xs.length → (∀ y ∈ ys, 0 ≤ y) → (∀ i, i < ys.length → ys.getD i default ≤ xs.getD i default) → leL ys xs
  | [], [], _, _, _ => trivial
  | y :: ys, x :: xs, h1, h2, h3 => ⟨h2 y List.mem_cons_self, h3 0 (by simp), leL_of (by simpa using h1) (fun z hz => h2 z (List.mem_cons_of_mem _ hz)) fun i hi => h3 (i + 1) (by simpa using hi)⟩
theorem okP_mono {b : Bd} (o : BedOk b) {share : Int} : ∀ {k : Nat}, k ≤ b.months.length → ∀ {a a' : Nat} {xs ys : List Int}, okP b share k a xs → a ≤ a' → leL ys xs → okP b share k a' ys
  | 0, _, a, a', xs, ys, h, ha, hl => by
    obtain ⟨rfl, hs⟩ := h
    cases ys with
    | nil => exact ⟨rfl, by omega⟩
    | cons y ys => exact hl.elim
  | k + 1, hk, a, a', [], ys, h, ha, hl => h.elim
  | k + 1, hk, a, a', x :: xs, [], h, ha, hl => hl.elim
  | k + 1, hk, a, a', x :: xs, y :: ys, h, ha, hl => by
    obtain ⟨x1, x2, x3⟩ := h
    obtain ⟨y1, y2, y3⟩ := hl
    have hm := lieR_mono o (m := b.months.length - (k + 1)) (by have := o.m1; omega) ha
    exact ⟨y1, by omega, okP_mono o (by omega) x3 (by omega) y3⟩
theorem okP_len {b : Bd} {share : Int} : ∀ {k a : Nat} {xs : List Int}, okP b share k a xs → xs.length = k
  | 0, _, _, h => by obtain ⟨rfl, _⟩ := h; rfl
  | k + 1, _, [], h => h.elim
  | k + 1, _, x :: xs, h => by rw [List.length_cons, okP_len h.2.2]
theorem okP_zero {b : Bd} (o : BedOk b) {share : Int} : ∀ k, k ≤ b.months.length → ∀ a : Nat, (a : Int) ≤ b.room → (okP b share k a (List.replicate k 0) ↔ ∃ l, flrL b share k = some l ∧ l.headD 0 ≤ a)
  | 0, _, a, _ => by
    constructor
    · rintro ⟨_, h⟩; exact ⟨_, rfl, h⟩
    · rintro ⟨l, h, h2⟩; cases h; exact ⟨rfl, h2⟩
  | k + 1, hk, a, ha => by
    have hmM : b.months.length - (k + 1) < b.months.length := by have := o.m1; omega
    have hl := lieR_b o (j := b.months.length - (k + 1)) (n := a) hmM
    have ih := okP_zero o (share := share) k (by omega) (lieR b (b.months.length - (k + 1)) a).toNat (by omega)
    have h1 : okP b share (k + 1) a (List.replicate (k + 1) 0) ↔ okP b share k (lieR b (b.months.length - (k + 1)) a).toNat (List.replicate k 0) := by
      rw [List.replicate_succ]
      show 0 ≤ (0 : Int) ∧ _ ∧ okP b share k ((_ : Int) - 0).toNat _ ↔ _
      rw [Int.sub_zero]
      exact ⟨fun h => h.2.2, fun h => ⟨Int.le_refl _, hl.1, h⟩⟩
    rw [h1, ih]
    constructor
    · rintro ⟨l, e, h⟩
      cases hf : flrStep b (b.months.length - (k + 1)) (l.headD 0) with
      | none =>
        have := flrStep_none hf a ha; omega
      | some n =>
        refine ⟨(n : Int) :: l, by rw [flrL, e]; dsimp only; rw [hf], ?_⟩
        obtain ⟨q1, q2, q3⟩ := flrStep_some hf
        show (n : Int) ≤ a
        by_cases hlt : a < n
        · have := q3 a hlt; omega
        · omega
    · rintro ⟨l', e, h⟩
      rw [flrL] at e
      cases h2 : flrL b share k with
      | none => rw [h2] at e; cases e
      | some l =>
        rw [h2] at e; dsimp only at e
        cases hf : flrStep b (b.months.length - (k + 1)) (l.headD 0) with
        | none => rw [hf] at e; cases e
        | some n =>
          rw [hf] at e; cases e
          obtain ⟨q1, q2, q3⟩ := flrStep_some hf
          have hn : (n : Int) ≤ a := h
          have := lieR_mono o hmM (show n ≤ a by omega)
          exact ⟨l, rfl, by omega⟩
end GA
end

section
namespace GA
open Go Go.RowKit
set_option linter.unusedVariables false
section
variable {P : Program} {N : Nat} {ρ : Option Nat} {H : List Blk} {σ : St} {D : List Nat} {Q : Post}

structure XFrz (u i n : Nat) (σ : St) (H : List Blk) (k : St → List Blk → Prop) : Prop where
  o : ∃ t nl els, σ u = some (.gr i n) ∧ lget H i = some (.grow t nl els) ∧ els.length = n ∧ k (updX σ u (.sl nl els)) (H.set i .dead)
theorem XFrz.go {u i n : Nat} {k : St → List Blk → Prop} {t : TypeId} {nl : Bool} {els : List AV} (hu : σ u = some (.gr i n)) (hi : lget H i = some (.grow t nl els)) (hn : els.length = n) (x : k (updX σ u (.sl nl els)) (H.set i .dead)) : XFrz u i n σ H k := ⟨t, nl, els, hu, hi, hn, x⟩
end
end GA
end

section
namespace GA
open Go Go.RowKit Go.Proofs
set_option pp.deepTerms true
set_option maxRecDepth 8000
set_option linter.unusedVariables false
set_option linter.unusedSimpArgs false

theorem vecF_succ {α : Type} (F : Nat → α) (n : Nat) : vecF (n + 1) F = vecF n F ++ [F n] := by rw [vecF_eq, vecF_eq, List.range_succ, List.map_append]; rfl
structure NI (b : Bd) (m n : Nat) (G : Nat → Bool) (D : Int → Int → Prop) : Prop where
  o : ∀ k : Nat, G k = true ↔ ∃ sp st, InC b m sp st ∧ D sp st ∧ grC b m n sp st - (moB b m).r = k
theorem NI.to {b : Bd} {m n : Nat} {G : Nat → Bool} {D D' : Int → Int → Prop} (h : NI b m n G D) (hd : ∀ x y, InC b m x y → (D' x y ↔ D x y)) : NI b m n G D' :=
  ⟨fun k => (h.o k).trans ⟨fun ⟨x, y, h1, h2, h3⟩ => ⟨x, y, h1, (hd x y h1).2 h2, h3⟩, fun ⟨x, y, h1, h2, h3⟩ => ⟨x, y, h1, (hd x y h1).1 h2, h3⟩⟩⟩
theorem NI.skip {b : Bd} {m n : Nat} {G : Nat → Bool} {D D' : Int → Int → Prop} {sp st : Int} (h : NI b m n G D) (hd : ∀ x y, InC b m x y → (D' x y ↔ D x y ∨ (x = sp ∧ y = st))) (hv : grC b m n sp st - (moB b m).r < 0) : NI b m n G D' := by
  refine ⟨fun k => (h.o k).trans ⟨fun ⟨x, y, h1, h2, h3⟩ => ⟨x, y, h1, (hd x y h1).2 (.inl h2), h3⟩, fun ⟨x, y, h1, h2, h3⟩ => ⟨x, y, h1, ?_, h3⟩⟩⟩
  rcases (hd x y h1).1 h2 with h4 | ⟨rfl, rfl⟩
  · exact h4
  · omega
theorem NI.put {b : Bd} {m n : Nat} {G : Nat → Bool} {D D' : Int → Int → Prop} {sp st : Int} (h : NI b m n G D) (hin : InC b m sp st) (hd : ∀ x y, InC b m x y → (D' x y ↔ D x y ∨ (x = sp ∧ y = st))) (hv : 0 ≤ grC b m n sp st - (moB b m).r) : NI b m n (updV G (grC b m n sp st - (moB b m).r).toNat true) D' := by
  refine ⟨fun k => ?_⟩
  unfold updV
  by_cases e : k = (grC b m n sp st - (moB b m).r).toNat
  · rw [if_pos e]
    exact ⟨fun _ => ⟨sp, st, hin, (hd sp st hin).2 (.inr ⟨rfl, rfl⟩), by omega⟩, fun _ => rfl⟩
  · rw [if_neg e]
    refine (h.o k).trans ⟨fun ⟨x, y, h1, h2, h3⟩ => ⟨x, y, h1, (hd x y h1).2 (.inl h2), h3⟩, fun ⟨x, y, h1, h2, h3⟩ => ⟨x, y, h1, ?_, h3⟩⟩
    rcases (hd x y h1).1 h2 with h4 | ⟨rfl, rfl⟩
    · exact h4
    · omega
def nxF (b : Bd) (m n k : Nat) : Bool := befF b m k n
theorem NI.all {b : Bd} (ok : BedOk b) {m n : Nat} (hm : m < b.months.length) {G : Nat → Bool} {D : Int → Int → Prop} (h : NI b m n G D) (hd : ∀ x y, InC b m x y → D x y) (k : Nat) : G k = nxF b m n k := by
  unfold nxF befF
  rw [Bool.eq_iff_iff, decide_eq_true_iff, h.o k, mem_lv ok hm]
  exact ⟨fun ⟨x, y, h1, h2, h3⟩ => ⟨x, y, h1, h3⟩, fun ⟨x, y, h1, h3⟩ => ⟨x, y, h1, hd x y h1, h3⟩⟩
end GA
end
