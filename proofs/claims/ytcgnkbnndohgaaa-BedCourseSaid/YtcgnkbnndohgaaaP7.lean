/- Part 7 of a proof: D16, Abs37, D17, D12, D18. -/
import Derived.Test.YtcgnkbnndohgaaaP6
section
namespace GA
open Go Go.RowKit Go.Proofs
set_option pp.deepTerms true
set_option maxRecDepth 8000
set_option linter.unusedVariables false
set_option linter.unusedSimpArgs false

def fF {α : Type} (f : Nat → Option α) (c : Nat) (hi : Int) : Option α := (lvF c hi).findSome? f
theorem fF_some {α : Type} {f : Nat → Option α} {c : Nat} {hi : Int} {v : α} (h : (c : Int) ≤ hi) (hv : f c = some v) : fF f c hi = some v := by
  unfold fF; rw [lvF_cons h, List.findSome?_cons, hv]
theorem fF_none {α : Type} {f : Nat → Option α} {c : Nat} {hi : Int} (h : (c : Int) ≤ hi) (hv : f c = none) : fF f c hi = fF f (c + 1) hi := by
  unfold fF; rw [lvF_cons h, List.findSome?_cons, hv]
theorem fF_end {α : Type} {f : Nat → Option α} {c : Nat} {hi : Int} (h : hi < c) : fF f c hi = none := by
  unfold fF; rw [lvF_nil h]; rfl
def hitB (b : Bd) (m : Nat) (a k : Int) (sp st : Nat) : Bool := grossR b.room (moB b m).g a sp st - (moB b m).r == k
def stS (b : Bd) (m : Nat) (a k : Int) (sp st : Nat) : Option (Int × Int) := if hitB b m a k sp st = true then some ((sp : Int), (st : Int)) else none
def spS (b : Bd) (m : Nat) (a k : Int) (sp : Nat) : Option (Int × Int) := fF (stS b m a k sp) (moB b m).tl.toNat (moB b m).th
def fstC (b : Bd) (m : Nat) (a k : Int) : Option (Int × Int) := fF (spS b m a k) (moB b m).pl.toNat (moB b m).ph
def chK (b : Bd) (c : List Int) : Nat → Option (List (Int × Int))
  | 0 => some []
  | k + 1 => match chK b c k with
    | none => none
    | some l => match fstC b k (c.getD k default) (c.getD (k + 1) default) with
      | none => none
      | some x => some (l ++ [x])
theorem chK_none {b : Bd} {c : List Int} {k : Nat} (h : chK b c k = none) : ∀ d, chK b c (k + d) = none
  | 0 => h
  | d + 1 => by show chK b c (k + d + 1) = none; rw [chK, chK_none h d]
theorem chK_len {b : Bd} {c : List Int} : ∀ {k : Nat} {l : List (Int × Int)}, chK b c k = some l → l.length = k
  | 0, l, h => by rw [chK] at h; cases h; rfl
  | k + 1, l, h => by
    rw [chK] at h
    cases h1 : chK b c k with
    | none => rw [h1] at h; cases h
    | some l1 =>
      rw [h1] at h; dsimp only at h
      cases h2 : fstC b k (c.getD k default) (c.getD (k + 1) default) with
      | none => rw [h2] at h; cases h
      | some n => rw [h2] at h; cases h; rw [List.length_append, chK_len h1]; rfl
def chR (b : Bd) (c : List Int) : Option (List (Int × Int)) := if inZ (c.getD 0 default) (b.first - b.unsure) (b.first + b.unsure) = true then chK b c b.months.length else none
def chA' (o : Option (List (Int × Int))) : AV := match o with | none => .tup [.sl true [], .bool false] | some l => .tup [.sl l.isEmpty (chsA l), .bool true]
set_option maxHeartbeats 2000000 in
theorem chances_c (b : Bd) (ok : BedOk b) (nl : Bool) (c : List Int) (hl : c.length = b.months.length + 1) (hc : ∀ x ∈ c, 0 ≤ x ∧ x ≤ b.room) : Comp Try.prog 130 [dskA b, .sl nl (ints c)] (chA' (chR b c)) := by
  have m1 := ok.m1
  have m2 := ok.m2
  have r1 := ok.r1
  have r2 := ok.r2
  have f1 := ok.f1
  have f2 := ok.f2
  have u1 := ok.u1
  have u2 := ok.u2
  have e1 : ((b.months.map moA).length : Int) = b.months.length := by rw [List.length_map]
  have e2 : ((ints c).length : Int) = b.months.length + 1 := by rw [ints_len]; omega
  have hin := bedIn_c (c.getD 0 default) (b.first - b.unsure) (b.first + b.unsure)
  have hcv : ∀ m, m ≤ b.months.length → 0 ≤ c.getD m default ∧ c.getD m default ≤ b.room := fun m hm => hc _ (getD_mem (by omega))
  unfold chR
  cases hi : inZ (c.getD 0 default) (b.first - b.unsure) (b.first + b.unsure)
  · rw [hi] at hin
    rw [if_neg (by simp)]
    refine Comp.body (T := tab) (res := [.tmp 4, .tmp 5]) tab_ok [] Try.func130 rfl (by kernel_rfl) Try.ntmps130 rfl (by simp only [List.length_cons, List.length_nil]; decide) (by simp only [lowL, dskL, AV.low, lowI]; rfl) ?_; conv => whnf
    repeat' first | ((with_reducible first | apply XBr.tt | apply XBr.ff | apply Chk.go | apply ChkA.go | apply ChkF.go | apply ChkB.go | apply XArr.pim0 | apply XArr.pim1); conv => whnf) | (with_reducible apply XBr.not) | ((with_reducible apply XBr.dec) <;> (intro h; first | (exfalso; omega) | ((try simp only [List.length_map] at h); first | (exfalso; omega) | (conv => whnf)))) | ((with_reducible first | apply XBr.beq | apply XBr.bne) <;> (intro h; first | (exfalso; omega) | (conv => whnf))) | ((with_reducible refine XInt.i64 (by omega) (by omega) ?_); conv => whnf) | ((with_reducible refine XHold.mk ?_ ?_); (first | omega | rfl | decide | exact ⟨rfl, by decide, rfl⟩ | exact wideI _ | exact widePr _ | exact wideSk _ | (unfold Room; constructor <;> ((try simp) <;> omega)) | exact ⟨rfl, by simp only [List.length_map], by unfold Room; constructor <;> ((try simp) <;> omega)⟩ | exact ⟨by omega, by omega, by unfold Room; constructor <;> ((try simp) <;> omega)⟩); conv => whnf) | ((first | ((with_reducible refine XIx.nat ?_ ?_ ?_); omega; (intro _; rfl)) | ((with_reducible refine XIx.map ?_ ?_ ?_ ?_); omega; omega; (intro _; rfl))); conv => whnf) | (with_reducible apply XAnd.mk) | (exact XSame.mk rfl rfl) | (exact XSame.mk (by first | rfl | (simp only [List.map_append, List.length_append, List.length_map]; done) | (simp only [List.map_append, List.length_append, List.length_map]; rfl)) (by first | rfl | (simp only [List.map_append]; done) | (simp only [List.map_append]; rfl))) | (with_reducible exact trivial) | ((first | (with_reducible refine xdrop_app (by rw [List.length_map]; omega) ?_) | (with_reducible refine XDrop.desk (by assumption) ?_) | (with_reducible first | refine XArr.ints (by omega) (by omega) (by omega) ?_ | refine XArr.intsA (by omega) (by omega) (by omega) ?_) | ((with_reducible first | refine XArr.nats ?_ ?_ ?_ | refine XArr.natsA ?_ ?_ ?_ | refine XArr.ptr ?_ ?_ ?_); omega; omega)); conv => whnf) | (apply Walk.drawN (id := 1) tab_ok mixed_ok [] [] (hsU _) [_, _, _, _, _, _, _, _, _, _, _, _, _, _, _, _, _, _, _, _, _, _, _, _, _, _, _] (by kernel_rfl) rfl) | (apply Walk.drawN (id := 15) tab_ok mixed_ok [] [] (hsU _) [_, _, _, _, _, _, _, _, _, _, _, _, _, _, _, _, _, _, _, _, _, _] (by kernel_rfl) rfl) | ((first | (with_reducible apply XNext.mk) | (refine XCall.ret hin ?_)); conv => whnf) | ((with_reducible apply XBr.mk') <;> (intro h; conv => whnf))
    exact ⟨.low rfl⟩
  · rw [hi] at hin
    rw [if_pos rfl]
    refine Comp.body (T := tab) (res := [.tmp 4, .tmp 5]) tab_ok [] Try.func130 rfl (by kernel_rfl) Try.ntmps130 rfl (by simp only [List.length_cons, List.length_nil]; decide) (by simp only [lowL, dskL, AV.low, lowI]; rfl) ?_; conv => whnf
    repeat' first | ((with_reducible first | apply XBr.tt | apply XBr.ff | apply Chk.go | apply ChkA.go | apply ChkF.go | apply ChkB.go | apply XArr.pim0 | apply XArr.pim1); conv => whnf) | (with_reducible apply XBr.not) | ((with_reducible apply XBr.dec) <;> (intro h; first | (exfalso; omega) | ((try simp only [List.length_map] at h); first | (exfalso; omega) | (conv => whnf)))) | ((with_reducible first | apply XBr.beq | apply XBr.bne) <;> (intro h; first | (exfalso; omega) | (conv => whnf))) | ((with_reducible refine XInt.i64 (by omega) (by omega) ?_); conv => whnf) | ((with_reducible refine XHold.mk ?_ ?_); (first | omega | rfl | decide | exact ⟨rfl, by decide, rfl⟩ | exact wideI _ | exact widePr _ | exact wideSk _ | (unfold Room; constructor <;> ((try simp) <;> omega)) | exact ⟨rfl, by simp only [List.length_map], by unfold Room; constructor <;> ((try simp) <;> omega)⟩ | exact ⟨by omega, by omega, by unfold Room; constructor <;> ((try simp) <;> omega)⟩); conv => whnf) | ((first | ((with_reducible refine XIx.nat ?_ ?_ ?_); omega; (intro _; rfl)) | ((with_reducible refine XIx.map ?_ ?_ ?_ ?_); omega; omega; (intro _; rfl))); conv => whnf) | (with_reducible apply XAnd.mk) | (exact XSame.mk rfl rfl) | (exact XSame.mk (by first | rfl | (simp only [List.map_append, List.length_append, List.length_map]; done) | (simp only [List.map_append, List.length_append, List.length_map]; rfl)) (by first | rfl | (simp only [List.map_append]; done) | (simp only [List.map_append]; rfl))) | (with_reducible exact trivial) | ((first | (with_reducible refine xdrop_app (by rw [List.length_map]; omega) ?_) | (with_reducible refine XDrop.desk (by assumption) ?_) | (with_reducible first | refine XArr.ints (by omega) (by omega) (by omega) ?_ | refine XArr.intsA (by omega) (by omega) (by omega) ?_) | ((with_reducible first | refine XArr.nats ?_ ?_ ?_ | refine XArr.natsA ?_ ?_ ?_ | refine XArr.ptr ?_ ?_ ?_); omega; omega)); conv => whnf) | (apply Walk.drawN (id := 1) tab_ok mixed_ok [] [] (hsU _) [_, _, _, _, _, _, _, _, _, _, _, _, _, _, _, _, _, _, _, _, _, _, _, _, _, _, _] (by kernel_rfl) rfl) | (apply Walk.drawN (id := 15) tab_ok mixed_ok [] [] (hsU _) [_, _, _, _, _, _, _, _, _, _, _, _, _, _, _, _, _, _, _, _, _, _] (by kernel_rfl) rfl) | ((first | (with_reducible apply XNext.mk) | (refine XCall.ret hin ?_)); conv => whnf) | ((with_reducible apply XBr.mk') <;> (intro h; conv => whnf))
    refine Walk.nilgr 6 56 rfl ?_
    refine Walk.loopGK tab_ok [] [(0, _), (1, _), (4, _), (5, _), (44, _), (45, _)] ⟨rfl, rfl, rfl, rfl, rfl, rfl, trivial⟩ (fun q : Nat × List (Int × Int) => q.1 ≤ b.months.length ∧ chK b c q.1 = some q.2) (fun q => [(6, .gr 0 q.2.length), (46, natA q.1)]) (fun q => [.grow 56 q.2.isEmpty (chsA q.2)]) (fun q => b.months.length - q.1) (0, []) ⟨Nat.zero_le _, rfl⟩ rfl ⟨rfl, rfl, trivial⟩ ?_ (fun _ _ => (show (1 : Nat) ≤ 1 from Nat.le_refl 1)) ?_
    · intro q _
      refine ⟨fun z hz => ?_, fun z hz => ?_⟩
      · rw [List.mem_singleton] at hz; subst hz; exact chs_low _
      · simp only [List.cons_append, List.nil_append, List.mem_cons, List.not_mem_nil, or_false] at hz
        rcases hz with rfl | rfl | rfl | rfl | rfl | rfl | rfl | rfl <;> first | rfl | exact dskL b | exact lowI _ | exact lowMo _
    rintro ⟨m, l⟩ ⟨hm, hk⟩
    dsimp only at hm hk ⊢
    have hlen := chK_len hk
    have hcl : (chsA l).length = l.length := List.length_map _
    conv => whnf
    by_cases hmM : m < b.months.length
    · have hmo := ok.mo' hmM
      have hcm := hcv m (by omega)
      have hcm2 := hcv (m + 1) (by omega)
      have hnx : chK b c (m + 1) = match fstC b m (c.getD m default) (c.getD (m + 1) default) with | none => none | some x => some (l ++ [x]) := by rw [chK, hk]
      have hno : chK b c (m + 1) = none → chK b c b.months.length = none := fun h => by
        have := chK_none h (b.months.length - (m + 1))
        rwa [show m + 1 + (b.months.length - (m + 1)) = b.months.length by omega] at this
      repeat' first | ((with_reducible first | apply XBr.tt | apply XBr.ff | apply Chk.go | apply ChkA.go | apply ChkF.go | apply ChkB.go | apply XArr.pim0 | apply XArr.pim1); conv => whnf) | (with_reducible apply XBr.not) | ((with_reducible apply XBr.dec) <;> (intro h; first | (exfalso; omega) | ((try simp only [List.length_map] at h); first | (exfalso; omega) | (conv => whnf)))) | ((with_reducible first | apply XBr.beq | apply XBr.bne) <;> (intro h; first | (exfalso; omega) | (conv => whnf))) | ((with_reducible refine XInt.i64 (by omega) (by omega) ?_); conv => whnf) | ((with_reducible refine XHold.mk ?_ ?_); (first | omega | rfl | decide | exact ⟨rfl, by decide, rfl⟩ | exact wideI _ | exact widePr _ | exact wideSk _ | (unfold Room; constructor <;> ((try simp) <;> omega)) | exact ⟨rfl, by simp only [List.length_map], by unfold Room; constructor <;> ((try simp) <;> omega)⟩ | exact ⟨by omega, by omega, by unfold Room; constructor <;> ((try simp) <;> omega)⟩); conv => whnf) | ((first | ((with_reducible refine XIx.nat ?_ ?_ ?_); omega; (intro _; rfl)) | ((with_reducible refine XIx.map ?_ ?_ ?_ ?_); omega; omega; (intro _; rfl))); conv => whnf) | (with_reducible apply XAnd.mk) | (exact XSame.mk rfl rfl) | (exact XSame.mk (by first | rfl | (simp only [List.map_append, List.length_append, List.length_map]; done) | (simp only [List.map_append, List.length_append, List.length_map]; rfl)) (by first | rfl | (simp only [List.map_append]; done) | (simp only [List.map_append]; rfl))) | (with_reducible exact trivial) | ((first | (with_reducible refine xdrop_app (by rw [List.length_map]; omega) ?_) | (with_reducible refine XDrop.desk (by assumption) ?_) | (with_reducible first | refine XArr.ints (by omega) (by omega) (by omega) ?_ | refine XArr.intsA (by omega) (by omega) (by omega) ?_) | ((with_reducible first | refine XArr.nats ?_ ?_ ?_ | refine XArr.natsA ?_ ?_ ?_ | refine XArr.ptr ?_ ?_ ?_); omega; omega)); conv => whnf) | (apply Walk.drawN (id := 1) tab_ok mixed_ok [] [] (hsU _) [_, _, _, _, _, _, _, _, _, _, _, _, _, _, _, _, _, _, _, _, _, _, _, _, _, _, _] (by kernel_rfl) rfl) | (apply Walk.drawN (id := 15) tab_ok mixed_ok [] [] (hsU _) [_, _, _, _, _, _, _, _, _, _, _, _, _, _, _, _, _, _, _, _, _, _] (by kernel_rfl) rfl) | ((with_reducible apply XNext.mk); conv => whnf) | ((with_reducible apply XBr.mk') <;> (intro h; conv => whnf))
      refine Walk.scope tab_ok [] ?_
      conv => whnf
      repeat' first | ((with_reducible first | apply XBr.tt | apply XBr.ff | apply Chk.go | apply ChkA.go | apply ChkF.go | apply ChkB.go | apply XArr.pim0 | apply XArr.pim1); conv => whnf) | (with_reducible apply XBr.not) | ((with_reducible apply XBr.dec) <;> (intro h; first | (exfalso; omega) | ((try simp only [List.length_map] at h); first | (exfalso; omega) | (conv => whnf)))) | ((with_reducible first | apply XBr.beq | apply XBr.bne) <;> (intro h; first | (exfalso; omega) | (conv => whnf))) | ((with_reducible refine XInt.i64 (by omega) (by omega) ?_); conv => whnf) | ((with_reducible refine XHold.mk ?_ ?_); (first | omega | rfl | decide | exact ⟨rfl, by decide, rfl⟩ | exact wideI _ | exact widePr _ | exact wideSk _ | (unfold Room; constructor <;> ((try simp) <;> omega)) | exact ⟨rfl, by simp only [List.length_map], by unfold Room; constructor <;> ((try simp) <;> omega)⟩ | exact ⟨by omega, by omega, by unfold Room; constructor <;> ((try simp) <;> omega)⟩); conv => whnf) | ((first | ((with_reducible refine XIx.nat ?_ ?_ ?_); omega; (intro _; rfl)) | ((with_reducible refine XIx.map ?_ ?_ ?_ ?_); omega; omega; (intro _; rfl))); conv => whnf) | (with_reducible apply XAnd.mk) | (exact XSame.mk rfl rfl) | (exact XSame.mk (by first | rfl | (simp only [List.map_append, List.length_append, List.length_map]; done) | (simp only [List.map_append, List.length_append, List.length_map]; rfl)) (by first | rfl | (simp only [List.map_append]; done) | (simp only [List.map_append]; rfl))) | (with_reducible exact trivial) | ((first | (with_reducible refine xdrop_app (by rw [List.length_map]; omega) ?_) | (with_reducible refine XDrop.desk (by assumption) ?_) | (with_reducible first | refine XArr.ints (by omega) (by omega) (by omega) ?_ | refine XArr.intsA (by omega) (by omega) (by omega) ?_) | ((with_reducible first | refine XArr.nats ?_ ?_ ?_ | refine XArr.natsA ?_ ?_ ?_ | refine XArr.ptr ?_ ?_ ?_); omega; omega)); conv => whnf) | (apply Walk.drawN (id := 1) tab_ok mixed_ok [] [] (hsU _) [_, _, _, _, _, _, _, _, _, _, _, _, _, _, _, _, _, _, _, _, _, _, _, _, _, _, _] (by kernel_rfl) rfl) | (apply Walk.drawN (id := 15) tab_ok mixed_ok [] [] (hsU _) [_, _, _, _, _, _, _, _, _, _, _, _, _, _, _, _, _, _, _, _, _, _] (by kernel_rfl) rfl) | ((with_reducible apply XNext.mk); conv => whnf) | ((with_reducible apply XBr.mk') <;> (intro h; conv => whnf))
      refine Walk.label ?_
      conv => whnf
      repeat' first | ((with_reducible first | apply XBr.tt | apply XBr.ff | apply Chk.go | apply ChkA.go | apply ChkF.go | apply ChkB.go | apply XArr.pim0 | apply XArr.pim1); conv => whnf) | (with_reducible apply XBr.not) | ((with_reducible apply XBr.dec) <;> (intro h; first | (exfalso; omega) | ((try simp only [List.length_map] at h); first | (exfalso; omega) | (conv => whnf)))) | ((with_reducible first | apply XBr.beq | apply XBr.bne) <;> (intro h; first | (exfalso; omega) | (conv => whnf))) | ((with_reducible refine XInt.i64 (by omega) (by omega) ?_); conv => whnf) | ((with_reducible refine XHold.mk ?_ ?_); (first | omega | rfl | decide | exact ⟨rfl, by decide, rfl⟩ | exact wideI _ | exact widePr _ | exact wideSk _ | (unfold Room; constructor <;> ((try simp) <;> omega)) | exact ⟨rfl, by simp only [List.length_map], by unfold Room; constructor <;> ((try simp) <;> omega)⟩ | exact ⟨by omega, by omega, by unfold Room; constructor <;> ((try simp) <;> omega)⟩); conv => whnf) | ((first | ((with_reducible refine XIx.nat ?_ ?_ ?_); omega; (intro _; rfl)) | ((with_reducible refine XIx.map ?_ ?_ ?_ ?_); omega; omega; (intro _; rfl))); conv => whnf) | (with_reducible apply XAnd.mk) | (exact XSame.mk rfl rfl) | (exact XSame.mk (by first | rfl | (simp only [List.map_append, List.length_append, List.length_map]; done) | (simp only [List.map_append, List.length_append, List.length_map]; rfl)) (by first | rfl | (simp only [List.map_append]; done) | (simp only [List.map_append]; rfl))) | (with_reducible exact trivial) | ((first | (with_reducible refine xdrop_app (by rw [List.length_map]; omega) ?_) | (with_reducible refine XDrop.desk (by assumption) ?_) | (with_reducible first | refine XArr.ints (by omega) (by omega) (by omega) ?_ | refine XArr.intsA (by omega) (by omega) (by omega) ?_) | ((with_reducible first | refine XArr.nats ?_ ?_ ?_ | refine XArr.natsA ?_ ?_ ?_ | refine XArr.ptr ?_ ?_ ?_); omega; omega)); conv => whnf) | (apply Walk.drawN (id := 1) tab_ok mixed_ok [] [] (hsU _) [_, _, _, _, _, _, _, _, _, _, _, _, _, _, _, _, _, _, _, _, _, _, _, _, _, _, _] (by kernel_rfl) rfl) | (apply Walk.drawN (id := 15) tab_ok mixed_ok [] [] (hsU _) [_, _, _, _, _, _, _, _, _, _, _, _, _, _, _, _, _, _, _, _, _, _] (by kernel_rfl) rfl) | ((with_reducible apply XNext.mk); conv => whnf) | ((with_reducible apply XBr.mk') <;> (intro h; conv => whnf))
      have hms : ((m : Int) + 1).toNat = m + 1 := by omega
      refine Walk.loopK tab_ok [] [(0, _), (1, _), (4, _), (5, _), (6, _), (7, _), (8, _), (9, _), (10, _), (44, _), (45, _), (46, _)] ⟨rfl, rfl, rfl, rfl, rfl, rfl, rfl, rfl, rfl, rfl, rfl, rfl, trivial⟩ (fun sp : Nat => (moB b m).pl ≤ sp ∧ (sp : Int) ≤ (moB b m).ph + 1 ∧ fF (spS b m (c.getD m default) (c.getD (m + 1) default)) sp (moB b m).ph = fstC b m (c.getD m default) (c.getD (m + 1) default)) (fun sp => [(11, natA sp)]) (fun _ => [.grow 56 l.isEmpty (chsA l), .cells (moC (moB b m)), .cells [.int .i64 (-1), .int .i64 (-1)], .cells [.int .i64 (-1), .int .i64 (-1)]]) (fun sp => ((moB b m).ph + 1).toNat - sp) (moB b m).pl.toNat ⟨by omega, by omega, rfl⟩ rfl ⟨congrArg (fun z => some (AV.int .i64 z)) (show (moB b m).pl = (((moB b m).pl.toNat : Nat) : Int) by omega), trivial⟩ ?_
      rintro sp ⟨hs1, hs2, hsf⟩
      conv => whnf
      by_cases hsp : (sp : Int) ≤ (moB b m).ph
      · have hsp' : (sp : Int) ≤ (b.months.getD m default).ph := hsp
        repeat' first | ((with_reducible first | apply XBr.tt | apply XBr.ff | apply Chk.go | apply ChkA.go | apply ChkF.go | apply ChkB.go | apply XArr.pim0 | apply XArr.pim1); conv => whnf) | (with_reducible apply XBr.not) | ((with_reducible apply XBr.dec) <;> (intro h; first | (exfalso; omega) | ((try simp only [List.length_map] at h); first | (exfalso; omega) | (conv => whnf)))) | ((with_reducible first | apply XBr.beq | apply XBr.bne) <;> (intro h; first | (exfalso; omega) | (conv => whnf))) | ((with_reducible refine XInt.i64 (by omega) (by omega) ?_); conv => whnf) | ((with_reducible refine XHold.mk ?_ ?_); (first | omega | rfl | decide | exact ⟨rfl, by decide, rfl⟩ | exact wideI _ | exact widePr _ | exact wideSk _ | (unfold Room; constructor <;> ((try simp) <;> omega)) | exact ⟨rfl, by simp only [List.length_map], by unfold Room; constructor <;> ((try simp) <;> omega)⟩ | exact ⟨by omega, by omega, by unfold Room; constructor <;> ((try simp) <;> omega)⟩); conv => whnf) | ((first | ((with_reducible refine XIx.nat ?_ ?_ ?_); omega; (intro _; rfl)) | ((with_reducible refine XIx.map ?_ ?_ ?_ ?_); omega; omega; (intro _; rfl))); conv => whnf) | (with_reducible apply XAnd.mk) | (exact XSame.mk rfl rfl) | (exact XSame.mk (by first | rfl | (simp only [List.map_append, List.length_append, List.length_map]; done) | (simp only [List.map_append, List.length_append, List.length_map]; rfl)) (by first | rfl | (simp only [List.map_append]; done) | (simp only [List.map_append]; rfl))) | (with_reducible exact trivial) | ((first | (with_reducible refine xdrop_app (by rw [List.length_map]; omega) ?_) | (with_reducible refine XDrop.desk (by assumption) ?_) | (with_reducible first | refine XArr.ints (by omega) (by omega) (by omega) ?_ | refine XArr.intsA (by omega) (by omega) (by omega) ?_) | ((with_reducible first | refine XArr.nats ?_ ?_ ?_ | refine XArr.natsA ?_ ?_ ?_ | refine XArr.ptr ?_ ?_ ?_); omega; omega)); conv => whnf) | (apply Walk.drawN (id := 1) tab_ok mixed_ok [] [] (hsU _) [_, _, _, _, _, _, _, _, _, _, _, _, _, _, _, _, _, _, _, _, _, _, _, _, _, _, _] (by kernel_rfl) rfl) | (apply Walk.drawN (id := 15) tab_ok mixed_ok [] [] (hsU _) [_, _, _, _, _, _, _, _, _, _, _, _, _, _, _, _, _, _, _, _, _, _] (by kernel_rfl) rfl) | ((with_reducible apply XNext.mk); conv => whnf) | ((with_reducible apply XBr.mk') <;> (intro h; conv => whnf))
        refine Walk.loopK tab_ok [] [(0, _), (1, _), (4, _), (5, _), (6, _), (7, _), (8, _), (9, _), (10, _), (11, _), (44, _), (45, _), (46, _)] ⟨rfl, rfl, rfl, rfl, rfl, rfl, rfl, rfl, rfl, rfl, rfl, rfl, rfl, trivial⟩ (fun st : Nat => (moB b m).tl ≤ st ∧ (st : Int) ≤ (moB b m).th + 1 ∧ fF (stS b m (c.getD m default) (c.getD (m + 1) default) sp) st (moB b m).th = spS b m (c.getD m default) (c.getD (m + 1) default) sp) (fun st => [(12, natA st)]) (fun _ => [.grow 56 l.isEmpty (chsA l), .cells (moC (moB b m)), .cells [.int .i64 (-1), .int .i64 (-1)], .cells [.int .i64 (-1), .int .i64 (-1)]]) (fun st => ((moB b m).th + 1).toNat - st) (moB b m).tl.toNat ⟨by omega, by omega, rfl⟩ rfl ⟨congrArg (fun z => some (AV.int .i64 z)) (show (moB b m).tl = (((moB b m).tl.toNat : Nat) : Int) by omega), trivial⟩ ?_
        rintro st ⟨ht1, ht2, htf⟩
        conv => whnf
        by_cases hst : (st : Int) ≤ (moB b m).th
        · have hst' : (st : Int) ≤ (b.months.getD m default).th := hst
          have hgc := gross_c b m (c.getD m default) sp st hmM hcm.1 (by omega) hmo.1 hmo.2.1 (by omega) (by omega) (by omega) (by omega) (by omega) (by omega)
          change Comp Try.prog _ _ (.int .i64 (grossR b.room (moB b m).g (c.getD m default) sp st)) at hgc
          have hgb := grossR_le (room := b.room) (g := (moB b m).g) (a := c.getD m default) (sp := sp) (st := st) (by omega) (by omega)
          have hhit : stS b m (c.getD m default) (c.getD (m + 1) default) sp st = if grossR b.room (moB b m).g (c.getD m default) sp st - (moB b m).r = c.getD (m + 1) default then some ((sp : Int), (st : Int)) else none := by
            unfold stS hitB
            by_cases h : grossR b.room (moB b m).g (c.getD m default) sp st - (moB b m).r = c.getD (m + 1) default
            · rw [if_pos h, if_pos (by rw [h]; exact beq_self_eq_true _)]
            · rw [if_neg h, if_neg (by rw [beq_eq_false_iff_ne.2 h]; simp)]
          generalize grossR b.room (moB b m).g (c.getD m default) sp st = gz at hgc hgb hhit
          repeat' first | ((with_reducible first | apply XBr.tt | apply XBr.ff | apply Chk.go | apply ChkA.go | apply ChkF.go | apply ChkB.go | apply XArr.pim0 | apply XArr.pim1); conv => whnf) | (with_reducible apply XBr.not) | ((with_reducible apply XBr.dec) <;> (intro h; first | (exfalso; omega) | ((try simp only [List.length_map] at h); first | (exfalso; omega) | (conv => whnf)))) | ((with_reducible first | apply XBr.beq | apply XBr.bne) <;> (intro h; first | (exfalso; omega) | (conv => whnf))) | ((with_reducible refine XInt.i64 (by omega) (by omega) ?_); conv => whnf) | ((with_reducible refine XHold.mk ?_ ?_); (first | omega | rfl | decide | exact ⟨rfl, by decide, rfl⟩ | exact wideI _ | exact widePr _ | exact wideSk _ | (unfold Room; constructor <;> ((try simp) <;> omega)) | exact ⟨rfl, by simp only [List.length_map], by unfold Room; constructor <;> ((try simp) <;> omega)⟩ | exact ⟨by omega, by omega, by unfold Room; constructor <;> ((try simp) <;> omega)⟩); conv => whnf) | ((first | ((with_reducible refine XIx.nat ?_ ?_ ?_); omega; (intro _; rfl)) | ((with_reducible refine XIx.map ?_ ?_ ?_ ?_); omega; omega; (intro _; rfl))); conv => whnf) | (with_reducible apply XAnd.mk) | (exact XSame.mk rfl rfl) | (exact XSame.mk (by first | rfl | (simp only [List.map_append, List.length_append, List.length_map]; done) | (simp only [List.map_append, List.length_append, List.length_map]; rfl)) (by first | rfl | (simp only [List.map_append]; done) | (simp only [List.map_append]; rfl))) | (with_reducible exact trivial) | ((first | (with_reducible refine xdrop_app (by rw [List.length_map]; omega) ?_) | (with_reducible refine XDrop.desk (by assumption) ?_) | (with_reducible first | refine XArr.ints (by omega) (by omega) (by omega) ?_ | refine XArr.intsA (by omega) (by omega) (by omega) ?_) | ((with_reducible first | refine XArr.nats ?_ ?_ ?_ | refine XArr.natsA ?_ ?_ ?_ | refine XArr.ptr ?_ ?_ ?_); omega; omega)); conv => whnf) | (apply Walk.drawN (id := 1) tab_ok mixed_ok [] [] (hsU _) [_, _, _, _, _, _, _, _, _, _, _, _, _, _, _, _, _, _, _, _, _, _, _, _, _, _, _] (by kernel_rfl) rfl) | (apply Walk.drawN (id := 15) tab_ok mixed_ok [] [] (hsU _) [_, _, _, _, _, _, _, _, _, _, _, _, _, _, _, _, _, _, _, _, _, _] (by kernel_rfl) rfl) | ((first | (with_reducible apply XNext.mk) | (refine XCall.ret hgc ?_) | (refine XInt.i64 (show _ ≤ gz - (moB b m).r by omega) (show gz - (moB b m).r ≤ _ by omega) ?_) | (refine XEqA.mk ⟨[(sp : Int), (st : Int)], [-1, -1], rfl, rfl, rfl, rfl, ?_⟩)); conv => whnf) | ((refine XHold.mk ⟨rfl, hcl, by unfold Room; constructor <;> (simp only [List.length_cons, List.length_nil]; omega)⟩ ?_); conv => whnf) | ((with_reducible apply XBr.mk') <;> (intro h; conv => whnf))
          · exfalso
            have h' : [(sp : Int), (st : Int)] = [-1, -1] := by simp at h
            injection h' with h1 h2; omega
          · rename_i hh
            rw [hms] at hh
            rw [if_pos hh] at hhit
            have hsp2 : spS b m (c.getD m default) (c.getD (m + 1) default) sp = some ((sp : Int), (st : Int)) := by rw [← htf]; exact fF_some hst hhit
            have hfs : fstC b m (c.getD m default) (c.getD (m + 1) default) = some ((sp : Int), (st : Int)) := by rw [← hsf]; exact fF_some hsp hsp2
            rw [hfs] at hnx
            refine XAgainG.go (m + 1, l ++ [((sp : Int), (st : Int))]) [.cells (moC (moB b m)), .cells [.int .i64 (-1), .int .i64 (-1)], .cells [natA sp, natA st]] ⟨by dsimp only; omega, hnx⟩ (by dsimp only; omega) ?_ ⟨rfl, rfl, rfl, rfl, rfl, rfl, ?_, rfl, trivial⟩
            · show [Blk.grow _ (l ++ [_]).isEmpty ((l ++ [_]).map prA)] ++ _ = _
              rw [isEmpty_app, List.map_append]; rfl
            · show some (AV.gr 0 (l.length + 1)) = _
              rw [List.length_append]; rfl
          · have hh := h
            rw [hms] at hh
            rw [if_neg hh] at hhit
            exact XAgain.go (st + 1) ⟨by omega, by omega, by rw [← htf]; exact (fF_none hst hhit).symm⟩ (by omega) rfl ⟨rfl, rfl, rfl, rfl, rfl, rfl, rfl, rfl, rfl, rfl, rfl, rfl, rfl, rfl, trivial⟩
        · have hst' : ¬ (st : Int) ≤ (b.months.getD m default).th := hst
          repeat' first | ((with_reducible first | apply XBr.tt | apply XBr.ff | apply Chk.go | apply ChkA.go | apply ChkF.go | apply ChkB.go | apply XArr.pim0 | apply XArr.pim1); conv => whnf) | (with_reducible apply XBr.not) | ((with_reducible apply XBr.dec) <;> (intro h; first | (exfalso; omega) | ((try simp only [List.length_map] at h); first | (exfalso; omega) | (conv => whnf)))) | ((with_reducible first | apply XBr.beq | apply XBr.bne) <;> (intro h; first | (exfalso; omega) | (conv => whnf))) | ((with_reducible refine XInt.i64 (by omega) (by omega) ?_); conv => whnf) | ((with_reducible refine XHold.mk ?_ ?_); (first | omega | rfl | decide | exact ⟨rfl, by decide, rfl⟩ | exact wideI _ | exact widePr _ | exact wideSk _ | (unfold Room; constructor <;> ((try simp) <;> omega)) | exact ⟨rfl, by simp only [List.length_map], by unfold Room; constructor <;> ((try simp) <;> omega)⟩ | exact ⟨by omega, by omega, by unfold Room; constructor <;> ((try simp) <;> omega)⟩); conv => whnf) | ((first | ((with_reducible refine XIx.nat ?_ ?_ ?_); omega; (intro _; rfl)) | ((with_reducible refine XIx.map ?_ ?_ ?_ ?_); omega; omega; (intro _; rfl))); conv => whnf) | (with_reducible apply XAnd.mk) | (exact XSame.mk rfl rfl) | (exact XSame.mk (by first | rfl | (simp only [List.map_append, List.length_append, List.length_map]; done) | (simp only [List.map_append, List.length_append, List.length_map]; rfl)) (by first | rfl | (simp only [List.map_append]; done) | (simp only [List.map_append]; rfl))) | (with_reducible exact trivial) | ((first | (with_reducible refine xdrop_app (by rw [List.length_map]; omega) ?_) | (with_reducible refine XDrop.desk (by assumption) ?_) | (with_reducible first | refine XArr.ints (by omega) (by omega) (by omega) ?_ | refine XArr.intsA (by omega) (by omega) (by omega) ?_) | ((with_reducible first | refine XArr.nats ?_ ?_ ?_ | refine XArr.natsA ?_ ?_ ?_ | refine XArr.ptr ?_ ?_ ?_); omega; omega)); conv => whnf) | (apply Walk.drawN (id := 1) tab_ok mixed_ok [] [] (hsU _) [_, _, _, _, _, _, _, _, _, _, _, _, _, _, _, _, _, _, _, _, _, _, _, _, _, _, _] (by kernel_rfl) rfl) | (apply Walk.drawN (id := 15) tab_ok mixed_ok [] [] (hsU _) [_, _, _, _, _, _, _, _, _, _, _, _, _, _, _, _, _, _, _, _, _, _] (by kernel_rfl) rfl) | ((with_reducible apply XNext.mk); conv => whnf) | ((with_reducible apply XBr.mk') <;> (intro h; conv => whnf))
          have hsp2 : spS b m (c.getD m default) (c.getD (m + 1) default) sp = none := by rw [← htf]; exact fF_end (by omega)
          exact XAgain.go (sp + 1) ⟨by omega, by omega, by rw [← hsf]; exact (fF_none hsp hsp2).symm⟩ (by omega) rfl ⟨rfl, rfl, rfl, rfl, rfl, rfl, rfl, rfl, rfl, rfl, rfl, rfl, rfl, trivial⟩
      · have hsp' : ¬ (sp : Int) ≤ (b.months.getD m default).ph := hsp
        repeat' first | ((with_reducible first | apply XBr.tt | apply XBr.ff | apply Chk.go | apply ChkA.go | apply ChkF.go | apply ChkB.go | apply XArr.pim0 | apply XArr.pim1); conv => whnf) | (with_reducible apply XBr.not) | ((with_reducible apply XBr.dec) <;> (intro h; first | (exfalso; omega) | ((try simp only [List.length_map] at h); first | (exfalso; omega) | (conv => whnf)))) | ((with_reducible first | apply XBr.beq | apply XBr.bne) <;> (intro h; first | (exfalso; omega) | (conv => whnf))) | ((with_reducible refine XInt.i64 (by omega) (by omega) ?_); conv => whnf) | ((with_reducible refine XHold.mk ?_ ?_); (first | omega | rfl | decide | exact ⟨rfl, by decide, rfl⟩ | exact wideI _ | exact widePr _ | exact wideSk _ | (unfold Room; constructor <;> ((try simp) <;> omega)) | exact ⟨rfl, by simp only [List.length_map], by unfold Room; constructor <;> ((try simp) <;> omega)⟩ | exact ⟨by omega, by omega, by unfold Room; constructor <;> ((try simp) <;> omega)⟩); conv => whnf) | ((first | ((with_reducible refine XIx.nat ?_ ?_ ?_); omega; (intro _; rfl)) | ((with_reducible refine XIx.map ?_ ?_ ?_ ?_); omega; omega; (intro _; rfl))); conv => whnf) | (with_reducible apply XAnd.mk) | (exact XSame.mk rfl rfl) | (exact XSame.mk (by first | rfl | (simp only [List.map_append, List.length_append, List.length_map]; done) | (simp only [List.map_append, List.length_append, List.length_map]; rfl)) (by first | rfl | (simp only [List.map_append]; done) | (simp only [List.map_append]; rfl))) | (with_reducible exact trivial) | ((first | (with_reducible refine xdrop_app (by rw [List.length_map]; omega) ?_) | (with_reducible refine XDrop.desk (by assumption) ?_) | (with_reducible first | refine XArr.ints (by omega) (by omega) (by omega) ?_ | refine XArr.intsA (by omega) (by omega) (by omega) ?_) | ((with_reducible first | refine XArr.nats ?_ ?_ ?_ | refine XArr.natsA ?_ ?_ ?_ | refine XArr.ptr ?_ ?_ ?_); omega; omega)); conv => whnf) | (apply Walk.drawN (id := 1) tab_ok mixed_ok [] [] (hsU _) [_, _, _, _, _, _, _, _, _, _, _, _, _, _, _, _, _, _, _, _, _, _, _, _, _, _, _] (by kernel_rfl) rfl) | (apply Walk.drawN (id := 15) tab_ok mixed_ok [] [] (hsU _) [_, _, _, _, _, _, _, _, _, _, _, _, _, _, _, _, _, _, _, _, _, _] (by kernel_rfl) rfl) | ((first | (with_reducible apply XNext.mk) | (refine XEqA.mk ⟨[-1, -1], [-1, -1], rfl, rfl, rfl, rfl, ?_⟩)); conv => whnf) | ((with_reducible apply XBr.mk') <;> (intro h; conv => whnf))
        · have hfs : fstC b m (c.getD m default) (c.getD (m + 1) default) = none := by rw [← hsf]; exact fF_end (by omega)
          rw [hfs] at hnx
          rw [hno hnx]; exact ⟨.low rfl⟩
        · exfalso; simp at h
    · obtain rfl : m = b.months.length := by omega
      rw [hk]
      repeat' first | ((with_reducible first | apply XBr.tt | apply XBr.ff | apply Chk.go | apply ChkA.go | apply ChkF.go | apply ChkB.go | apply XArr.pim0 | apply XArr.pim1); conv => whnf) | (with_reducible apply XBr.not) | ((with_reducible apply XBr.dec) <;> (intro h; first | (exfalso; omega) | ((try simp only [List.length_map] at h); first | (exfalso; omega) | (conv => whnf)))) | ((with_reducible first | apply XBr.beq | apply XBr.bne) <;> (intro h; first | (exfalso; omega) | (conv => whnf))) | ((with_reducible refine XInt.i64 (by omega) (by omega) ?_); conv => whnf) | ((with_reducible refine XHold.mk ?_ ?_); (first | omega | rfl | decide | exact ⟨rfl, by decide, rfl⟩ | exact wideI _ | exact widePr _ | exact wideSk _ | (unfold Room; constructor <;> ((try simp) <;> omega)) | exact ⟨rfl, by simp only [List.length_map], by unfold Room; constructor <;> ((try simp) <;> omega)⟩ | exact ⟨by omega, by omega, by unfold Room; constructor <;> ((try simp) <;> omega)⟩); conv => whnf) | ((first | ((with_reducible refine XIx.nat ?_ ?_ ?_); omega; (intro _; rfl)) | ((with_reducible refine XIx.map ?_ ?_ ?_ ?_); omega; omega; (intro _; rfl))); conv => whnf) | (with_reducible apply XAnd.mk) | (exact XSame.mk rfl rfl) | (exact XSame.mk (by first | rfl | (simp only [List.map_append, List.length_append, List.length_map]; done) | (simp only [List.map_append, List.length_append, List.length_map]; rfl)) (by first | rfl | (simp only [List.map_append]; done) | (simp only [List.map_append]; rfl))) | (with_reducible exact trivial) | ((first | (with_reducible refine xdrop_app (by rw [List.length_map]; omega) ?_) | (with_reducible refine XDrop.desk (by assumption) ?_) | (with_reducible first | refine XArr.ints (by omega) (by omega) (by omega) ?_ | refine XArr.intsA (by omega) (by omega) (by omega) ?_) | ((with_reducible first | refine XArr.nats ?_ ?_ ?_ | refine XArr.natsA ?_ ?_ ?_ | refine XArr.ptr ?_ ?_ ?_); omega; omega)); conv => whnf) | (apply Walk.drawN (id := 1) tab_ok mixed_ok [] [] (hsU _) [_, _, _, _, _, _, _, _, _, _, _, _, _, _, _, _, _, _, _, _, _, _, _, _, _, _, _] (by kernel_rfl) rfl) | (apply Walk.drawN (id := 15) tab_ok mixed_ok [] [] (hsU _) [_, _, _, _, _, _, _, _, _, _, _, _, _, _, _, _, _, _, _, _, _, _] (by kernel_rfl) rfl) | ((with_reducible apply XNext.mk); conv => whnf) | ((with_reducible apply XBr.mk') <;> (intro h; conv => whnf))
      exact ⟨Froz.tup (.cons (Froz.grow rfl hcl (chs_low _)) (.cons (.low rfl) .nil))⟩
def chancesA (b : Bd) (c : List Int) : AV := if courE b c ≠ 0 then .tup [.sl true [], .int .i64 (courE b c)] else match chR b c with | none => .tup [.sl true [], .int .i64 8] | some l => .tup [.sl l.isEmpty (chsA l), .int .i64 0]
theorem chances_all_c (b : Bd) (nl : Bool) (c : List Int) (hm : b.months.length ≤ 100000) (hs : b.surveys.length ≤ 100000) (hl : c.length ≤ 100000) : Comp Try.prog 58 [bedA b, .sl nl (ints c)] (chancesA b c) := by
  have hco := coursed_c b nl c hm hs hl
  unfold courA at hco
  unfold chancesA
  by_cases hE : courE b c = 0
  · obtain ⟨ok, h1, h2⟩ := courE_iff.1 hE
    rw [if_neg (fun h => h hE)] at hco ⊢
    have hch := chances_c b ok.toBedOk nl c h1 h2
    cases hr : chR b c with
    | none =>
      rw [hr] at hch
      refine Comp.body (T := tab) (res := [.tmp 4, .tmp 5]) tab_ok [] Try.func58 rfl (by kernel_rfl) Try.ntmps58 rfl (by simp only [List.length_cons, List.length_nil]; decide) (by simp only [lowL, bedL, AV.low, lowI]; rfl) ?_; conv => whnf
      repeat' first | ((with_reducible first | apply XBr.tt | apply XBr.ff | apply Chk.go | apply ChkA.go | apply ChkF.go | apply ChkB.go | apply XArr.pim0 | apply XArr.pim1); conv => whnf) | (with_reducible apply XBr.not) | ((with_reducible apply XBr.dec) <;> (intro h; first | (exfalso; omega) | ((try simp only [List.length_map] at h); first | (exfalso; omega) | (conv => whnf)))) | ((with_reducible first | apply XBr.beq | apply XBr.bne) <;> (intro h; first | (exfalso; omega) | (conv => whnf))) | ((with_reducible refine XInt.i64 (by omega) (by omega) ?_); conv => whnf) | ((with_reducible refine XHold.mk ?_ ?_); (first | omega | rfl | decide | exact ⟨rfl, by decide, rfl⟩ | exact wideI _ | exact widePr _ | exact wideSk _ | (unfold Room; constructor <;> ((try simp) <;> omega)) | exact ⟨rfl, by simp only [List.length_map], by unfold Room; constructor <;> ((try simp) <;> omega)⟩ | exact ⟨by omega, by omega, by unfold Room; constructor <;> ((try simp) <;> omega)⟩); conv => whnf) | ((first | ((with_reducible refine XIx.nat ?_ ?_ ?_); omega; (intro _; rfl)) | ((with_reducible refine XIx.map ?_ ?_ ?_ ?_); omega; omega; (intro _; rfl))); conv => whnf) | (with_reducible apply XAnd.mk) | (exact XSame.mk rfl rfl) | (exact XSame.mk (by first | rfl | (simp only [List.map_append, List.length_append, List.length_map]; done) | (simp only [List.map_append, List.length_append, List.length_map]; rfl)) (by first | rfl | (simp only [List.map_append]; done) | (simp only [List.map_append]; rfl))) | (with_reducible exact trivial) | ((first | (with_reducible refine xdrop_app (by rw [List.length_map]; omega) ?_) | (with_reducible refine XDrop.desk (by assumption) ?_) | (with_reducible first | refine XArr.ints (by omega) (by omega) (by omega) ?_ | refine XArr.intsA (by omega) (by omega) (by omega) ?_) | ((with_reducible first | refine XArr.nats ?_ ?_ ?_ | refine XArr.natsA ?_ ?_ ?_ | refine XArr.ptr ?_ ?_ ?_); omega; omega) | (with_reducible apply XNext.mk) | (refine XCall.ret hco ?_) | (refine XCall.ret hch ?_)); conv => whnf) | ((with_reducible apply XBr.mk') <;> (intro h; conv => whnf))
      exact ⟨.low rfl⟩
    | some l =>
      rw [hr] at hch
      refine Comp.body (T := tab) (res := [.tmp 4, .tmp 5]) tab_ok [] Try.func58 rfl (by kernel_rfl) Try.ntmps58 rfl (by simp only [List.length_cons, List.length_nil]; decide) (by simp only [lowL, bedL, AV.low, lowI]; rfl) ?_; conv => whnf
      repeat' first | ((with_reducible first | apply XBr.tt | apply XBr.ff | apply Chk.go | apply ChkA.go | apply ChkF.go | apply ChkB.go | apply XArr.pim0 | apply XArr.pim1); conv => whnf) | (with_reducible apply XBr.not) | ((with_reducible apply XBr.dec) <;> (intro h; first | (exfalso; omega) | ((try simp only [List.length_map] at h); first | (exfalso; omega) | (conv => whnf)))) | ((with_reducible first | apply XBr.beq | apply XBr.bne) <;> (intro h; first | (exfalso; omega) | (conv => whnf))) | ((with_reducible refine XInt.i64 (by omega) (by omega) ?_); conv => whnf) | ((with_reducible refine XHold.mk ?_ ?_); (first | omega | rfl | decide | exact ⟨rfl, by decide, rfl⟩ | exact wideI _ | exact widePr _ | exact wideSk _ | (unfold Room; constructor <;> ((try simp) <;> omega)) | exact ⟨rfl, by simp only [List.length_map], by unfold Room; constructor <;> ((try simp) <;> omega)⟩ | exact ⟨by omega, by omega, by unfold Room; constructor <;> ((try simp) <;> omega)⟩); conv => whnf) | ((first | ((with_reducible refine XIx.nat ?_ ?_ ?_); omega; (intro _; rfl)) | ((with_reducible refine XIx.map ?_ ?_ ?_ ?_); omega; omega; (intro _; rfl))); conv => whnf) | (with_reducible apply XAnd.mk) | (exact XSame.mk rfl rfl) | (exact XSame.mk (by first | rfl | (simp only [List.map_append, List.length_append, List.length_map]; done) | (simp only [List.map_append, List.length_append, List.length_map]; rfl)) (by first | rfl | (simp only [List.map_append]; done) | (simp only [List.map_append]; rfl))) | (with_reducible exact trivial) | ((first | (with_reducible refine xdrop_app (by rw [List.length_map]; omega) ?_) | (with_reducible refine XDrop.desk (by assumption) ?_) | (with_reducible first | refine XArr.ints (by omega) (by omega) (by omega) ?_ | refine XArr.intsA (by omega) (by omega) (by omega) ?_) | ((with_reducible first | refine XArr.nats ?_ ?_ ?_ | refine XArr.natsA ?_ ?_ ?_ | refine XArr.ptr ?_ ?_ ?_); omega; omega) | (with_reducible apply XNext.mk) | (refine XCall.ret hco ?_) | (refine XCall.ret hch ?_)); conv => whnf) | ((with_reducible apply XBr.mk') <;> (intro h; conv => whnf))
      exact ⟨.low (by simp only [pack, AV.low, lowL, chs_low]; rfl)⟩
  · rw [if_pos hE] at hco ⊢
    generalize courE b c = e at hco hE
    refine Comp.body (T := tab) (res := [.tmp 4, .tmp 5]) tab_ok [] Try.func58 rfl (by kernel_rfl) Try.ntmps58 rfl (by simp only [List.length_cons, List.length_nil]; decide) (by simp only [lowL, bedL, AV.low, lowI]; rfl) ?_; conv => whnf
    repeat' first | ((with_reducible first | apply XBr.tt | apply XBr.ff | apply Chk.go | apply ChkA.go | apply ChkF.go | apply ChkB.go | apply XArr.pim0 | apply XArr.pim1); conv => whnf) | (with_reducible apply XBr.not) | ((with_reducible apply XBr.dec) <;> (intro h; first | (exfalso; omega) | ((try simp only [List.length_map] at h); first | (exfalso; omega) | (conv => whnf)))) | ((with_reducible first | apply XBr.beq | apply XBr.bne) <;> (intro h; first | (exfalso; omega) | (conv => whnf))) | ((with_reducible refine XInt.i64 (by omega) (by omega) ?_); conv => whnf) | ((with_reducible refine XHold.mk ?_ ?_); (first | omega | rfl | decide | exact ⟨rfl, by decide, rfl⟩ | exact wideI _ | exact widePr _ | exact wideSk _ | (unfold Room; constructor <;> ((try simp) <;> omega)) | exact ⟨rfl, by simp only [List.length_map], by unfold Room; constructor <;> ((try simp) <;> omega)⟩ | exact ⟨by omega, by omega, by unfold Room; constructor <;> ((try simp) <;> omega)⟩); conv => whnf) | ((first | ((with_reducible refine XIx.nat ?_ ?_ ?_); omega; (intro _; rfl)) | ((with_reducible refine XIx.map ?_ ?_ ?_ ?_); omega; omega; (intro _; rfl))); conv => whnf) | (with_reducible apply XAnd.mk) | (exact XSame.mk rfl rfl) | (exact XSame.mk (by first | rfl | (simp only [List.map_append, List.length_append, List.length_map]; done) | (simp only [List.map_append, List.length_append, List.length_map]; rfl)) (by first | rfl | (simp only [List.map_append]; done) | (simp only [List.map_append]; rfl))) | (with_reducible exact trivial) | ((first | (with_reducible refine xdrop_app (by rw [List.length_map]; omega) ?_) | (with_reducible refine XDrop.desk (by assumption) ?_) | (with_reducible first | refine XArr.ints (by omega) (by omega) (by omega) ?_ | refine XArr.intsA (by omega) (by omega) (by omega) ?_) | ((with_reducible first | refine XArr.nats ?_ ?_ ?_ | refine XArr.natsA ?_ ?_ ?_ | refine XArr.ptr ?_ ?_ ?_); omega; omega) | (with_reducible apply XNext.mk) | (refine XCall.ret hco ?_)); conv => whnf) | ((with_reducible apply XBr.mk') <;> (intro h; conv => whnf))
    exact ⟨.low rfl⟩
def agrB (b : Bd) (c : List Int) : Bool := (chR b c).isSome && (List.range (b.months.length + 1)).all fun m => agB b alwP m (c.getD m default).toNat
def agreesA (b : Bd) (c : List Int) : AV := if courE b c ≠ 0 then .tup [.bool false, .int .i64 (courE b c)] else .tup [.bool (agrB b c), .int .i64 0]
theorem agrees_all_c (b : Bd) (nl : Bool) (c : List Int) (hm : b.months.length ≤ 100000) (hs : b.surveys.length ≤ 100000) (hl : c.length ≤ 100000) : Comp Try.prog 56 [bedA b, .sl nl (ints c)] (agreesA b c) := by
  have hco := coursed_c b nl c hm hs hl
  unfold courA at hco
  unfold agreesA
  by_cases hE : courE b c = 0
  · obtain ⟨ok, h1, h2⟩ := courE_iff.1 hE
    rw [if_neg (fun h => h hE)] at hco ⊢
    have hch := chances_c b ok.toBedOk nl c h1 h2
    have e2 : ((ints c).length : Int) = b.months.length + 1 := by rw [ints_len]; omega
    have hcx : ∃ x, chA' (chR b c) = .tup [x, .bool (chR b c).isSome] ∧ x.low 0 = true := by
      cases chR b c with
      | none => exact ⟨_, rfl, rfl⟩
      | some l => exact ⟨_, rfl, chs_low l⟩
    obtain ⟨x, hx1, hx2⟩ := hcx
    rw [hx1] at hch
    unfold agrB
    generalize (chR b c).isSome = r0 at hch
    have m2 := ok.m2
    refine Comp.body (T := tab) (res := [.tmp 4, .tmp 5]) tab_ok [] Try.func56 rfl (by kernel_rfl) Try.ntmps56 rfl (by simp only [List.length_cons, List.length_nil]; decide) (by simp only [lowL, bedL, AV.low, lowI]; rfl) ?_; conv => whnf
    repeat' first | ((with_reducible first | apply XBr.tt | apply XBr.ff | apply Chk.go | apply ChkA.go | apply ChkF.go | apply ChkB.go | apply XArr.pim0 | apply XArr.pim1); conv => whnf) | (with_reducible apply XBr.not) | ((with_reducible apply XBr.dec) <;> (intro h; first | (exfalso; omega) | ((try simp only [List.length_map] at h); first | (exfalso; omega) | (conv => whnf)))) | ((with_reducible first | apply XBr.beq | apply XBr.bne) <;> (intro h; first | (exfalso; omega) | (conv => whnf))) | ((with_reducible refine XInt.i64 (by omega) (by omega) ?_); conv => whnf) | ((with_reducible refine XHold.mk ?_ ?_); (first | omega | rfl | decide | exact ⟨rfl, by decide, rfl⟩ | exact wideI _ | exact widePr _ | exact wideSk _ | (unfold Room; constructor <;> ((try simp) <;> omega)) | exact ⟨rfl, by simp only [List.length_map], by unfold Room; constructor <;> ((try simp) <;> omega)⟩ | exact ⟨by omega, by omega, by unfold Room; constructor <;> ((try simp) <;> omega)⟩); conv => whnf) | ((first | ((with_reducible refine XIx.nat ?_ ?_ ?_); omega; (intro _; rfl)) | ((with_reducible refine XIx.map ?_ ?_ ?_ ?_); omega; omega; (intro _; rfl))); conv => whnf) | (with_reducible apply XAnd.mk) | (exact XSame.mk rfl rfl) | (exact XSame.mk (by first | rfl | (simp only [List.map_append, List.length_append, List.length_map]; done) | (simp only [List.map_append, List.length_append, List.length_map]; rfl)) (by first | rfl | (simp only [List.map_append]; done) | (simp only [List.map_append]; rfl))) | (with_reducible exact trivial) | ((first | (with_reducible refine xdrop_app (by rw [List.length_map]; omega) ?_) | (with_reducible refine XDrop.desk (by assumption) ?_) | (with_reducible first | refine XArr.ints (by omega) (by omega) (by omega) ?_ | refine XArr.intsA (by omega) (by omega) (by omega) ?_) | ((with_reducible first | refine XArr.nats ?_ ?_ ?_ | refine XArr.natsA ?_ ?_ ?_ | refine XArr.ptr ?_ ?_ ?_); omega; omega) | (with_reducible apply XNext.mk) | (refine XCall.ret hco ?_) | (refine XCall.ret hch ?_)); conv => whnf) | ((with_reducible apply XBr.mk') <;> (intro h; conv => whnf))
    refine Walk.loopK tab_ok [] [(4, _), (5, _), (6, _), (27, _), (28, _)] ⟨rfl, rfl, rfl, rfl, rfl, trivial⟩ (fun m : Nat => m ≤ b.months.length + 1) (fun m => [(9, .bool (r0 && (List.range m).all fun m => agB b alwP m (c.getD m default).toNat)), (29, natA m)]) (fun _ => []) (fun m => b.months.length + 1 - m) 0 (Nat.zero_le _) rfl ⟨by show some (AV.bool r0) = some (AV.bool (r0 && true)); rw [Bool.and_true], rfl, trivial⟩ ?_
    intro m hm
    have hnx : ((List.range (m + 1)).all fun m => agB b alwP m (c.getD m default).toNat) = (((List.range m).all fun m => agB b alwP m (c.getD m default).toNat) && agB b alwP m (c.getD m default).toNat) := by
      rw [List.range_succ, List.all_append, List.all_cons, List.all_nil, Bool.and_true]
    by_cases hlt : m < b.months.length + 1
    · have hv := h2 (c.getD m default) (getD_mem (by omega))
      have hag := bAgrees_c b ok 180 [] alwP (allF_c b) m (c.getD m default).toNat
      have hvn : (((c.getD m default).toNat : Nat) : Int) = c.getD m default := by omega
      have hag' : Comp Try.prog 131 [dskA b, fltA 180 [], natA m, .int .i64 (c.getD m default)] (.bool (agB b alwP m (c.getD m default).toNat)) := by rw [← hvn] at hag ⊢; exact hag
      generalize ((List.range m).all fun m => agB b alwP m (c.getD m default).toNat) = s at hnx
      generalize agB b alwP m (c.getD m default).toNat = t at hag' hnx
      generalize hq : (r0 && s) = q
      conv => whnf
      cases q
      all_goals
        repeat' first | ((with_reducible first | apply XBr.tt | apply XBr.ff | apply Chk.go | apply ChkA.go | apply ChkF.go | apply ChkB.go | apply XArr.pim0 | apply XArr.pim1); conv => whnf) | (with_reducible apply XBr.not) | ((with_reducible apply XBr.dec) <;> (intro h; first | (exfalso; omega) | ((try simp only [List.length_map] at h); first | (exfalso; omega) | (conv => whnf)))) | ((with_reducible first | apply XBr.beq | apply XBr.bne) <;> (intro h; first | (exfalso; omega) | (conv => whnf))) | ((with_reducible refine XInt.i64 (by omega) (by omega) ?_); conv => whnf) | ((with_reducible refine XHold.mk ?_ ?_); (first | omega | rfl | decide | exact ⟨rfl, by decide, rfl⟩ | exact wideI _ | exact widePr _ | exact wideSk _ | (unfold Room; constructor <;> ((try simp) <;> omega)) | exact ⟨rfl, by simp only [List.length_map], by unfold Room; constructor <;> ((try simp) <;> omega)⟩ | exact ⟨by omega, by omega, by unfold Room; constructor <;> ((try simp) <;> omega)⟩); conv => whnf) | ((first | ((with_reducible refine XIx.nat ?_ ?_ ?_); omega; (intro _; rfl)) | ((with_reducible refine XIx.map ?_ ?_ ?_ ?_); omega; omega; (intro _; rfl))); conv => whnf) | (with_reducible apply XAnd.mk) | (exact XSame.mk rfl rfl) | (exact XSame.mk (by first | rfl | (simp only [List.map_append, List.length_append, List.length_map]; done) | (simp only [List.map_append, List.length_append, List.length_map]; rfl)) (by first | rfl | (simp only [List.map_append]; done) | (simp only [List.map_append]; rfl))) | (with_reducible exact trivial) | ((first | (with_reducible refine xdrop_app (by rw [List.length_map]; omega) ?_) | (with_reducible refine XDrop.desk (by assumption) ?_) | (with_reducible first | refine XArr.ints (by omega) (by omega) (by omega) ?_ | refine XArr.intsA (by omega) (by omega) (by omega) ?_) | ((with_reducible first | refine XArr.nats ?_ ?_ ?_ | refine XArr.natsA ?_ ?_ ?_ | refine XArr.ptr ?_ ?_ ?_); omega; omega) | (with_reducible apply XNext.mk) | (refine XCall.ret bAll_c ?_) | (refine XCall.ret hag' ?_)); conv => whnf) | ((with_reducible apply XBr.mk') <;> (intro h; conv => whnf))
      · refine XAgain.go (m + 1) (by omega) (by omega) rfl ⟨rfl, rfl, rfl, rfl, rfl, ?_, rfl, trivial⟩
        show some (AV.bool false) = _
        rw [hnx, ← Bool.and_assoc, hq]; rfl
      · refine XAgain.go (m + 1) (by omega) (by omega) rfl ⟨rfl, rfl, rfl, rfl, rfl, ?_, rfl, trivial⟩
        show some (AV.bool t) = _
        rw [hnx, ← Bool.and_assoc, hq]; rfl
    · obtain rfl : m = b.months.length + 1 := by omega
      conv => whnf
      repeat' first | ((with_reducible first | apply XBr.tt | apply XBr.ff | apply Chk.go | apply ChkA.go | apply ChkF.go | apply ChkB.go | apply XArr.pim0 | apply XArr.pim1); conv => whnf) | (with_reducible apply XBr.not) | ((with_reducible apply XBr.dec) <;> (intro h; first | (exfalso; omega) | ((try simp only [List.length_map] at h); first | (exfalso; omega) | (conv => whnf)))) | ((with_reducible first | apply XBr.beq | apply XBr.bne) <;> (intro h; first | (exfalso; omega) | (conv => whnf))) | ((with_reducible refine XInt.i64 (by omega) (by omega) ?_); conv => whnf) | ((with_reducible refine XHold.mk ?_ ?_); (first | omega | rfl | decide | exact ⟨rfl, by decide, rfl⟩ | exact wideI _ | exact widePr _ | exact wideSk _ | (unfold Room; constructor <;> ((try simp) <;> omega)) | exact ⟨rfl, by simp only [List.length_map], by unfold Room; constructor <;> ((try simp) <;> omega)⟩ | exact ⟨by omega, by omega, by unfold Room; constructor <;> ((try simp) <;> omega)⟩); conv => whnf) | ((first | ((with_reducible refine XIx.nat ?_ ?_ ?_); omega; (intro _; rfl)) | ((with_reducible refine XIx.map ?_ ?_ ?_ ?_); omega; omega; (intro _; rfl))); conv => whnf) | (with_reducible apply XAnd.mk) | (exact XSame.mk rfl rfl) | (exact XSame.mk (by first | rfl | (simp only [List.map_append, List.length_append, List.length_map]; done) | (simp only [List.map_append, List.length_append, List.length_map]; rfl)) (by first | rfl | (simp only [List.map_append]; done) | (simp only [List.map_append]; rfl))) | (with_reducible exact trivial) | ((first | (with_reducible refine xdrop_app (by rw [List.length_map]; omega) ?_) | (with_reducible refine XDrop.desk (by assumption) ?_) | (with_reducible first | refine XArr.ints (by omega) (by omega) (by omega) ?_ | refine XArr.intsA (by omega) (by omega) (by omega) ?_) | ((with_reducible first | refine XArr.nats ?_ ?_ ?_ | refine XArr.natsA ?_ ?_ ?_ | refine XArr.ptr ?_ ?_ ?_); omega; omega) | (with_reducible apply XNext.mk)); conv => whnf) | ((with_reducible apply XBr.mk') <;> (intro h; conv => whnf))
      exact ⟨.low rfl⟩
  · rw [if_pos hE] at hco ⊢
    generalize courE b c = e at hco hE
    refine Comp.body (T := tab) (res := [.tmp 4, .tmp 5]) tab_ok [] Try.func56 rfl (by kernel_rfl) Try.ntmps56 rfl (by simp only [List.length_cons, List.length_nil]; decide) (by simp only [lowL, bedL, AV.low, lowI]; rfl) ?_; conv => whnf
    repeat' first | ((with_reducible first | apply XBr.tt | apply XBr.ff | apply Chk.go | apply ChkA.go | apply ChkF.go | apply ChkB.go | apply XArr.pim0 | apply XArr.pim1); conv => whnf) | (with_reducible apply XBr.not) | ((with_reducible apply XBr.dec) <;> (intro h; first | (exfalso; omega) | ((try simp only [List.length_map] at h); first | (exfalso; omega) | (conv => whnf)))) | ((with_reducible first | apply XBr.beq | apply XBr.bne) <;> (intro h; first | (exfalso; omega) | (conv => whnf))) | ((with_reducible refine XInt.i64 (by omega) (by omega) ?_); conv => whnf) | ((with_reducible refine XHold.mk ?_ ?_); (first | omega | rfl | decide | exact ⟨rfl, by decide, rfl⟩ | exact wideI _ | exact widePr _ | exact wideSk _ | (unfold Room; constructor <;> ((try simp) <;> omega)) | exact ⟨rfl, by simp only [List.length_map], by unfold Room; constructor <;> ((try simp) <;> omega)⟩ | exact ⟨by omega, by omega, by unfold Room; constructor <;> ((try simp) <;> omega)⟩); conv => whnf) | ((first | ((with_reducible refine XIx.nat ?_ ?_ ?_); omega; (intro _; rfl)) | ((with_reducible refine XIx.map ?_ ?_ ?_ ?_); omega; omega; (intro _; rfl))); conv => whnf) | (with_reducible apply XAnd.mk) | (exact XSame.mk rfl rfl) | (exact XSame.mk (by first | rfl | (simp only [List.map_append, List.length_append, List.length_map]; done) | (simp only [List.map_append, List.length_append, List.length_map]; rfl)) (by first | rfl | (simp only [List.map_append]; done) | (simp only [List.map_append]; rfl))) | (with_reducible exact trivial) | ((first | (with_reducible refine xdrop_app (by rw [List.length_map]; omega) ?_) | (with_reducible refine XDrop.desk (by assumption) ?_) | (with_reducible first | refine XArr.ints (by omega) (by omega) (by omega) ?_ | refine XArr.intsA (by omega) (by omega) (by omega) ?_) | ((with_reducible first | refine XArr.nats ?_ ?_ ?_ | refine XArr.natsA ?_ ?_ ?_ | refine XArr.ptr ?_ ?_ ?_); omega; omega) | (with_reducible apply XNext.mk) | (refine XCall.ret hco ?_)); conv => whnf) | ((with_reducible apply XBr.mk') <;> (intro h; conv => whnf))
    exact ⟨.low rfl⟩
end GA
end

section
namespace GA
open Go Go.RowKit
set_option linter.unusedVariables false
section
variable {P : Program} {N : Nat} {ρ : Option Nat} {H : List Blk} {σ : St} {D : List Nat}

theorem flat_one : ∀ {els : List AV}, (∀ x ∈ els, x.one = true) → flat els = els
  | [], _ => rfl
  | x :: l, h => by
    have h1 := h x List.mem_cons_self
    have h2 := flat_one (els := l) fun y hy => h y (List.mem_cons_of_mem _ hy)
    have h3 : x.cells = [x] := by cases x <;> first | rfl | cases h1
    show x.cells ++ flat l = _
    rw [h3, h2]; rfl
theorem cells_one {x : AV} (h : x.one = true) : x.cells = [x] := by cases x <;> first | rfl | cases h

theorem Walk.run {T : Tab} {c : Code} {Q : Post} (ok : TabOk P T) (own : List Nat) (x : XRun P T N ρ own c Q D σ H) : Walk P N ρ c Q D σ H := ⟨XRun.sound ok x⟩
theorem XGet.set {els : List AV} {n e m : Nat} {x : AV} {k : List AV → Prop} (he : e = m) (hm : m < els.length) (hn : n = els.length) (h : k x.cells) : XGet (els.set m x) n e k := by
  subst he
  refine ⟨by rw [List.length_set]; exact hn, by omega, ?_⟩
  have : (els.set e x).getD e default = x := by rw [List.getD_eq_getElem?_getD, List.getElem?_set_self hm]; rfl
  rw [this]; exact h
theorem XPut.set {els : List AV} {n e m : Nat} {x v : AV} {k : List AV → Prop} (he : e = m) (hm : m < els.length) (hn : n = els.length) (h : k (els.set m v)) : XPut (els.set m x) n e v k := by
  subst he
  exact ⟨by rw [List.length_set]; exact hn, by omega, by rw [List.set_set]; exact h⟩
theorem FrozN.sl {n : Nat} {nl : Bool} {els els' : List AV} (hone : ∀ x ∈ els, x.one = true) (hone' : ∀ x ∈ els', x.one = true) (hs : FrozNL P n H els els') : FrozN P n H (.sl nl els) (.sl nl els') := by
  intro E h β w s v hr H1
  cases hr with
  | slnil =>
    have : els' = [] := List.eq_nil_of_length_eq_zero hs.1
    subst this; exact .slnil
  | slemp =>
    have : els' = [] := List.eq_nil_of_length_eq_zero hs.1
    subst this; exact .slemp
  | sl us hn hne hb hw hw0 ho hcap hc h3 =>
    rw [flat_one hone] at hc h3
    obtain ⟨e0, he0⟩ := List.exists_mem_of_ne_nil _ hne
    have hw1 := hw e0 he0
    rw [cells_one (hone e0 he0)] at hw1
    refine .sl us (by rw [hn, hs.1]) (fun e => hne (List.eq_nil_of_length_eq_zero (by rw [← hs.1, e]; rfl))) (hallN_imm s hb) (fun e he => by rw [cells_one (hone' e he)]; exact hw1) hw0 (fun x hx => ?_) (by rw [hs.1]; exact hcap) (fun j x e => ?_) (fun j x e => ?_)
    · rw [flat_one hone'] at hx; exact hone' x hx
    · rw [flat_one hone'] at e
      obtain ⟨y, e1, _⟩ := hs.2 j x e; exact hc j y e1
    · rw [flat_one hone'] at e
      obtain ⟨y, e1, e2⟩ := hs.2 j x e; exact e2 E h β w s _ (h3 j y e1) H1
end
end GA
end

section
namespace GA
open Go Go.RowKit Go.Proofs
set_option pp.deepTerms true
set_option maxRecDepth 8000
set_option linter.unusedVariables false
set_option linter.unusedSimpArgs false

theorem fF_spec {α : Type} {f : Nat → Option α} {hi : Int} {v : α} : ∀ (d c : Nat), (hi + 1 - c).toNat = d → fF f c hi = some v → ∃ n, c ≤ n ∧ (n : Int) ≤ hi ∧ f n = some v ∧ ∀ q, c ≤ q → q < n → f q = none
  | 0, c, hd, h => by rw [fF_end (by omega)] at h; cases h
  | d + 1, c, hd, h => by
    cases hc : f c with
    | some x =>
      rw [fF_some (by omega) hc] at h; cases h
      exact ⟨c, Nat.le_refl c, by omega, hc, fun q h1 h2 => by omega⟩
    | none =>
      rw [fF_none (by omega) hc] at h
      obtain ⟨n, h1, h2, h3, h4⟩ := fF_spec d (c + 1) (by omega) h
      refine ⟨n, by omega, h2, h3, fun q h5 h6 => ?_⟩
      by_cases hq : q = c
      · rw [hq]; exact hc
      · exact h4 q (by omega) h6
theorem fF_ex {α : Type} {f : Nat → Option α} {hi : Int} : ∀ (d c n : Nat), n - c = d → c ≤ n → (n : Int) ≤ hi → f n ≠ none → fF f c hi ≠ none
  | d, c, n, hd, h1, h2, h3 => by
    cases hc : f c with
    | some x => rw [fF_some (by omega) hc]; simp
    | none =>
      have hne : n ≠ c := fun e => h3 (e ▸ hc)
      rw [fF_none (by omega) hc]
      exact fF_ex (n - (c + 1)) (c + 1) n rfl (by omega) h2 h3
termination_by d => d
decreasing_by omega
theorem fstC_spec {b : Bd} (ok : BedOk b) {m : Nat} (hm : m < b.months.length) {a k : Int} {x : Int × Int} (h : fstC b m a k = some x) :
    (moB b m).pl ≤ x.1 ∧ x.1 ≤ (moB b m).ph ∧ (moB b m).tl ≤ x.2 ∧ x.2 ≤ (moB b m).th ∧ grossR b.room (moB b m).g a x.1 x.2 - (moB b m).r = k ∧ ∀ t, (moB b m).tl ≤ t → t < x.2 → grossR b.room (moB b m).g a x.1 t - (moB b m).r ≠ k := by
  have hmo := ok.mo' hm
  obtain ⟨sp, h1, h2, h3, -⟩ := fF_spec _ _ rfl h
  obtain ⟨st, h4, h5, h6, h7⟩ := fF_spec _ _ rfl h3
  unfold stS hitB at h6
  split at h6
  · rename_i hh
    cases h6
    refine ⟨by dsimp only; omega, h2, by dsimp only; omega, h5, by simpa using hh, fun t h8 h9 h10 => ?_⟩
    dsimp only at h9 h10
    have h11 := h7 t.toNat (by omega) (by omega)
    unfold stS hitB at h11
    rw [Int.toNat_of_nonneg (by omega), if_pos (by rw [h10]; exact beq_self_eq_true _)] at h11
    cases h11
  · cases h6
theorem fstC_ex {b : Bd} (ok : BedOk b) {m : Nat} (hm : m < b.months.length) {a k sp st : Int} (h1 : (moB b m).pl ≤ sp) (h2 : sp ≤ (moB b m).ph) (h3 : (moB b m).tl ≤ st) (h4 : st ≤ (moB b m).th) (h : grossR b.room (moB b m).g a sp st - (moB b m).r = k) : fstC b m a k ≠ none := by
  have hmo := ok.mo' hm
  refine fF_ex _ _ sp.toNat rfl (by omega) (by omega) (fF_ex _ _ st.toNat rfl (by omega) (by omega) ?_)
  unfold stS hitB
  rw [Int.toNat_of_nonneg (by omega), Int.toNat_of_nonneg (by omega), if_pos (by rw [h]; exact beq_self_eq_true _)]; simp
def AlongC (b : Bd) (c : List Int) (ch : List (Int × Int)) (k : Nat) : Prop := ∀ m, m < k → (moB b m).pl ≤ (ch.getD m default).1 ∧ (ch.getD m default).1 ≤ (moB b m).ph ∧ (moB b m).tl ≤ (ch.getD m default).2 ∧ (ch.getD m default).2 ≤ (moB b m).th ∧ grossR b.room (moB b m).g (c.getD m default) (ch.getD m default).1 (ch.getD m default).2 - (moB b m).r = c.getD (m + 1) default
theorem chK_spec {b : Bd} (ok : BedOk b) {c : List Int} : ∀ (k : Nat) (l : List (Int × Int)), k ≤ b.months.length → chK b c k = some l → AlongC b c l k ∧ ∀ m, m < k → ∀ t, (moB b m).tl ≤ t → t < (l.getD m default).2 → grossR b.room (moB b m).g (c.getD m default) (l.getD m default).1 t - (moB b m).r ≠ c.getD (m + 1) default
  | 0, l, _, h => ⟨fun m hm => by omega, fun m hm => by omega⟩
  | k + 1, l, hk, h => by
    rw [chK] at h
    cases h1 : chK b c k with
    | none => rw [h1] at h; cases h
    | some l1 =>
      rw [h1] at h; dsimp only at h
      cases h2 : fstC b k (c.getD k default) (c.getD (k + 1) default) with
      | none => rw [h2] at h; cases h
      | some x =>
        rw [h2] at h; cases h
        obtain ⟨i1, i2⟩ := chK_spec ok k l1 (by omega) h1
        have hl := chK_len h1
        have hg1 : ∀ m, m < k → (l1 ++ [x]).getD m default = l1.getD m default := fun m hm => by
          rw [List.getD_eq_getElem?_getD, List.getElem?_append_left (by omega), ← List.getD_eq_getElem?_getD]
        have hg2 : (l1 ++ [x]).getD k default = x := by
          rw [List.getD_eq_getElem?_getD, List.getElem?_append_right (by omega), hl, Nat.sub_self]; rfl
        obtain ⟨f1, f2, f3, f4, f5, f6⟩ := fstC_spec ok (by omega) h2
        refine ⟨fun m hm => ?_, fun m hm => ?_⟩
        · by_cases hmk : m = k
          · subst hmk; rw [hg2]; exact ⟨f1, f2, f3, f4, f5⟩
          · rw [hg1 m (by omega)]; exact i1 m (by omega)
        · by_cases hmk : m = k
          · subst hmk; rw [hg2]; exact f6
          · rw [hg1 m (by omega)]; exact i2 m (by omega)
theorem chK_ex {b : Bd} (ok : BedOk b) {c : List Int} {ch : List (Int × Int)} (h : AlongC b c ch b.months.length) : ∀ k, k ≤ b.months.length → chK b c k ≠ none
  | 0, _ => by rw [chK]; simp
  | k + 1, hk => by
    have ih := chK_ex ok h k (by omega)
    have hc := h k (by omega)
    have h2 := fstC_ex ok (m := k) (by omega) hc.1 hc.2.1 hc.2.2.1 hc.2.2.2.1 hc.2.2.2.2
    rw [chK]
    cases h1 : chK b c k with
    | none => exact absurd h1 ih
    | some l =>
      dsimp only
      cases h3 : fstC b k (c.getD k default) (c.getD (k + 1) default) with
      | none => exact absurd h3 h2
      | some x => simp
structure RealB (b : Bd) (re : List Int) (ch : List (Int × Int)) : Prop where
  b0 : ∀ x ∈ re, 0 ≤ x ∧ x ≤ b.room
  st : b.first - b.unsure ≤ re.getD 0 default ∧ re.getD 0 default ≤ b.first + b.unsure
  al : AlongC b re ch b.months.length
theorem getD_app {α : Type} {l : List α} {x d : α} {i k : Nat} (hk : l.length = k) : (l ++ [x]).getD i d = if i < k then l.getD i d else if i = k then x else d := by
  rw [List.getD_eq_getElem?_getD]
  by_cases h : i < k
  · rw [if_pos h, List.getElem?_append_left (by omega), ← List.getD_eq_getElem?_getD]
  · rw [if_neg h]
    by_cases h2 : i = k
    · subst h2; rw [if_pos rfl, List.getElem?_append_right (by omega), hk, Nat.sub_self]; rfl
    · rw [if_neg h2, List.getElem?_eq_none (by simp; omega)]; rfl
structure MdRe (R : Int) (s : MdB) (k : Nat) (n0 : Int) : Prop where
  now : s.re.getD k default = s.now
  fst : s.re.getD 0 default = n0
  b : ∀ x ∈ s.re, 0 ≤ x ∧ x ≤ R
  al : ∀ m, m < k → (s.ms.getD m default).pl ≤ (s.ch.getD m default).1 ∧ (s.ch.getD m default).1 ≤ (s.ms.getD m default).ph ∧ (s.ms.getD m default).tl ≤ (s.ch.getD m default).2 ∧ (s.ch.getD m default).2 ≤ (s.ms.getD m default).th ∧ grossR R (s.ms.getD m default).g (s.re.getD m default) (s.ch.getD m default).1 (s.ch.getD m default).2 - (s.ms.getD m default).r = s.re.getD (m + 1) default
theorem MdRe.step {R : Int} {s : MdB} {k : Nat} {n0 : Int} (o : MdOk R s k) (h : MdRe R s k n0) : MdRe R (mdBS R s) (k + 1) n0 := by
  have h1 := mdN_b o
  have h2 := mdR_b o
  have hc := mdC_b s.u
  have hml := o.ml
  have hrl := o.rl
  have hcl := o.cl
  unfold mdBS
  refine ⟨?_, ?_, ?_, ?_⟩
  · dsimp only; rw [getD_app hrl, if_neg (by omega), if_pos rfl]
  · dsimp only; rw [getD_app hrl, if_pos (by omega)]; exact h.fst
  · dsimp only
    intro x hx
    rw [List.mem_append, List.mem_singleton] at hx
    rcases hx with hx | rfl
    · exact h.b x hx
    · omega
  · dsimp only
    intro m hm
    rw [getD_app hml, getD_app hrl, getD_app hcl, getD_app hrl]
    by_cases hmk : m = k
    · subst hmk
      rw [if_neg (by omega), if_pos rfl, if_neg (by omega), if_pos rfl, if_pos (by omega), if_neg (by omega), if_pos rfl, h.now]
      exact ⟨hc.1, hc.2.1, hc.2.2.1, hc.2.2.2, rfl⟩
    · rw [if_pos (by omega), if_pos (by omega), if_pos (by omega), if_pos (by omega)]
      exact h.al m (by omega)
theorem mdBK_re {R : Int} {s : MdB} (o : MdOk R s 0) (h : MdRe R s 0 s.now) : ∀ k, MdRe R (mdBK R s k) k s.now
  | 0 => h
  | k + 1 => by rw [mdBK_succ]; exact (mdBK_re o h k).step (mdBK_ok o k)
theorem made_real {u : Hp} (uo : u.Ok) {room months : Int} (h1 : 2 ≤ room) (h2 : room ≤ 100) (h3 : 1 ≤ months) (h4 : months ≤ 10) :
    ∃ b re ch u1, HpOk 19 [.int .i64 room, .int .i64 months] u (.tup [bedA b, .sl false (ints re), .sl ch.isEmpty (ch.map prA)]) u1 ∧ MadeB room months b re ch ∧ u1.Ok ∧ RealB b re ch := by
  have e := mdBK_ok (mdS0_ok uo h1) (mdMany u months).toNat
  have bo := madeB_ok uo (room := room) (months := months) h1 h2 h3 h4
  have g4 := modV_bound (mdH u) (months - 1)
  have hn := mdS0_ok uo h1
  have hre := mdBK_re hn ⟨rfl, rfl, fun x hx => by
    have : x = mdNow u room := by simpa [mdS0] using hx
    rw [this]
    have := hn.n0; have := hn.n1
    exact ⟨hn.n0, hn.n1⟩, fun m hm => by omega⟩ (mdMany u months).toNat
  have hml := e.ml
  refine ⟨_, _, _, _, bedMade_c u room months uo h1 h2 h3 h4, ⟨⟨bo, by show ([] : List Su).length ≤ 8; simp, fun s hs => by cases hs⟩, rfl, rfl, ?_, ?_, ?_, ?_⟩, e.u, ⟨hre.b, ?_, fun m hm => ?_⟩⟩
  · have := modV_bound u (room - 2)
    show mdRoom _ _ ≤ room
    unfold mdRoom; omega
  · have := e.ml
    show (((mdBK _ _ _).ms.length : Nat) : Int) ≤ months
    rw [this]; unfold mdMany; omega
  · show (mdBK _ _ _).re.length = (mdBK _ _ _).ms.length + 1
    rw [e.rl, e.ml]
  · show (mdBK _ _ _).ch.length = (mdBK _ _ _).ms.length
    rw [e.cl, e.ml]
  · show mdFst u room - mdUns u ≤ (mdBK _ _ _).re.getD 0 default ∧ (mdBK _ _ _).re.getD 0 default ≤ mdFst u room + mdUns u
    rw [hre.fst]
    show mdFst u room - mdUns u ≤ mdNow u room ∧ mdNow u room ≤ mdFst u room + mdUns u
    have a1 := bo.f1
    have a2 := bo.f2
    have a3 := bo.u1
    have a5 : 0 ≤ mdFst u room := a1
    have a6 : mdFst u room ≤ mdRoom u room := a2
    have a7 : 0 ≤ mdUns u := a3
    have a4 := modV_bound (hpS (hpS (hpS u))) (mdUns u - (0 - mdUns u))
    unfold mdNow; omega
  · have hm' : m < (mdMany u months).toNat := by
      have : m < (mdBK _ _ _).ms.length := hm
      rwa [hml] at this
    exact hre.al m hm'
end GA
end

section
namespace GA
open Go Go.RowKit Go.Proofs
set_option pp.deepTerms true
set_option maxRecDepth 8000
set_option linter.unusedVariables false
set_option linter.unusedSimpArgs false

theorem XPut.intsL {n e : Nat} {v : Int} {k : List AV → Prop} {xs : List Int} (j : Nat) (he : e = j) (h1 : xs.length = n) (h2 : j < n) (h : k (ints (xs.set j v))) : XPut (ints xs) n e (.int .i64 v) k := by
  subst he; exact XPut.map (f := .int .i64) v rfl h1.symm h2 h
end GA
end

section
namespace GA
open Go Go.RowKit Go.Proofs
set_option pp.deepTerms true
set_option maxRecDepth 8000
set_option linter.unusedVariables false
set_option linter.unusedSimpArgs false

theorem agB_nil {b : Bd} (h : b.surveys = []) (p : Nat → Bool) (m n : Nat) : agB b p m n = true := by
  unfold agB rowT rowS
  rw [h]; rfl
theorem agrB_nil {b : Bd} (h : b.surveys = []) (c : List Int) : agrB b c = (chR b c).isSome := by
  unfold agrB
  have : ((List.range (b.months.length + 1)).all fun m => agB b alwP m (c.getD m default).toNat) = true := List.all_eq_true.2 fun m _ => agB_nil h _ _ _
  rw [this, Bool.and_true]
theorem chR_real {b : Bd} (ok : BedOk b) {re : List Int} {ch : List (Int × Int)} (h : RealB b re ch) : chR b re ≠ none := by
  unfold chR
  rw [if_pos (inZ_iff.2 h.st)]
  exact chK_ex ok h.al _ (Nat.le_refl _)
theorem chR_spec {b : Bd} (ok : BedOk b) {c : List Int} {l : List (Int × Int)} (h : chR b c = some l) : l.length = b.months.length ∧ AlongC b c l b.months.length ∧ ∀ m, m < b.months.length → ∀ t, (moB b m).tl ≤ t → t < (l.getD m default).2 → grossR b.room (moB b m).g (c.getD m default) (l.getD m default).1 t - (moB b m).r ≠ c.getD (m + 1) default := by
  unfold chR at h
  split at h
  · exact ⟨chK_len h, (chK_spec ok _ l (Nat.le_refl _) h).1, (chK_spec ok _ l (Nat.le_refl _) h).2⟩
  · cases h
set_option maxHeartbeats 4000000 in
theorem bedCourse_c (n1 : Bool) (xs : List Int) (p q : Int) (hx : xs.length < 9223372036854775808) (hp : 0 ≤ p ∧ p ≤ 255) (hq : 0 ≤ q ∧ q ≤ 255) :
    Comp Try.prog 11 [.sl n1 (bytes xs), .int .u8 p, .int .u8 q] (.bool true) := by
  obtain ⟨b, re, ch, u1, mo, B, -, R⟩ := made_real (hp0_ok (nl := n1) hx) (room := 60) (months := 5) (by omega) (by omega) (by omega) (by omega)
  have ok := B.ok
  have r1 := ok.r1
  have r2 := ok.r2
  have m1 := ok.m1
  have m2 := ok.m2
  have rl := B.rl
  have e1 : ((b.months.map moA).length : Int) = b.months.length := by rw [List.length_map]
  have e2 : ((ints re).length : Int) = b.months.length + 1 := by rw [ints_len]; omega
  have hpi : 0 ≤ p.tmod ((ints re).length : Int) ∧ p.tmod ((ints re).length : Int) < b.months.length + 1 := by
    rw [e2, Int.tmod_eq_emod_of_nonneg hp.1]
    exact ⟨Int.emod_nonneg p (by omega), Int.emod_lt_of_pos p (by omega)⟩
  have hq7 : 0 ≤ q.tmod 7 ∧ q.tmod 7 < 7 := by
    rw [Int.tmod_eq_emod_of_nonneg hq.1]; omega
  obtain ⟨i, hi⟩ : ∃ i : Nat, p.tmod ((ints re).length : Int) = i := ⟨(p.tmod ((ints re).length : Int)).toNat, by omega⟩
  rw [hi] at hpi
  have hri := R.b0 (re.getD i default) (getD_mem (by omega))
  have hrb := R.b0
  have hdu : re.length ≤ 100000 := by omega
  refine Comp.body' (T := tab) (res := [.tmp 6]) tab_ok [] Try.func11 rfl (by kernel_rfl) Try.ntmps11 rfl (by simp only [List.length_cons, List.length_nil]; decide) (by simp only [lowL, AV.low, lowBy]; rfl) ?_; conv => whnf
  repeat' first | ((with_reducible first | apply XBr.tt | apply XBr.ff | apply Chk.go | apply ChkA.go | apply ChkF.go | apply ChkB.go | apply XArr.pim0 | apply XArr.pim1); conv => whnf) | (with_reducible apply XBr.not) | ((with_reducible apply XBr.dec) <;> (intro h; first | (exfalso; omega) | ((try simp only [List.length_map] at h); first | (exfalso; omega) | (conv => whnf)))) | ((with_reducible first | apply XBr.beq | apply XBr.bne) <;> (intro h; first | (exfalso; omega) | (conv => whnf))) | ((with_reducible refine XInt.i64 (by omega) (by omega) ?_); conv => whnf) | ((with_reducible refine XHold.mk ?_ ?_); (first | omega | rfl | decide | exact ⟨rfl, by decide, rfl⟩ | exact wideI _ | exact widePr _ | exact wideSk _ | (unfold Room; constructor <;> ((try simp) <;> omega)) | exact ⟨rfl, by simp only [List.length_map], by unfold Room; constructor <;> ((try simp) <;> omega)⟩ | exact ⟨by omega, by omega, by unfold Room; constructor <;> ((try simp) <;> omega)⟩); conv => whnf) | ((first | ((with_reducible refine XIx.nat ?_ ?_ ?_); omega; (intro _; rfl)) | ((with_reducible refine XIx.map ?_ ?_ ?_ ?_); omega; omega; (intro _; rfl))); conv => whnf) | (with_reducible apply XAnd.mk) | (exact XSame.mk rfl rfl) | (exact XSame.mk (by first | rfl | (simp only [List.map_append, List.length_append, List.length_map]; done) | (simp only [List.map_append, List.length_append, List.length_map]; rfl)) (by first | rfl | (simp only [List.map_append]; done) | (simp only [List.map_append]; rfl))) | (with_reducible exact trivial) | ((first | (with_reducible refine xdrop_app (by rw [List.length_map]; omega) ?_) | (with_reducible refine XDrop.desk (by assumption) ?_) | (with_reducible first | refine XArr.ints (by omega) (by omega) (by omega) ?_ | refine XArr.intsA (by omega) (by omega) (by omega) ?_) | ((with_reducible first | refine XArr.nats ?_ ?_ ?_ | refine XArr.natsA ?_ ?_ ?_ | refine XArr.ptr ?_ ?_ ?_); omega; omega)); conv => whnf) | (apply Walk.drawN (id := 4) tab_ok mixed_ok [] [16] (hsC [_, _]) [_, _, _, _, _, _, _, _, _, _, _, _, _, _, _, _, _] (by kernel_rfl) rfl) | (apply Walk.drawN (id := 19) tab_ok mixed_ok [] [] (hsU _) [_, _, _, _, _, _, _, _, _, _, _, _, _, _, _, _, _, _, _, _, _, _, _, _, _, _, _, _, _, _, _, _, _, _, _, _, _, _, _, _, _, _, _, _, _, _, _, _, _] (by kernel_rfl) rfl) | (apply Walk.drawN (id := 24) tab_ok mixed_ok [] [] (hsU _) [_, _, _, _, _, _, _, _, _, _, _, _, _, _, _, _, _, _, _, _] (by kernel_rfl) rfl) | ((with_reducible apply XNext.mk); conv => whnf) | (refine XCall.inl (T := tab) (res := [.tmp 2]) tab_ok [5] Try.func20 rfl (by kernel_rfl) Try.ntmps20 rfl (by simp only [List.length_append, List.length_cons, List.length_nil]; decide) ?_; conv => whnf) | ((first | (refine XCall.hp (j := 0) mo (by simp only [AV.low, lowL, bedL, lowI, lowPr]; rfl) rfl ?_) | (refine XCall.dup hdu ?_) | ((refine XHold.mk ⟨by rw [ints_len], rfl, by rw [hi]; omega, by rw [hi]; omega⟩ ?_); (rw [hi, Int.toNat_natCast])) | (refine XGet.map (f := AV.int .i64) (xs := re) rfl (by omega) ?_) | (refine XPut.intsL i rfl rfl (by omega) ?_)); conv => whnf) | ((with_reducible apply XBr.mk') <;> (intro h; conv => whnf))
  have ol : (re.set i (min b.room (max 0 (re.getD i default + q.tmod 7 - 3)))).length = b.months.length + 1 := by rw [List.length_set]; exact rl
  have ob : ∀ x ∈ re.set i (min b.room (max 0 (re.getD i default + q.tmod 7 - 3))), 0 ≤ x ∧ x ≤ b.room := by
    intro x hx
    rcases List.mem_or_eq_of_mem_set hx with h | h
    · exact hrb x h
    · omega
  generalize re.set i (min b.room (max 0 (re.getD i default + q.tmod 7 - 3))) = oth at ol ob ⊢
  refine Walk.keep tab_ok [] [hpC u1, .cells (bedC b)] [.grow 3 false (ints oth)] [(7, .ptr 1 0), (54, .sl false [.sl false (ints re), .sl false (ints oth)]), (55, .int .i64 2), (56, .int .i64 0)] rfl ?_ ⟨⟨_, rfl, .same rfl⟩, ⟨_, rfl, .inl (FrozN.sl (by intro x hx; rw [List.mem_cons, List.mem_singleton] at hx; rcases hx with rfl | rfl <;> rfl) (by intro x hx; rw [List.mem_cons, List.mem_singleton] at hx; rcases hx with rfl | rfl <;> rfl) (.cons (FrozN.low (show AV.low 0 (.sl false (ints re)) = true by simp only [AV.low]; exact lowI _)) (.cons (FrozN.grow (show (2 : Nat) ≤ 2 from Nat.le_refl 2) rfl (by rw [ints_len]; omega) (lowI _)) .nil)))⟩, ⟨_, rfl, .same rfl⟩, ⟨_, rfl, .same rfl⟩, trivial⟩ rfl ?_
  · intro z hz
    rw [List.mem_cons, List.mem_singleton] at hz
    rcases hz with rfl | rfl
    · exact hpC_low _
    · exact lowBd b
  conv => whnf
  refine Walk.loopK tab_ok [] [(7, _), (54, _), (55, _)] ⟨rfl, rfl, rfl, trivial⟩ (fun k : Nat => k ≤ 2) (fun k => [(56, natA k)]) (fun _ => [hpC u1, .cells (bedC b), .dead]) (fun k => 2 - k) 0 (Nat.zero_le _) rfl ⟨rfl, trivial⟩ ?_
  intro k hk
  conv => whnf
  rcases (by omega : k = 0 ∨ k = 1 ∨ k = 2) with rfl | rfl | rfl
  · skip
    have hco : courE b re = 0 := courE_iff.2 ⟨ok, rl, hrb⟩
    have hag := agrees_all_c b false re (by omega) (by have := ok.s1; omega) (by omega)
    have hch := chances_all_c b false re (by omega) (by have := ok.s1; omega) (by omega)
    unfold agreesA at hag
    unfold chancesA at hch
    rw [if_neg (fun h => h hco), agrB_nil B.sv] at hag
    rw [if_neg (fun h => h hco)] at hch
    cases hr : chR b re with
    | none =>
      rw [hr] at hag hch
      conv => whnf
      repeat' first | ((with_reducible first | apply XBr.tt | apply XBr.ff | apply Chk.go | apply ChkA.go | apply ChkF.go | apply ChkB.go | apply XArr.pim0 | apply XArr.pim1); conv => whnf) | (with_reducible apply XBr.not) | ((with_reducible apply XBr.dec) <;> (intro h; first | (exfalso; omega) | ((try simp only [List.length_map] at h); first | (exfalso; omega) | (conv => whnf)))) | ((with_reducible first | apply XBr.beq | apply XBr.bne) <;> (intro h; first | (exfalso; omega) | (conv => whnf))) | ((with_reducible refine XInt.i64 (by omega) (by omega) ?_); conv => whnf) | ((with_reducible refine XHold.mk ?_ ?_); (first | omega | rfl | decide | exact ⟨rfl, by decide, rfl⟩ | exact wideI _ | exact widePr _ | exact wideSk _ | (unfold Room; constructor <;> ((try simp) <;> omega)) | exact ⟨rfl, by simp only [List.length_map], by unfold Room; constructor <;> ((try simp) <;> omega)⟩ | exact ⟨by omega, by omega, by unfold Room; constructor <;> ((try simp) <;> omega)⟩); conv => whnf) | ((first | ((with_reducible refine XIx.nat ?_ ?_ ?_); omega; (intro _; rfl)) | ((with_reducible refine XIx.map ?_ ?_ ?_ ?_); omega; omega; (intro _; rfl))); conv => whnf) | (with_reducible apply XAnd.mk) | (exact XSame.mk rfl rfl) | (exact XSame.mk (by first | rfl | (simp only [List.map_append, List.length_append, List.length_map]; done) | (simp only [List.map_append, List.length_append, List.length_map]; rfl)) (by first | rfl | (simp only [List.map_append]; done) | (simp only [List.map_append]; rfl))) | (with_reducible exact trivial) | ((first | (with_reducible refine xdrop_app (by rw [List.length_map]; omega) ?_) | (with_reducible refine XDrop.desk (by assumption) ?_) | (with_reducible first | refine XArr.ints (by omega) (by omega) (by omega) ?_ | refine XArr.intsA (by omega) (by omega) (by omega) ?_) | ((with_reducible first | refine XArr.nats ?_ ?_ ?_ | refine XArr.natsA ?_ ?_ ?_ | refine XArr.ptr ?_ ?_ ?_); omega; omega)); conv => whnf) | (apply Walk.drawN (id := 4) tab_ok mixed_ok [] [16] (hsC [_, _]) [_, _, _, _, _, _, _, _, _, _, _, _, _, _, _, _, _] (by kernel_rfl) rfl) | (apply Walk.drawN (id := 19) tab_ok mixed_ok [] [] (hsU _) [_, _, _, _, _, _, _, _, _, _, _, _, _, _, _, _, _, _, _, _, _, _, _, _, _, _, _, _, _, _, _, _, _, _, _, _, _, _, _, _, _, _, _, _, _, _, _, _, _] (by kernel_rfl) rfl) | (apply Walk.drawN (id := 24) tab_ok mixed_ok [] [] (hsU _) [_, _, _, _, _, _, _, _, _, _, _, _, _, _, _, _, _, _, _, _] (by kernel_rfl) rfl) | ((first | (with_reducible apply XNext.mk) | (refine XIx.mk (by omega) (by simp) rfl ?_) | (refine XCall.ret hag ?_) | (refine XCall.ret hch ?_) | (refine XCall.ret awake04_c ?_)); conv => whnf) | ((with_reducible apply XBr.mk') <;> (intro h; conv => whnf))
      refine Walk.norm tab_ok [] [(7, _), (12, _), (13, _), (14, _), (15, _), (16, _), (17, _), (54, _), (55, _), (56, _)] ⟨rfl, rfl, rfl, rfl, rfl, rfl, rfl, rfl, rfl, rfl, trivial⟩ ?_
      conv => whnf
      repeat' first | ((with_reducible first | apply XBr.tt | apply XBr.ff | apply Chk.go | apply ChkA.go | apply ChkF.go | apply ChkB.go | apply XArr.pim0 | apply XArr.pim1); conv => whnf) | (with_reducible apply XBr.not) | ((with_reducible apply XBr.dec) <;> (intro h; first | (exfalso; omega) | ((try simp only [List.length_map] at h); first | (exfalso; omega) | (conv => whnf)))) | ((with_reducible first | apply XBr.beq | apply XBr.bne) <;> (intro h; first | (exfalso; omega) | (conv => whnf))) | ((with_reducible refine XInt.i64 (by omega) (by omega) ?_); conv => whnf) | ((with_reducible refine XHold.mk ?_ ?_); (first | omega | rfl | decide | exact ⟨rfl, by decide, rfl⟩ | exact wideI _ | exact widePr _ | exact wideSk _ | (unfold Room; constructor <;> ((try simp) <;> omega)) | exact ⟨rfl, by simp only [List.length_map], by unfold Room; constructor <;> ((try simp) <;> omega)⟩ | exact ⟨by omega, by omega, by unfold Room; constructor <;> ((try simp) <;> omega)⟩); conv => whnf) | ((first | ((with_reducible refine XIx.nat ?_ ?_ ?_); omega; (intro _; rfl)) | ((with_reducible refine XIx.map ?_ ?_ ?_ ?_); omega; omega; (intro _; rfl))); conv => whnf) | (with_reducible apply XAnd.mk) | (exact XSame.mk rfl rfl) | (exact XSame.mk (by first | rfl | (simp only [List.map_append, List.length_append, List.length_map]; done) | (simp only [List.map_append, List.length_append, List.length_map]; rfl)) (by first | rfl | (simp only [List.map_append]; done) | (simp only [List.map_append]; rfl))) | (with_reducible exact trivial) | ((first | (with_reducible refine xdrop_app (by rw [List.length_map]; omega) ?_) | (with_reducible refine XDrop.desk (by assumption) ?_) | (with_reducible first | refine XArr.ints (by omega) (by omega) (by omega) ?_ | refine XArr.intsA (by omega) (by omega) (by omega) ?_) | ((with_reducible first | refine XArr.nats ?_ ?_ ?_ | refine XArr.natsA ?_ ?_ ?_ | refine XArr.ptr ?_ ?_ ?_); omega; omega)); conv => whnf) | (apply Walk.drawN (id := 4) tab_ok mixed_ok [] [16] (hsC [_, _]) [_, _, _, _, _, _, _, _, _, _, _, _, _, _, _, _, _] (by kernel_rfl) rfl) | (apply Walk.drawN (id := 19) tab_ok mixed_ok [] [] (hsU _) [_, _, _, _, _, _, _, _, _, _, _, _, _, _, _, _, _, _, _, _, _, _, _, _, _, _, _, _, _, _, _, _, _, _, _, _, _, _, _, _, _, _, _, _, _, _, _, _, _] (by kernel_rfl) rfl) | (apply Walk.drawN (id := 24) tab_ok mixed_ok [] [] (hsU _) [_, _, _, _, _, _, _, _, _, _, _, _, _, _, _, _, _, _, _, _] (by kernel_rfl) rfl) | ((first | (with_reducible apply XNext.mk) | (refine XCall.ret awake04_c ?_)); conv => whnf) | ((with_reducible apply XBr.mk') <;> (intro h; conv => whnf))
      all_goals exact absurd hr (chR_real ok.toBedOk R)
    | some l =>
      rw [hr] at hag hch
      obtain ⟨l1, l2, l3⟩ := chR_spec ok.toBedOk hr
      have hcl : ((chsA l).length : Int) = b.months.length := by rw [List.length_map]; omega
      have hcv : ∀ m, m ≤ b.months.length → 0 ≤ (re).getD m default ∧ (re).getD m default ≤ b.room := fun m hm => hrb _ (getD_mem (by rw [rl]; omega))
      conv => whnf
      repeat' first | ((with_reducible first | apply XBr.tt | apply XBr.ff | apply Chk.go | apply ChkA.go | apply ChkF.go | apply ChkB.go | apply XArr.pim0 | apply XArr.pim1); conv => whnf) | (with_reducible apply XBr.not) | ((with_reducible apply XBr.dec) <;> (intro h; first | (exfalso; omega) | ((try simp only [List.length_map] at h); first | (exfalso; omega) | (conv => whnf)))) | ((with_reducible first | apply XBr.beq | apply XBr.bne) <;> (intro h; first | (exfalso; omega) | (conv => whnf))) | ((with_reducible refine XInt.i64 (by omega) (by omega) ?_); conv => whnf) | ((with_reducible refine XHold.mk ?_ ?_); (first | omega | rfl | decide | exact ⟨rfl, by decide, rfl⟩ | exact wideI _ | exact widePr _ | exact wideSk _ | (unfold Room; constructor <;> ((try simp) <;> omega)) | exact ⟨rfl, by simp only [List.length_map], by unfold Room; constructor <;> ((try simp) <;> omega)⟩ | exact ⟨by omega, by omega, by unfold Room; constructor <;> ((try simp) <;> omega)⟩); conv => whnf) | ((first | ((with_reducible refine XIx.nat ?_ ?_ ?_); omega; (intro _; rfl)) | ((with_reducible refine XIx.map ?_ ?_ ?_ ?_); omega; omega; (intro _; rfl))); conv => whnf) | (with_reducible apply XAnd.mk) | (exact XSame.mk rfl rfl) | (exact XSame.mk (by first | rfl | (simp only [List.map_append, List.length_append, List.length_map]; done) | (simp only [List.map_append, List.length_append, List.length_map]; rfl)) (by first | rfl | (simp only [List.map_append]; done) | (simp only [List.map_append]; rfl))) | (with_reducible exact trivial) | ((first | (with_reducible refine xdrop_app (by rw [List.length_map]; omega) ?_) | (with_reducible refine XDrop.desk (by assumption) ?_) | (with_reducible first | refine XArr.ints (by omega) (by omega) (by omega) ?_ | refine XArr.intsA (by omega) (by omega) (by omega) ?_) | ((with_reducible first | refine XArr.nats ?_ ?_ ?_ | refine XArr.natsA ?_ ?_ ?_ | refine XArr.ptr ?_ ?_ ?_); omega; omega)); conv => whnf) | (apply Walk.drawN (id := 4) tab_ok mixed_ok [] [16] (hsC [_, _]) [_, _, _, _, _, _, _, _, _, _, _, _, _, _, _, _, _] (by kernel_rfl) rfl) | (apply Walk.drawN (id := 19) tab_ok mixed_ok [] [] (hsU _) [_, _, _, _, _, _, _, _, _, _, _, _, _, _, _, _, _, _, _, _, _, _, _, _, _, _, _, _, _, _, _, _, _, _, _, _, _, _, _, _, _, _, _, _, _, _, _, _, _] (by kernel_rfl) rfl) | (apply Walk.drawN (id := 24) tab_ok mixed_ok [] [] (hsU _) [_, _, _, _, _, _, _, _, _, _, _, _, _, _, _, _, _, _, _, _] (by kernel_rfl) rfl) | ((first | (with_reducible apply XNext.mk) | (refine XIx.mk (by omega) (by simp) rfl ?_) | (refine XCall.ret hag ?_) | (refine XCall.ret hch ?_) | (refine XCall.ret awake04_c ?_)); conv => whnf) | ((with_reducible apply XBr.mk') <;> (intro h; conv => whnf))
      refine Walk.norm tab_ok [] [(7, _), (12, _), (13, _), (14, _), (15, _), (16, _), (17, _), (54, _), (55, _), (56, _)] ⟨rfl, rfl, rfl, rfl, rfl, rfl, rfl, rfl, rfl, rfl, trivial⟩ ?_
      conv => whnf
      repeat' first | ((with_reducible first | apply XBr.tt | apply XBr.ff | apply Chk.go | apply ChkA.go | apply ChkF.go | apply ChkB.go | apply XArr.pim0 | apply XArr.pim1); conv => whnf) | (with_reducible apply XBr.not) | ((with_reducible apply XBr.dec) <;> (intro h; first | (exfalso; omega) | ((try simp only [List.length_map] at h); first | (exfalso; omega) | (conv => whnf)))) | ((with_reducible first | apply XBr.beq | apply XBr.bne) <;> (intro h; first | (exfalso; omega) | (conv => whnf))) | ((with_reducible refine XInt.i64 (by omega) (by omega) ?_); conv => whnf) | ((with_reducible refine XHold.mk ?_ ?_); (first | omega | rfl | decide | exact ⟨rfl, by decide, rfl⟩ | exact wideI _ | exact widePr _ | exact wideSk _ | (unfold Room; constructor <;> ((try simp) <;> omega)) | exact ⟨rfl, by simp only [List.length_map], by unfold Room; constructor <;> ((try simp) <;> omega)⟩ | exact ⟨by omega, by omega, by unfold Room; constructor <;> ((try simp) <;> omega)⟩); conv => whnf) | ((first | ((with_reducible refine XIx.nat ?_ ?_ ?_); omega; (intro _; rfl)) | ((with_reducible refine XIx.map ?_ ?_ ?_ ?_); omega; omega; (intro _; rfl))); conv => whnf) | (with_reducible apply XAnd.mk) | (exact XSame.mk rfl rfl) | (exact XSame.mk (by first | rfl | (simp only [List.map_append, List.length_append, List.length_map]; done) | (simp only [List.map_append, List.length_append, List.length_map]; rfl)) (by first | rfl | (simp only [List.map_append]; done) | (simp only [List.map_append]; rfl))) | (with_reducible exact trivial) | ((first | (with_reducible refine xdrop_app (by rw [List.length_map]; omega) ?_) | (with_reducible refine XDrop.desk (by assumption) ?_) | (with_reducible first | refine XArr.ints (by omega) (by omega) (by omega) ?_ | refine XArr.intsA (by omega) (by omega) (by omega) ?_) | ((with_reducible first | refine XArr.nats ?_ ?_ ?_ | refine XArr.natsA ?_ ?_ ?_ | refine XArr.ptr ?_ ?_ ?_); omega; omega)); conv => whnf) | (apply Walk.drawN (id := 4) tab_ok mixed_ok [] [16] (hsC [_, _]) [_, _, _, _, _, _, _, _, _, _, _, _, _, _, _, _, _] (by kernel_rfl) rfl) | (apply Walk.drawN (id := 19) tab_ok mixed_ok [] [] (hsU _) [_, _, _, _, _, _, _, _, _, _, _, _, _, _, _, _, _, _, _, _, _, _, _, _, _, _, _, _, _, _, _, _, _, _, _, _, _, _, _, _, _, _, _, _, _, _, _, _, _] (by kernel_rfl) rfl) | (apply Walk.drawN (id := 24) tab_ok mixed_ok [] [] (hsU _) [_, _, _, _, _, _, _, _, _, _, _, _, _, _, _, _, _, _, _, _] (by kernel_rfl) rfl) | ((first | (with_reducible apply XNext.mk) | (refine XCall.ret awake04_c ?_)); conv => whnf) | ((with_reducible apply XBr.mk') <;> (intro h; conv => whnf))
      all_goals try (exfalso; simp at h; done)
      refine Walk.loopGK tab_ok [] [(7, _), (13, _), (54, _), (55, _), (56, _), (105, _), (106, _)] ⟨rfl, rfl, rfl, rfl, rfl, rfl, rfl, trivial⟩ (fun m : Nat => m ≤ b.months.length) (fun m => [(107, natA m)]) (fun _ => [hpC u1, .cells (bedC b), .dead]) (fun m => b.months.length - m) 0 (Nat.zero_le _) rfl ⟨rfl, trivial⟩ ?_ (fun _ _ => (show (3 : Nat) ≤ 3 from Nat.le_refl 3)) ?_
      · intro q _
        refine ⟨fun z hz => ?_, fun z hz => ?_⟩
        · simp only [List.mem_cons, List.not_mem_nil, or_false] at hz
          rcases hz with rfl | rfl | rfl <;> first | exact hpC_low _ | exact lowBd b | rfl
        · simp only [List.cons_append, List.nil_append, List.mem_cons, List.not_mem_nil, or_false] at hz
          rcases hz with rfl | rfl | rfl | rfl | rfl | rfl | rfl | rfl <;> first | rfl | exact lowI _ | exact chs_low _ | (simp only [AV.low, lowL, lowI]; rfl)
      intro m hm
      conv => whnf
      by_cases hlt : m < b.months.length
      · have hal := l2 m hlt
        have hfs := l3 m hlt
        have hmo := ok.mo' hlt
        have hc1 := hcv m (by omega)
        have hc2 := hcv (m + 1) (by omega)
        simp only [moB] at hal hfs hmo
        have hli := fun (st : Int) (q1 : 0 ≤ st) (q2 : st ≤ 1000) => lies_c b (b.months.getD m default) ((re).getD m default) (l.getD m default).1 st hc1.1 (by omega) hmo.1 hmo.2.1 (by omega) (by omega) (by omega) (by omega) q1 q2
        have hlb := fun (st : Int) (q1 : 0 ≤ st) => grossR_le (room := b.room) (g := (b.months.getD m default).g) (a := (re).getD m default) (sp := (l.getD m default).1) (st := st) (by omega) q1
        have hms : (re).getD ((m : Int) + 1).toNat default = (re).getD (m + 1) default := congrArg (fun z => (re).getD z default) (by omega : ((m : Int) + 1).toNat = m + 1)
        have hl0 := hli (l.getD m default).2 (by omega) (by omega)
        have hb0 := hlb (l.getD m default).2 (by omega)
        generalize hg0 : grossR b.room (b.months.getD m default).g ((re).getD m default) (l.getD m default).1 (l.getD m default).2 = g0 at hl0 hb0 hal
        repeat' first | ((with_reducible first | apply XBr.tt | apply XBr.ff | apply Chk.go | apply ChkA.go | apply ChkF.go | apply ChkB.go | apply XArr.pim0 | apply XArr.pim1); conv => whnf) | (with_reducible apply XBr.not) | ((with_reducible apply XBr.dec) <;> (intro h; first | (exfalso; omega) | ((try simp only [List.length_map] at h); first | (exfalso; omega) | (conv => whnf)))) | ((with_reducible first | apply XBr.beq | apply XBr.bne) <;> (intro h; first | (exfalso; omega) | (conv => whnf))) | ((with_reducible refine XInt.i64 (by omega) (by omega) ?_); conv => whnf) | ((with_reducible refine XHold.mk ?_ ?_); (first | omega | rfl | decide | exact ⟨rfl, by decide, rfl⟩ | exact wideI _ | exact widePr _ | exact wideSk _ | (unfold Room; constructor <;> ((try simp) <;> omega)) | exact ⟨rfl, by simp only [List.length_map], by unfold Room; constructor <;> ((try simp) <;> omega)⟩ | exact ⟨by omega, by omega, by unfold Room; constructor <;> ((try simp) <;> omega)⟩); conv => whnf) | ((first | ((with_reducible refine XIx.nat ?_ ?_ ?_); omega; (intro _; rfl)) | ((with_reducible refine XIx.map ?_ ?_ ?_ ?_); omega; omega; (intro _; rfl))); conv => whnf) | (with_reducible apply XAnd.mk) | (exact XSame.mk rfl rfl) | (exact XSame.mk (by first | rfl | (simp only [List.map_append, List.length_append, List.length_map]; done) | (simp only [List.map_append, List.length_append, List.length_map]; rfl)) (by first | rfl | (simp only [List.map_append]; done) | (simp only [List.map_append]; rfl))) | (with_reducible exact trivial) | ((first | (with_reducible refine xdrop_app (by rw [List.length_map]; omega) ?_) | (with_reducible refine XDrop.desk (by assumption) ?_) | (with_reducible first | refine XArr.ints (by omega) (by omega) (by omega) ?_ | refine XArr.intsA (by omega) (by omega) (by omega) ?_) | ((with_reducible first | refine XArr.nats ?_ ?_ ?_ | refine XArr.natsA ?_ ?_ ?_ | refine XArr.ptr ?_ ?_ ?_); omega; omega)); conv => whnf) | (apply Walk.drawN (id := 4) tab_ok mixed_ok [] [16] (hsC [_, _]) [_, _, _, _, _, _, _, _, _, _, _, _, _, _, _, _, _] (by kernel_rfl) rfl) | (apply Walk.drawN (id := 19) tab_ok mixed_ok [] [] (hsU _) [_, _, _, _, _, _, _, _, _, _, _, _, _, _, _, _, _, _, _, _, _, _, _, _, _, _, _, _, _, _, _, _, _, _, _, _, _, _, _, _, _, _, _, _, _, _, _, _, _] (by kernel_rfl) rfl) | (apply Walk.drawN (id := 24) tab_ok mixed_ok [] [] (hsU _) [_, _, _, _, _, _, _, _, _, _, _, _, _, _, _, _, _, _, _, _] (by kernel_rfl) rfl) | ((first | (with_reducible apply XNext.mk) | (refine XCall.ret hl0 ?_) | (refine XInt.i64 (show _ ≤ g0 - (b.months.getD m default).r by omega) (show g0 - (b.months.getD m default).r ≤ _ by omega) ?_)); conv => whnf) | ((with_reducible apply XBr.mk') <;> (intro h; conv => whnf))
        all_goals try (exfalso; omega)
        refine Walk.loopK tab_ok [] [(7, _), (13, _), (18, _), (19, _), (20, _), (54, _), (55, _), (56, _), (105, _), (106, _), (107, _)] ⟨rfl, rfl, rfl, rfl, rfl, rfl, rfl, rfl, rfl, rfl, rfl, trivial⟩ (fun t : Int => (b.months.getD m default).tl ≤ t ∧ t ≤ (l.getD m default).2) (fun t => [(21, .int .i64 t)]) (fun _ => [hpC u1, .cells (bedC b), .dead, .cells [.int .i64 (l.getD m default).1, .int .i64 (l.getD m default).2], .cells (moC (b.months.getD m default))]) (fun t => ((l.getD m default).2 - t).toNat) (b.months.getD m default).tl ⟨Int.le_refl _, by omega⟩ rfl ⟨rfl, trivial⟩ ?_
        intro t ht
        have hl1 := hli t (by omega) (by omega)
        have hb1 := hlb t (by omega)
        have hf1 := hfs t ht.1
        generalize hg1 : grossR b.room (b.months.getD m default).g ((re).getD m default) (l.getD m default).1 t = g1 at hl1 hb1 hf1
        conv => whnf
        repeat' first | ((with_reducible first | apply XBr.tt | apply XBr.ff | apply Chk.go | apply ChkA.go | apply ChkF.go | apply ChkB.go | apply XArr.pim0 | apply XArr.pim1); conv => whnf) | (with_reducible apply XBr.not) | ((with_reducible apply XBr.dec) <;> (intro h; first | (exfalso; omega) | ((try simp only [List.length_map] at h); first | (exfalso; omega) | (conv => whnf)))) | ((with_reducible first | apply XBr.beq | apply XBr.bne) <;> (intro h; first | (exfalso; omega) | (conv => whnf))) | ((with_reducible refine XInt.i64 (by omega) (by omega) ?_); conv => whnf) | ((with_reducible refine XHold.mk ?_ ?_); (first | omega | rfl | decide | exact ⟨rfl, by decide, rfl⟩ | exact wideI _ | exact widePr _ | exact wideSk _ | (unfold Room; constructor <;> ((try simp) <;> omega)) | exact ⟨rfl, by simp only [List.length_map], by unfold Room; constructor <;> ((try simp) <;> omega)⟩ | exact ⟨by omega, by omega, by unfold Room; constructor <;> ((try simp) <;> omega)⟩); conv => whnf) | ((first | ((with_reducible refine XIx.nat ?_ ?_ ?_); omega; (intro _; rfl)) | ((with_reducible refine XIx.map ?_ ?_ ?_ ?_); omega; omega; (intro _; rfl))); conv => whnf) | (with_reducible apply XAnd.mk) | (exact XSame.mk rfl rfl) | (exact XSame.mk (by first | rfl | (simp only [List.map_append, List.length_append, List.length_map]; done) | (simp only [List.map_append, List.length_append, List.length_map]; rfl)) (by first | rfl | (simp only [List.map_append]; done) | (simp only [List.map_append]; rfl))) | (with_reducible exact trivial) | ((first | (with_reducible refine xdrop_app (by rw [List.length_map]; omega) ?_) | (with_reducible refine XDrop.desk (by assumption) ?_) | (with_reducible first | refine XArr.ints (by omega) (by omega) (by omega) ?_ | refine XArr.intsA (by omega) (by omega) (by omega) ?_) | ((with_reducible first | refine XArr.nats ?_ ?_ ?_ | refine XArr.natsA ?_ ?_ ?_ | refine XArr.ptr ?_ ?_ ?_); omega; omega)); conv => whnf) | (apply Walk.drawN (id := 4) tab_ok mixed_ok [] [16] (hsC [_, _]) [_, _, _, _, _, _, _, _, _, _, _, _, _, _, _, _, _] (by kernel_rfl) rfl) | (apply Walk.drawN (id := 19) tab_ok mixed_ok [] [] (hsU _) [_, _, _, _, _, _, _, _, _, _, _, _, _, _, _, _, _, _, _, _, _, _, _, _, _, _, _, _, _, _, _, _, _, _, _, _, _, _, _, _, _, _, _, _, _, _, _, _, _] (by kernel_rfl) rfl) | (apply Walk.drawN (id := 24) tab_ok mixed_ok [] [] (hsU _) [_, _, _, _, _, _, _, _, _, _, _, _, _, _, _, _, _, _, _, _] (by kernel_rfl) rfl) | ((first | (with_reducible apply XNext.mk) | (refine XCall.ret hl1 ?_) | (refine XInt.i64 (show _ ≤ g1 - (b.months.getD m default).r by omega) (show g1 - (b.months.getD m default).r ≤ _ by omega) ?_)); conv => whnf) | ((with_reducible apply XBr.mk') <;> (intro h; conv => whnf))
        all_goals try (exfalso; omega)
        · exact XAgain.go (t + 1) ⟨by omega, by omega⟩ (by omega) rfl ⟨rfl, rfl, rfl, rfl, rfl, rfl, rfl, rfl, rfl, rfl, rfl, rfl, trivial⟩
        · exact XAgainG.go (m + 1) [.cells _, .cells _] (by omega) (by omega) rfl ⟨rfl, rfl, rfl, rfl, rfl, rfl, rfl, rfl, trivial⟩
      · obtain rfl : m = b.months.length := by omega
        repeat' first | ((with_reducible first | apply XBr.tt | apply XBr.ff | apply Chk.go | apply ChkA.go | apply ChkF.go | apply ChkB.go | apply XArr.pim0 | apply XArr.pim1); conv => whnf) | (with_reducible apply XBr.not) | ((with_reducible apply XBr.dec) <;> (intro h; first | (exfalso; omega) | ((try simp only [List.length_map] at h); first | (exfalso; omega) | (conv => whnf)))) | ((with_reducible first | apply XBr.beq | apply XBr.bne) <;> (intro h; first | (exfalso; omega) | (conv => whnf))) | ((with_reducible refine XInt.i64 (by omega) (by omega) ?_); conv => whnf) | ((with_reducible refine XHold.mk ?_ ?_); (first | omega | rfl | decide | exact ⟨rfl, by decide, rfl⟩ | exact wideI _ | exact widePr _ | exact wideSk _ | (unfold Room; constructor <;> ((try simp) <;> omega)) | exact ⟨rfl, by simp only [List.length_map], by unfold Room; constructor <;> ((try simp) <;> omega)⟩ | exact ⟨by omega, by omega, by unfold Room; constructor <;> ((try simp) <;> omega)⟩); conv => whnf) | ((first | ((with_reducible refine XIx.nat ?_ ?_ ?_); omega; (intro _; rfl)) | ((with_reducible refine XIx.map ?_ ?_ ?_ ?_); omega; omega; (intro _; rfl))); conv => whnf) | (with_reducible apply XAnd.mk) | (exact XSame.mk rfl rfl) | (exact XSame.mk (by first | rfl | (simp only [List.map_append, List.length_append, List.length_map]; done) | (simp only [List.map_append, List.length_append, List.length_map]; rfl)) (by first | rfl | (simp only [List.map_append]; done) | (simp only [List.map_append]; rfl))) | (with_reducible exact trivial) | ((first | (with_reducible refine xdrop_app (by rw [List.length_map]; omega) ?_) | (with_reducible refine XDrop.desk (by assumption) ?_) | (with_reducible first | refine XArr.ints (by omega) (by omega) (by omega) ?_ | refine XArr.intsA (by omega) (by omega) (by omega) ?_) | ((with_reducible first | refine XArr.nats ?_ ?_ ?_ | refine XArr.natsA ?_ ?_ ?_ | refine XArr.ptr ?_ ?_ ?_); omega; omega)); conv => whnf) | (apply Walk.drawN (id := 4) tab_ok mixed_ok [] [16] (hsC [_, _]) [_, _, _, _, _, _, _, _, _, _, _, _, _, _, _, _, _] (by kernel_rfl) rfl) | (apply Walk.drawN (id := 19) tab_ok mixed_ok [] [] (hsU _) [_, _, _, _, _, _, _, _, _, _, _, _, _, _, _, _, _, _, _, _, _, _, _, _, _, _, _, _, _, _, _, _, _, _, _, _, _, _, _, _, _, _, _, _, _, _, _, _, _] (by kernel_rfl) rfl) | (apply Walk.drawN (id := 24) tab_ok mixed_ok [] [] (hsU _) [_, _, _, _, _, _, _, _, _, _, _, _, _, _, _, _, _, _, _, _] (by kernel_rfl) rfl) | ((with_reducible apply XNext.mk); conv => whnf) | ((with_reducible apply XBr.mk') <;> (intro h; conv => whnf))
        exact XAgain.go (0 + 1) (by omega) (by omega) rfl ⟨rfl, rfl, rfl, rfl, trivial⟩
  · skip
    have hco : courE b oth = 0 := courE_iff.2 ⟨ok, ol, ob⟩
    have hag := agrees_all_c b false oth (by omega) (by have := ok.s1; omega) (by omega)
    have hch := chances_all_c b false oth (by omega) (by have := ok.s1; omega) (by omega)
    unfold agreesA at hag
    unfold chancesA at hch
    rw [if_neg (fun h => h hco), agrB_nil B.sv] at hag
    rw [if_neg (fun h => h hco)] at hch
    cases hr : chR b oth with
    | none =>
      rw [hr] at hag hch
      conv => whnf
      repeat' first | ((with_reducible first | apply XBr.tt | apply XBr.ff | apply Chk.go | apply ChkA.go | apply ChkF.go | apply ChkB.go | apply XArr.pim0 | apply XArr.pim1); conv => whnf) | (with_reducible apply XBr.not) | ((with_reducible apply XBr.dec) <;> (intro h; first | (exfalso; omega) | ((try simp only [List.length_map] at h); first | (exfalso; omega) | (conv => whnf)))) | ((with_reducible first | apply XBr.beq | apply XBr.bne) <;> (intro h; first | (exfalso; omega) | (conv => whnf))) | ((with_reducible refine XInt.i64 (by omega) (by omega) ?_); conv => whnf) | ((with_reducible refine XHold.mk ?_ ?_); (first | omega | rfl | decide | exact ⟨rfl, by decide, rfl⟩ | exact wideI _ | exact widePr _ | exact wideSk _ | (unfold Room; constructor <;> ((try simp) <;> omega)) | exact ⟨rfl, by simp only [List.length_map], by unfold Room; constructor <;> ((try simp) <;> omega)⟩ | exact ⟨by omega, by omega, by unfold Room; constructor <;> ((try simp) <;> omega)⟩); conv => whnf) | ((first | ((with_reducible refine XIx.nat ?_ ?_ ?_); omega; (intro _; rfl)) | ((with_reducible refine XIx.map ?_ ?_ ?_ ?_); omega; omega; (intro _; rfl))); conv => whnf) | (with_reducible apply XAnd.mk) | (exact XSame.mk rfl rfl) | (exact XSame.mk (by first | rfl | (simp only [List.map_append, List.length_append, List.length_map]; done) | (simp only [List.map_append, List.length_append, List.length_map]; rfl)) (by first | rfl | (simp only [List.map_append]; done) | (simp only [List.map_append]; rfl))) | (with_reducible exact trivial) | ((first | (with_reducible refine xdrop_app (by rw [List.length_map]; omega) ?_) | (with_reducible refine XDrop.desk (by assumption) ?_) | (with_reducible first | refine XArr.ints (by omega) (by omega) (by omega) ?_ | refine XArr.intsA (by omega) (by omega) (by omega) ?_) | ((with_reducible first | refine XArr.nats ?_ ?_ ?_ | refine XArr.natsA ?_ ?_ ?_ | refine XArr.ptr ?_ ?_ ?_); omega; omega)); conv => whnf) | (apply Walk.drawN (id := 4) tab_ok mixed_ok [] [16] (hsC [_, _]) [_, _, _, _, _, _, _, _, _, _, _, _, _, _, _, _, _] (by kernel_rfl) rfl) | (apply Walk.drawN (id := 19) tab_ok mixed_ok [] [] (hsU _) [_, _, _, _, _, _, _, _, _, _, _, _, _, _, _, _, _, _, _, _, _, _, _, _, _, _, _, _, _, _, _, _, _, _, _, _, _, _, _, _, _, _, _, _, _, _, _, _, _] (by kernel_rfl) rfl) | (apply Walk.drawN (id := 24) tab_ok mixed_ok [] [] (hsU _) [_, _, _, _, _, _, _, _, _, _, _, _, _, _, _, _, _, _, _, _] (by kernel_rfl) rfl) | ((first | (with_reducible apply XNext.mk) | (refine XIx.mk (by omega) (by simp) rfl ?_) | (refine XCall.ret hag ?_) | (refine XCall.ret hch ?_) | (refine XCall.ret awake04_c ?_)); conv => whnf) | ((with_reducible apply XBr.mk') <;> (intro h; conv => whnf))
      refine Walk.norm tab_ok [] [(7, _), (12, _), (13, _), (14, _), (15, _), (16, _), (17, _), (54, _), (55, _), (56, _)] ⟨rfl, rfl, rfl, rfl, rfl, rfl, rfl, rfl, rfl, rfl, trivial⟩ ?_
      conv => whnf
      repeat' first | ((with_reducible first | apply XBr.tt | apply XBr.ff | apply Chk.go | apply ChkA.go | apply ChkF.go | apply ChkB.go | apply XArr.pim0 | apply XArr.pim1); conv => whnf) | (with_reducible apply XBr.not) | ((with_reducible apply XBr.dec) <;> (intro h; first | (exfalso; omega) | ((try simp only [List.length_map] at h); first | (exfalso; omega) | (conv => whnf)))) | ((with_reducible first | apply XBr.beq | apply XBr.bne) <;> (intro h; first | (exfalso; omega) | (conv => whnf))) | ((with_reducible refine XInt.i64 (by omega) (by omega) ?_); conv => whnf) | ((with_reducible refine XHold.mk ?_ ?_); (first | omega | rfl | decide | exact ⟨rfl, by decide, rfl⟩ | exact wideI _ | exact widePr _ | exact wideSk _ | (unfold Room; constructor <;> ((try simp) <;> omega)) | exact ⟨rfl, by simp only [List.length_map], by unfold Room; constructor <;> ((try simp) <;> omega)⟩ | exact ⟨by omega, by omega, by unfold Room; constructor <;> ((try simp) <;> omega)⟩); conv => whnf) | ((first | ((with_reducible refine XIx.nat ?_ ?_ ?_); omega; (intro _; rfl)) | ((with_reducible refine XIx.map ?_ ?_ ?_ ?_); omega; omega; (intro _; rfl))); conv => whnf) | (with_reducible apply XAnd.mk) | (exact XSame.mk rfl rfl) | (exact XSame.mk (by first | rfl | (simp only [List.map_append, List.length_append, List.length_map]; done) | (simp only [List.map_append, List.length_append, List.length_map]; rfl)) (by first | rfl | (simp only [List.map_append]; done) | (simp only [List.map_append]; rfl))) | (with_reducible exact trivial) | ((first | (with_reducible refine xdrop_app (by rw [List.length_map]; omega) ?_) | (with_reducible refine XDrop.desk (by assumption) ?_) | (with_reducible first | refine XArr.ints (by omega) (by omega) (by omega) ?_ | refine XArr.intsA (by omega) (by omega) (by omega) ?_) | ((with_reducible first | refine XArr.nats ?_ ?_ ?_ | refine XArr.natsA ?_ ?_ ?_ | refine XArr.ptr ?_ ?_ ?_); omega; omega)); conv => whnf) | (apply Walk.drawN (id := 4) tab_ok mixed_ok [] [16] (hsC [_, _]) [_, _, _, _, _, _, _, _, _, _, _, _, _, _, _, _, _] (by kernel_rfl) rfl) | (apply Walk.drawN (id := 19) tab_ok mixed_ok [] [] (hsU _) [_, _, _, _, _, _, _, _, _, _, _, _, _, _, _, _, _, _, _, _, _, _, _, _, _, _, _, _, _, _, _, _, _, _, _, _, _, _, _, _, _, _, _, _, _, _, _, _, _] (by kernel_rfl) rfl) | (apply Walk.drawN (id := 24) tab_ok mixed_ok [] [] (hsU _) [_, _, _, _, _, _, _, _, _, _, _, _, _, _, _, _, _, _, _, _] (by kernel_rfl) rfl) | ((first | (with_reducible apply XNext.mk) | (refine XCall.ret awake04_c ?_)); conv => whnf) | ((with_reducible apply XBr.mk') <;> (intro h; conv => whnf))
      all_goals first | (exfalso; simp at h; done) | exact XAgain.go 2 (by omega) (by omega) rfl ⟨rfl, rfl, rfl, rfl, trivial⟩
    | some l =>
      rw [hr] at hag hch
      obtain ⟨l1, l2, l3⟩ := chR_spec ok.toBedOk hr
      have hcl : ((chsA l).length : Int) = b.months.length := by rw [List.length_map]; omega
      have hcv : ∀ m, m ≤ b.months.length → 0 ≤ (oth).getD m default ∧ (oth).getD m default ≤ b.room := fun m hm => ob _ (getD_mem (by rw [ol]; omega))
      conv => whnf
      repeat' first | ((with_reducible first | apply XBr.tt | apply XBr.ff | apply Chk.go | apply ChkA.go | apply ChkF.go | apply ChkB.go | apply XArr.pim0 | apply XArr.pim1); conv => whnf) | (with_reducible apply XBr.not) | ((with_reducible apply XBr.dec) <;> (intro h; first | (exfalso; omega) | ((try simp only [List.length_map] at h); first | (exfalso; omega) | (conv => whnf)))) | ((with_reducible first | apply XBr.beq | apply XBr.bne) <;> (intro h; first | (exfalso; omega) | (conv => whnf))) | ((with_reducible refine XInt.i64 (by omega) (by omega) ?_); conv => whnf) | ((with_reducible refine XHold.mk ?_ ?_); (first | omega | rfl | decide | exact ⟨rfl, by decide, rfl⟩ | exact wideI _ | exact widePr _ | exact wideSk _ | (unfold Room; constructor <;> ((try simp) <;> omega)) | exact ⟨rfl, by simp only [List.length_map], by unfold Room; constructor <;> ((try simp) <;> omega)⟩ | exact ⟨by omega, by omega, by unfold Room; constructor <;> ((try simp) <;> omega)⟩); conv => whnf) | ((first | ((with_reducible refine XIx.nat ?_ ?_ ?_); omega; (intro _; rfl)) | ((with_reducible refine XIx.map ?_ ?_ ?_ ?_); omega; omega; (intro _; rfl))); conv => whnf) | (with_reducible apply XAnd.mk) | (exact XSame.mk rfl rfl) | (exact XSame.mk (by first | rfl | (simp only [List.map_append, List.length_append, List.length_map]; done) | (simp only [List.map_append, List.length_append, List.length_map]; rfl)) (by first | rfl | (simp only [List.map_append]; done) | (simp only [List.map_append]; rfl))) | (with_reducible exact trivial) | ((first | (with_reducible refine xdrop_app (by rw [List.length_map]; omega) ?_) | (with_reducible refine XDrop.desk (by assumption) ?_) | (with_reducible first | refine XArr.ints (by omega) (by omega) (by omega) ?_ | refine XArr.intsA (by omega) (by omega) (by omega) ?_) | ((with_reducible first | refine XArr.nats ?_ ?_ ?_ | refine XArr.natsA ?_ ?_ ?_ | refine XArr.ptr ?_ ?_ ?_); omega; omega)); conv => whnf) | (apply Walk.drawN (id := 4) tab_ok mixed_ok [] [16] (hsC [_, _]) [_, _, _, _, _, _, _, _, _, _, _, _, _, _, _, _, _] (by kernel_rfl) rfl) | (apply Walk.drawN (id := 19) tab_ok mixed_ok [] [] (hsU _) [_, _, _, _, _, _, _, _, _, _, _, _, _, _, _, _, _, _, _, _, _, _, _, _, _, _, _, _, _, _, _, _, _, _, _, _, _, _, _, _, _, _, _, _, _, _, _, _, _] (by kernel_rfl) rfl) | (apply Walk.drawN (id := 24) tab_ok mixed_ok [] [] (hsU _) [_, _, _, _, _, _, _, _, _, _, _, _, _, _, _, _, _, _, _, _] (by kernel_rfl) rfl) | ((first | (with_reducible apply XNext.mk) | (refine XIx.mk (by omega) (by simp) rfl ?_) | (refine XCall.ret hag ?_) | (refine XCall.ret hch ?_) | (refine XCall.ret awake04_c ?_)); conv => whnf) | ((with_reducible apply XBr.mk') <;> (intro h; conv => whnf))
      refine Walk.norm tab_ok [] [(7, _), (12, _), (13, _), (14, _), (15, _), (16, _), (17, _), (54, _), (55, _), (56, _)] ⟨rfl, rfl, rfl, rfl, rfl, rfl, rfl, rfl, rfl, rfl, trivial⟩ ?_
      conv => whnf
      repeat' first | ((with_reducible first | apply XBr.tt | apply XBr.ff | apply Chk.go | apply ChkA.go | apply ChkF.go | apply ChkB.go | apply XArr.pim0 | apply XArr.pim1); conv => whnf) | (with_reducible apply XBr.not) | ((with_reducible apply XBr.dec) <;> (intro h; first | (exfalso; omega) | ((try simp only [List.length_map] at h); first | (exfalso; omega) | (conv => whnf)))) | ((with_reducible first | apply XBr.beq | apply XBr.bne) <;> (intro h; first | (exfalso; omega) | (conv => whnf))) | ((with_reducible refine XInt.i64 (by omega) (by omega) ?_); conv => whnf) | ((with_reducible refine XHold.mk ?_ ?_); (first | omega | rfl | decide | exact ⟨rfl, by decide, rfl⟩ | exact wideI _ | exact widePr _ | exact wideSk _ | (unfold Room; constructor <;> ((try simp) <;> omega)) | exact ⟨rfl, by simp only [List.length_map], by unfold Room; constructor <;> ((try simp) <;> omega)⟩ | exact ⟨by omega, by omega, by unfold Room; constructor <;> ((try simp) <;> omega)⟩); conv => whnf) | ((first | ((with_reducible refine XIx.nat ?_ ?_ ?_); omega; (intro _; rfl)) | ((with_reducible refine XIx.map ?_ ?_ ?_ ?_); omega; omega; (intro _; rfl))); conv => whnf) | (with_reducible apply XAnd.mk) | (exact XSame.mk rfl rfl) | (exact XSame.mk (by first | rfl | (simp only [List.map_append, List.length_append, List.length_map]; done) | (simp only [List.map_append, List.length_append, List.length_map]; rfl)) (by first | rfl | (simp only [List.map_append]; done) | (simp only [List.map_append]; rfl))) | (with_reducible exact trivial) | ((first | (with_reducible refine xdrop_app (by rw [List.length_map]; omega) ?_) | (with_reducible refine XDrop.desk (by assumption) ?_) | (with_reducible first | refine XArr.ints (by omega) (by omega) (by omega) ?_ | refine XArr.intsA (by omega) (by omega) (by omega) ?_) | ((with_reducible first | refine XArr.nats ?_ ?_ ?_ | refine XArr.natsA ?_ ?_ ?_ | refine XArr.ptr ?_ ?_ ?_); omega; omega)); conv => whnf) | (apply Walk.drawN (id := 4) tab_ok mixed_ok [] [16] (hsC [_, _]) [_, _, _, _, _, _, _, _, _, _, _, _, _, _, _, _, _] (by kernel_rfl) rfl) | (apply Walk.drawN (id := 19) tab_ok mixed_ok [] [] (hsU _) [_, _, _, _, _, _, _, _, _, _, _, _, _, _, _, _, _, _, _, _, _, _, _, _, _, _, _, _, _, _, _, _, _, _, _, _, _, _, _, _, _, _, _, _, _, _, _, _, _] (by kernel_rfl) rfl) | (apply Walk.drawN (id := 24) tab_ok mixed_ok [] [] (hsU _) [_, _, _, _, _, _, _, _, _, _, _, _, _, _, _, _, _, _, _, _] (by kernel_rfl) rfl) | ((first | (with_reducible apply XNext.mk) | (refine XCall.ret awake04_c ?_)); conv => whnf) | ((with_reducible apply XBr.mk') <;> (intro h; conv => whnf))
      all_goals try (exfalso; simp at h; done)
      refine Walk.loopGK tab_ok [] [(7, _), (13, _), (54, _), (55, _), (56, _), (105, _), (106, _)] ⟨rfl, rfl, rfl, rfl, rfl, rfl, rfl, trivial⟩ (fun m : Nat => m ≤ b.months.length) (fun m => [(107, natA m)]) (fun _ => [hpC u1, .cells (bedC b), .dead]) (fun m => b.months.length - m) 0 (Nat.zero_le _) rfl ⟨rfl, trivial⟩ ?_ (fun _ _ => (show (3 : Nat) ≤ 3 from Nat.le_refl 3)) ?_
      · intro q _
        refine ⟨fun z hz => ?_, fun z hz => ?_⟩
        · simp only [List.mem_cons, List.not_mem_nil, or_false] at hz
          rcases hz with rfl | rfl | rfl <;> first | exact hpC_low _ | exact lowBd b | rfl
        · simp only [List.cons_append, List.nil_append, List.mem_cons, List.not_mem_nil, or_false] at hz
          rcases hz with rfl | rfl | rfl | rfl | rfl | rfl | rfl | rfl <;> first | rfl | exact lowI _ | exact chs_low _ | (simp only [AV.low, lowL, lowI]; rfl)
      intro m hm
      conv => whnf
      by_cases hlt : m < b.months.length
      · have hal := l2 m hlt
        have hfs := l3 m hlt
        have hmo := ok.mo' hlt
        have hc1 := hcv m (by omega)
        have hc2 := hcv (m + 1) (by omega)
        simp only [moB] at hal hfs hmo
        have hli := fun (st : Int) (q1 : 0 ≤ st) (q2 : st ≤ 1000) => lies_c b (b.months.getD m default) ((oth).getD m default) (l.getD m default).1 st hc1.1 (by omega) hmo.1 hmo.2.1 (by omega) (by omega) (by omega) (by omega) q1 q2
        have hlb := fun (st : Int) (q1 : 0 ≤ st) => grossR_le (room := b.room) (g := (b.months.getD m default).g) (a := (oth).getD m default) (sp := (l.getD m default).1) (st := st) (by omega) q1
        have hms : (oth).getD ((m : Int) + 1).toNat default = (oth).getD (m + 1) default := congrArg (fun z => (oth).getD z default) (by omega : ((m : Int) + 1).toNat = m + 1)
        have hl0 := hli (l.getD m default).2 (by omega) (by omega)
        have hb0 := hlb (l.getD m default).2 (by omega)
        generalize hg0 : grossR b.room (b.months.getD m default).g ((oth).getD m default) (l.getD m default).1 (l.getD m default).2 = g0 at hl0 hb0 hal
        repeat' first | ((with_reducible first | apply XBr.tt | apply XBr.ff | apply Chk.go | apply ChkA.go | apply ChkF.go | apply ChkB.go | apply XArr.pim0 | apply XArr.pim1); conv => whnf) | (with_reducible apply XBr.not) | ((with_reducible apply XBr.dec) <;> (intro h; first | (exfalso; omega) | ((try simp only [List.length_map] at h); first | (exfalso; omega) | (conv => whnf)))) | ((with_reducible first | apply XBr.beq | apply XBr.bne) <;> (intro h; first | (exfalso; omega) | (conv => whnf))) | ((with_reducible refine XInt.i64 (by omega) (by omega) ?_); conv => whnf) | ((with_reducible refine XHold.mk ?_ ?_); (first | omega | rfl | decide | exact ⟨rfl, by decide, rfl⟩ | exact wideI _ | exact widePr _ | exact wideSk _ | (unfold Room; constructor <;> ((try simp) <;> omega)) | exact ⟨rfl, by simp only [List.length_map], by unfold Room; constructor <;> ((try simp) <;> omega)⟩ | exact ⟨by omega, by omega, by unfold Room; constructor <;> ((try simp) <;> omega)⟩); conv => whnf) | ((first | ((with_reducible refine XIx.nat ?_ ?_ ?_); omega; (intro _; rfl)) | ((with_reducible refine XIx.map ?_ ?_ ?_ ?_); omega; omega; (intro _; rfl))); conv => whnf) | (with_reducible apply XAnd.mk) | (exact XSame.mk rfl rfl) | (exact XSame.mk (by first | rfl | (simp only [List.map_append, List.length_append, List.length_map]; done) | (simp only [List.map_append, List.length_append, List.length_map]; rfl)) (by first | rfl | (simp only [List.map_append]; done) | (simp only [List.map_append]; rfl))) | (with_reducible exact trivial) | ((first | (with_reducible refine xdrop_app (by rw [List.length_map]; omega) ?_) | (with_reducible refine XDrop.desk (by assumption) ?_) | (with_reducible first | refine XArr.ints (by omega) (by omega) (by omega) ?_ | refine XArr.intsA (by omega) (by omega) (by omega) ?_) | ((with_reducible first | refine XArr.nats ?_ ?_ ?_ | refine XArr.natsA ?_ ?_ ?_ | refine XArr.ptr ?_ ?_ ?_); omega; omega)); conv => whnf) | (apply Walk.drawN (id := 4) tab_ok mixed_ok [] [16] (hsC [_, _]) [_, _, _, _, _, _, _, _, _, _, _, _, _, _, _, _, _] (by kernel_rfl) rfl) | (apply Walk.drawN (id := 19) tab_ok mixed_ok [] [] (hsU _) [_, _, _, _, _, _, _, _, _, _, _, _, _, _, _, _, _, _, _, _, _, _, _, _, _, _, _, _, _, _, _, _, _, _, _, _, _, _, _, _, _, _, _, _, _, _, _, _, _] (by kernel_rfl) rfl) | (apply Walk.drawN (id := 24) tab_ok mixed_ok [] [] (hsU _) [_, _, _, _, _, _, _, _, _, _, _, _, _, _, _, _, _, _, _, _] (by kernel_rfl) rfl) | ((first | (with_reducible apply XNext.mk) | (refine XCall.ret hl0 ?_) | (refine XInt.i64 (show _ ≤ g0 - (b.months.getD m default).r by omega) (show g0 - (b.months.getD m default).r ≤ _ by omega) ?_)); conv => whnf) | ((with_reducible apply XBr.mk') <;> (intro h; conv => whnf))
        all_goals try (exfalso; omega)
        refine Walk.loopK tab_ok [] [(7, _), (13, _), (18, _), (19, _), (20, _), (54, _), (55, _), (56, _), (105, _), (106, _), (107, _)] ⟨rfl, rfl, rfl, rfl, rfl, rfl, rfl, rfl, rfl, rfl, rfl, trivial⟩ (fun t : Int => (b.months.getD m default).tl ≤ t ∧ t ≤ (l.getD m default).2) (fun t => [(21, .int .i64 t)]) (fun _ => [hpC u1, .cells (bedC b), .dead, .cells [.int .i64 (l.getD m default).1, .int .i64 (l.getD m default).2], .cells (moC (b.months.getD m default))]) (fun t => ((l.getD m default).2 - t).toNat) (b.months.getD m default).tl ⟨Int.le_refl _, by omega⟩ rfl ⟨rfl, trivial⟩ ?_
        intro t ht
        have hl1 := hli t (by omega) (by omega)
        have hb1 := hlb t (by omega)
        have hf1 := hfs t ht.1
        generalize hg1 : grossR b.room (b.months.getD m default).g ((oth).getD m default) (l.getD m default).1 t = g1 at hl1 hb1 hf1
        conv => whnf
        repeat' first | ((with_reducible first | apply XBr.tt | apply XBr.ff | apply Chk.go | apply ChkA.go | apply ChkF.go | apply ChkB.go | apply XArr.pim0 | apply XArr.pim1); conv => whnf) | (with_reducible apply XBr.not) | ((with_reducible apply XBr.dec) <;> (intro h; first | (exfalso; omega) | ((try simp only [List.length_map] at h); first | (exfalso; omega) | (conv => whnf)))) | ((with_reducible first | apply XBr.beq | apply XBr.bne) <;> (intro h; first | (exfalso; omega) | (conv => whnf))) | ((with_reducible refine XInt.i64 (by omega) (by omega) ?_); conv => whnf) | ((with_reducible refine XHold.mk ?_ ?_); (first | omega | rfl | decide | exact ⟨rfl, by decide, rfl⟩ | exact wideI _ | exact widePr _ | exact wideSk _ | (unfold Room; constructor <;> ((try simp) <;> omega)) | exact ⟨rfl, by simp only [List.length_map], by unfold Room; constructor <;> ((try simp) <;> omega)⟩ | exact ⟨by omega, by omega, by unfold Room; constructor <;> ((try simp) <;> omega)⟩); conv => whnf) | ((first | ((with_reducible refine XIx.nat ?_ ?_ ?_); omega; (intro _; rfl)) | ((with_reducible refine XIx.map ?_ ?_ ?_ ?_); omega; omega; (intro _; rfl))); conv => whnf) | (with_reducible apply XAnd.mk) | (exact XSame.mk rfl rfl) | (exact XSame.mk (by first | rfl | (simp only [List.map_append, List.length_append, List.length_map]; done) | (simp only [List.map_append, List.length_append, List.length_map]; rfl)) (by first | rfl | (simp only [List.map_append]; done) | (simp only [List.map_append]; rfl))) | (with_reducible exact trivial) | ((first | (with_reducible refine xdrop_app (by rw [List.length_map]; omega) ?_) | (with_reducible refine XDrop.desk (by assumption) ?_) | (with_reducible first | refine XArr.ints (by omega) (by omega) (by omega) ?_ | refine XArr.intsA (by omega) (by omega) (by omega) ?_) | ((with_reducible first | refine XArr.nats ?_ ?_ ?_ | refine XArr.natsA ?_ ?_ ?_ | refine XArr.ptr ?_ ?_ ?_); omega; omega)); conv => whnf) | (apply Walk.drawN (id := 4) tab_ok mixed_ok [] [16] (hsC [_, _]) [_, _, _, _, _, _, _, _, _, _, _, _, _, _, _, _, _] (by kernel_rfl) rfl) | (apply Walk.drawN (id := 19) tab_ok mixed_ok [] [] (hsU _) [_, _, _, _, _, _, _, _, _, _, _, _, _, _, _, _, _, _, _, _, _, _, _, _, _, _, _, _, _, _, _, _, _, _, _, _, _, _, _, _, _, _, _, _, _, _, _, _, _] (by kernel_rfl) rfl) | (apply Walk.drawN (id := 24) tab_ok mixed_ok [] [] (hsU _) [_, _, _, _, _, _, _, _, _, _, _, _, _, _, _, _, _, _, _, _] (by kernel_rfl) rfl) | ((first | (with_reducible apply XNext.mk) | (refine XCall.ret hl1 ?_) | (refine XInt.i64 (show _ ≤ g1 - (b.months.getD m default).r by omega) (show g1 - (b.months.getD m default).r ≤ _ by omega) ?_)); conv => whnf) | ((with_reducible apply XBr.mk') <;> (intro h; conv => whnf))
        all_goals try (exfalso; omega)
        · exact XAgain.go (t + 1) ⟨by omega, by omega⟩ (by omega) rfl ⟨rfl, rfl, rfl, rfl, rfl, rfl, rfl, rfl, rfl, rfl, rfl, rfl, trivial⟩
        · exact XAgainG.go (m + 1) [.cells _, .cells _] (by omega) (by omega) rfl ⟨rfl, rfl, rfl, rfl, rfl, rfl, rfl, rfl, trivial⟩
      · obtain rfl : m = b.months.length := by omega
        repeat' first | ((with_reducible first | apply XBr.tt | apply XBr.ff | apply Chk.go | apply ChkA.go | apply ChkF.go | apply ChkB.go | apply XArr.pim0 | apply XArr.pim1); conv => whnf) | (with_reducible apply XBr.not) | ((with_reducible apply XBr.dec) <;> (intro h; first | (exfalso; omega) | ((try simp only [List.length_map] at h); first | (exfalso; omega) | (conv => whnf)))) | ((with_reducible first | apply XBr.beq | apply XBr.bne) <;> (intro h; first | (exfalso; omega) | (conv => whnf))) | ((with_reducible refine XInt.i64 (by omega) (by omega) ?_); conv => whnf) | ((with_reducible refine XHold.mk ?_ ?_); (first | omega | rfl | decide | exact ⟨rfl, by decide, rfl⟩ | exact wideI _ | exact widePr _ | exact wideSk _ | (unfold Room; constructor <;> ((try simp) <;> omega)) | exact ⟨rfl, by simp only [List.length_map], by unfold Room; constructor <;> ((try simp) <;> omega)⟩ | exact ⟨by omega, by omega, by unfold Room; constructor <;> ((try simp) <;> omega)⟩); conv => whnf) | ((first | ((with_reducible refine XIx.nat ?_ ?_ ?_); omega; (intro _; rfl)) | ((with_reducible refine XIx.map ?_ ?_ ?_ ?_); omega; omega; (intro _; rfl))); conv => whnf) | (with_reducible apply XAnd.mk) | (exact XSame.mk rfl rfl) | (exact XSame.mk (by first | rfl | (simp only [List.map_append, List.length_append, List.length_map]; done) | (simp only [List.map_append, List.length_append, List.length_map]; rfl)) (by first | rfl | (simp only [List.map_append]; done) | (simp only [List.map_append]; rfl))) | (with_reducible exact trivial) | ((first | (with_reducible refine xdrop_app (by rw [List.length_map]; omega) ?_) | (with_reducible refine XDrop.desk (by assumption) ?_) | (with_reducible first | refine XArr.ints (by omega) (by omega) (by omega) ?_ | refine XArr.intsA (by omega) (by omega) (by omega) ?_) | ((with_reducible first | refine XArr.nats ?_ ?_ ?_ | refine XArr.natsA ?_ ?_ ?_ | refine XArr.ptr ?_ ?_ ?_); omega; omega)); conv => whnf) | (apply Walk.drawN (id := 4) tab_ok mixed_ok [] [16] (hsC [_, _]) [_, _, _, _, _, _, _, _, _, _, _, _, _, _, _, _, _] (by kernel_rfl) rfl) | (apply Walk.drawN (id := 19) tab_ok mixed_ok [] [] (hsU _) [_, _, _, _, _, _, _, _, _, _, _, _, _, _, _, _, _, _, _, _, _, _, _, _, _, _, _, _, _, _, _, _, _, _, _, _, _, _, _, _, _, _, _, _, _, _, _, _, _] (by kernel_rfl) rfl) | (apply Walk.drawN (id := 24) tab_ok mixed_ok [] [] (hsU _) [_, _, _, _, _, _, _, _, _, _, _, _, _, _, _, _, _, _, _, _] (by kernel_rfl) rfl) | ((with_reducible apply XNext.mk); conv => whnf) | ((with_reducible apply XBr.mk') <;> (intro h; conv => whnf))
        exact XAgain.go (1 + 1) (by omega) (by omega) rfl ⟨rfl, rfl, rfl, rfl, trivial⟩
  · skip
    repeat' first | ((with_reducible first | apply XBr.tt | apply XBr.ff | apply Chk.go | apply ChkA.go | apply ChkF.go | apply ChkB.go | apply XArr.pim0 | apply XArr.pim1); conv => whnf) | (with_reducible apply XBr.not) | ((with_reducible apply XBr.dec) <;> (intro h; first | (exfalso; omega) | ((try simp only [List.length_map] at h); first | (exfalso; omega) | (conv => whnf)))) | ((with_reducible first | apply XBr.beq | apply XBr.bne) <;> (intro h; first | (exfalso; omega) | (conv => whnf))) | ((with_reducible refine XInt.i64 (by omega) (by omega) ?_); conv => whnf) | ((with_reducible refine XHold.mk ?_ ?_); (first | omega | rfl | decide | exact ⟨rfl, by decide, rfl⟩ | exact wideI _ | exact widePr _ | exact wideSk _ | (unfold Room; constructor <;> ((try simp) <;> omega)) | exact ⟨rfl, by simp only [List.length_map], by unfold Room; constructor <;> ((try simp) <;> omega)⟩ | exact ⟨by omega, by omega, by unfold Room; constructor <;> ((try simp) <;> omega)⟩); conv => whnf) | ((first | ((with_reducible refine XIx.nat ?_ ?_ ?_); omega; (intro _; rfl)) | ((with_reducible refine XIx.map ?_ ?_ ?_ ?_); omega; omega; (intro _; rfl))); conv => whnf) | (with_reducible apply XAnd.mk) | (exact XSame.mk rfl rfl) | (exact XSame.mk (by first | rfl | (simp only [List.map_append, List.length_append, List.length_map]; done) | (simp only [List.map_append, List.length_append, List.length_map]; rfl)) (by first | rfl | (simp only [List.map_append]; done) | (simp only [List.map_append]; rfl))) | (with_reducible exact trivial) | ((first | (with_reducible refine xdrop_app (by rw [List.length_map]; omega) ?_) | (with_reducible refine XDrop.desk (by assumption) ?_) | (with_reducible first | refine XArr.ints (by omega) (by omega) (by omega) ?_ | refine XArr.intsA (by omega) (by omega) (by omega) ?_) | ((with_reducible first | refine XArr.nats ?_ ?_ ?_ | refine XArr.natsA ?_ ?_ ?_ | refine XArr.ptr ?_ ?_ ?_); omega; omega)); conv => whnf) | (apply Walk.drawN (id := 4) tab_ok mixed_ok [] [16] (hsC [_, _]) [_, _, _, _, _, _, _, _, _, _, _, _, _, _, _, _, _] (by kernel_rfl) rfl) | (apply Walk.drawN (id := 19) tab_ok mixed_ok [] [] (hsU _) [_, _, _, _, _, _, _, _, _, _, _, _, _, _, _, _, _, _, _, _, _, _, _, _, _, _, _, _, _, _, _, _, _, _, _, _, _, _, _, _, _, _, _, _, _, _, _, _, _] (by kernel_rfl) rfl) | (apply Walk.drawN (id := 24) tab_ok mixed_ok [] [] (hsU _) [_, _, _, _, _, _, _, _, _, _, _, _, _, _, _, _, _, _, _, _] (by kernel_rfl) rfl) | ((first | (with_reducible apply XNext.mk) | (refine XCall.ret awake04_c ?_)); conv => whnf) | ((with_reducible apply XBr.mk') <;> (intro h; conv => whnf))
    exact ⟨.low rfl⟩
end GA
end
