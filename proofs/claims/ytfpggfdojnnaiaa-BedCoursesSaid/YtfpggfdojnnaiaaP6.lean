/- Part 6 of a proof: D34, D35, D16, D38, D39, D40. -/
import Derived.Test.YtfpggfdojnnaiaaP5
section
namespace GA
open Go Go.RowKit Go.Proofs
set_option pp.deepTerms true
set_option maxRecDepth 8000
set_option linter.unusedVariables false
set_option linter.unusedSimpArgs false

structure EI (c : Int) (G : Nat → Bool) (d : Prop) : Prop where
  lo : ∀ k : Nat, G k = true → c ≤ k
  dn : d → 0 ≤ c ∧ G c.toNat = true
theorem EI.put {c : Int} {G : Nat → Bool} {d d' : Prop} (h : EI c G d) {v : Nat} (hv : c ≤ v) (hd : d' → d ∨ (v : Int) = c) : EI c (updV G v true) d' := by
  refine ⟨fun k hk => ?_, fun x => ?_⟩
  · unfold updV at hk
    split at hk
    · rename_i e; subst e; exact hv
    · exact h.lo k hk
  · unfold updV
    rcases hd x with h1 | h1
    · obtain ⟨h2, h3⟩ := h.dn h1
      refine ⟨h2, ?_⟩
      split <;> first | rfl | exact h3
    · exact ⟨by omega, by rw [if_pos (by omega)]⟩
end GA
end

section
namespace GA
open Go Go.RowKit Go.Proofs
set_option pp.deepTerms true
set_option maxRecDepth 8000
set_option linter.unusedVariables false
set_option linter.unusedSimpArgs false

theorem dupC (nl : Bool) (xs : List Int) (hx : xs.length ≤ 100000) : Comp Try.prog 27 [.sl nl (ints xs)] (.sl false (ints xs)) := (dup_g nl xs hx).comp (Froz.grow rfl (ints_len _) (lowI _))
theorem great_iff {b : Bd} : great04 b = false ↔ b.months.length ≤ 14 ∧ b.surveys.length ≤ 12 := by
  unfold great04
  rw [Bool.or_eq_false_iff, decide_eq_false_iff_not, decide_eq_false_iff_not]; omega
def bzero : List AV := [.int .i64 0, .int .i64 0, .int .i64 0, .sl true [], .sl true []]
end GA
end

section
namespace GA
open Go Go.RowKit Go.Proofs
set_option pp.deepTerms true
set_option maxRecDepth 8000
set_option linter.unusedVariables false
set_option linter.unusedSimpArgs false

def fF {α : Type} (f : Nat → Option α) (c : Nat) (hi : Int) : Option α := (lvF c hi).findSome? f
theorem fF_some {α : Type} {f : Nat → Option α} {c : Nat} {hi : Int} {v : α} (h : (c : Int) ≤ hi) (hv : f c = some v) : fF f c hi = some v := by
  unfold fF; rw [lvF_cons h, List.findSome?_cons, hv]
theorem fF_none {α : Type} {f : Nat → Option α} {c : Nat} {hi : Int} (h : (c : Int) ≤ hi) (hv : f c = none) : fF f c hi = fF f (c + 1) hi := by
  unfold fF; rw [lvF_cons h, List.findSome?_cons, hv]
theorem fF_end {α : Type} {f : Nat → Option α} {c : Nat} {hi : Int} (h : hi < c) : fF f c hi = none := by
  unfold fF; rw [lvF_nil h]; rfl
def hitB (b : Bd) (m : Nat) (a k : Int) (sp st : Nat) : Bool := grossR b.room (moB b m).g a sp st - (moB b m).r == k
def stS (b : Bd) (m : Nat) (a k : Int) (sp st : Nat) : Option (Int × Int) := if hitB b m a k sp st = true then some ((sp : Int), (st : Int)) else none
def spS (b : Bd) (m : Nat) (a k : Int) (sp : Nat) : Option (Int × Int) := fF (stS b m a k sp) (moB b m).tl.toNat (moB b m).th
def fstC (b : Bd) (m : Nat) (a k : Int) : Option (Int × Int) := fF (spS b m a k) (moB b m).pl.toNat (moB b m).ph
def chK (b : Bd) (c : List Int) : Nat → Option (List (Int × Int))
  | 0 => some []
  | k + 1 => match chK b c k with
    | none => none
    | some l => match fstC b k (c.getD k default) (c.getD (k + 1) default) with
      | none => none
      | some x => some (l ++ [x])
theorem chK_none {b : Bd} {c : List Int} {k : Nat} (h : chK b c k = none) : ∀ d, chK b c (k + d) = none
  | 0 => h
  | d + 1 => by show chK b c (k + d + 1) = none; rw [chK, chK_none h d]
theorem chK_len {b : Bd} {c : List Int} : ∀ {k : Nat} {l : List (Int × Int)}, chK b c k = some l → l.length = k
  | 0, l, h => by rw [chK] at h; cases h; rfl
  | k + 1, l, h => by
    rw [chK] at h
    cases h1 : chK b c k with
    | none => rw [h1] at h; cases h
    | some l1 =>
      rw [h1] at h; dsimp only at h
      cases h2 : fstC b k (c.getD k default) (c.getD (k + 1) default) with
      | none => rw [h2] at h; cases h
      | some n => rw [h2] at h; cases h; rw [List.length_append, chK_len h1]; rfl
def chR (b : Bd) (c : List Int) : Option (List (Int × Int)) := if inZ (c.getD 0 default) (b.first - b.unsure) (b.first + b.unsure) = true then chK b c b.months.length else none
def chA' (o : Option (List (Int × Int))) : AV := match o with | none => .tup [.sl true [], .bool false] | some l => .tup [.sl l.isEmpty (chsA l), .bool true]
set_option maxHeartbeats 2000000 in
theorem chances_c (b : Bd) (ok : BedOk b) (nl : Bool) (c : List Int) (hl : c.length = b.months.length + 1) (hc : ∀ x ∈ c, 0 ≤ x ∧ x ≤ b.room) : Comp Try.prog 130 [dskA b, .sl nl (ints c)] (chA' (chR b c)) := by
  have m1 := ok.m1
  have m2 := ok.m2
  have r1 := ok.r1
  have r2 := ok.r2
  have f1 := ok.f1
  have f2 := ok.f2
  have u1 := ok.u1
  have u2 := ok.u2
  have e1 : ((b.months.map moA).length : Int) = b.months.length := by rw [List.length_map]
  have e2 : ((ints c).length : Int) = b.months.length + 1 := by rw [ints_len]; omega
  have hin := bedIn_c (c.getD 0 default) (b.first - b.unsure) (b.first + b.unsure)
  have hcv : ∀ m, m ≤ b.months.length → 0 ≤ c.getD m default ∧ c.getD m default ≤ b.room := fun m hm => hc _ (getD_mem (by omega))
  unfold chR
  cases hi : inZ (c.getD 0 default) (b.first - b.unsure) (b.first + b.unsure)
  · rw [hi] at hin
    rw [if_neg (by simp)]
    refine Comp.body (T := tab) (res := [.tmp 4, .tmp 5]) tab_ok [] Try.func130 rfl (by kernel_rfl) Try.ntmps130 rfl (by simp only [List.length_cons, List.length_nil]; decide) (by simp only [lowL, dskL, AV.low, lowI]; rfl) ?_; conv => whnf
    repeat' first | ((with_reducible first | apply XBr.tt | apply XBr.ff | apply Chk.go | apply ChkA.go | apply ChkF.go | apply ChkB.go | apply XArr.pim0 | apply XArr.pim1); conv => whnf) | (with_reducible apply XBr.not) | ((with_reducible apply XBr.dec) <;> (intro h; first | (exfalso; omega) | ((try simp only [List.length_map] at h); first | (exfalso; omega) | (conv => whnf)))) | ((with_reducible first | apply XBr.beq | apply XBr.bne) <;> (intro h; first | (exfalso; omega) | (conv => whnf))) | ((with_reducible refine XInt.i64 (by omega) (by omega) ?_); conv => whnf) | ((with_reducible refine XHold.mk ?_ ?_); (first | omega | rfl | decide | exact ⟨rfl, by decide, rfl⟩ | exact wideI _ | exact widePr _ | exact wideSk _ | (unfold Room; constructor <;> ((try simp) <;> omega)) | exact ⟨rfl, by simp only [List.length_map], by unfold Room; constructor <;> ((try simp) <;> omega)⟩ | exact ⟨by omega, by omega, by unfold Room; constructor <;> ((try simp) <;> omega)⟩); conv => whnf) | ((first | ((with_reducible refine XIx.nat ?_ ?_ ?_); omega; (intro _; rfl)) | ((with_reducible refine XIx.map ?_ ?_ ?_ ?_); omega; omega; (intro _; rfl))); conv => whnf) | (with_reducible apply XAnd.mk) | (exact XSame.mk rfl rfl) | (exact XSame.mk (by first | rfl | (simp only [List.map_append, List.length_append, List.length_map]; done) | (simp only [List.map_append, List.length_append, List.length_map]; rfl)) (by first | rfl | (simp only [List.map_append]; done) | (simp only [List.map_append]; rfl))) | (with_reducible exact trivial) | ((first | (with_reducible refine xdrop_app (by rw [List.length_map]; omega) ?_) | (with_reducible refine XDrop.desk (by assumption) ?_) | (with_reducible first | refine XArr.ints (by omega) (by omega) (by omega) ?_ | refine XArr.intsA (by omega) (by omega) (by omega) ?_) | ((with_reducible first | refine XArr.nats ?_ ?_ ?_ | refine XArr.natsA ?_ ?_ ?_ | refine XArr.ptr ?_ ?_ ?_); omega; omega)); conv => whnf) | (apply Walk.drawN (id := 1) tab_ok mixed_ok [] [] (hsU _) [_, _, _, _, _, _, _, _, _, _, _, _, _, _, _, _, _, _, _, _, _, _, _, _, _, _, _] (by kernel_rfl) rfl) | (apply Walk.drawN (id := 15) tab_ok mixed_ok [] [] (hsU _) [_, _, _, _, _, _, _, _, _, _, _, _, _, _, _, _, _, _, _, _, _, _] (by kernel_rfl) rfl) | ((first | (with_reducible apply XNext.mk) | (refine XCall.ret hin ?_)); conv => whnf) | ((with_reducible apply XBr.mk') <;> (intro h; conv => whnf))
    exact ⟨.low rfl⟩
  · rw [hi] at hin
    rw [if_pos rfl]
    refine Comp.body (T := tab) (res := [.tmp 4, .tmp 5]) tab_ok [] Try.func130 rfl (by kernel_rfl) Try.ntmps130 rfl (by simp only [List.length_cons, List.length_nil]; decide) (by simp only [lowL, dskL, AV.low, lowI]; rfl) ?_; conv => whnf
    repeat' first | ((with_reducible first | apply XBr.tt | apply XBr.ff | apply Chk.go | apply ChkA.go | apply ChkF.go | apply ChkB.go | apply XArr.pim0 | apply XArr.pim1); conv => whnf) | (with_reducible apply XBr.not) | ((with_reducible apply XBr.dec) <;> (intro h; first | (exfalso; omega) | ((try simp only [List.length_map] at h); first | (exfalso; omega) | (conv => whnf)))) | ((with_reducible first | apply XBr.beq | apply XBr.bne) <;> (intro h; first | (exfalso; omega) | (conv => whnf))) | ((with_reducible refine XInt.i64 (by omega) (by omega) ?_); conv => whnf) | ((with_reducible refine XHold.mk ?_ ?_); (first | omega | rfl | decide | exact ⟨rfl, by decide, rfl⟩ | exact wideI _ | exact widePr _ | exact wideSk _ | (unfold Room; constructor <;> ((try simp) <;> omega)) | exact ⟨rfl, by simp only [List.length_map], by unfold Room; constructor <;> ((try simp) <;> omega)⟩ | exact ⟨by omega, by omega, by unfold Room; constructor <;> ((try simp) <;> omega)⟩); conv => whnf) | ((first | ((with_reducible refine XIx.nat ?_ ?_ ?_); omega; (intro _; rfl)) | ((with_reducible refine XIx.map ?_ ?_ ?_ ?_); omega; omega; (intro _; rfl))); conv => whnf) | (with_reducible apply XAnd.mk) | (exact XSame.mk rfl rfl) | (exact XSame.mk (by first | rfl | (simp only [List.map_append, List.length_append, List.length_map]; done) | (simp only [List.map_append, List.length_append, List.length_map]; rfl)) (by first | rfl | (simp only [List.map_append]; done) | (simp only [List.map_append]; rfl))) | (with_reducible exact trivial) | ((first | (with_reducible refine xdrop_app (by rw [List.length_map]; omega) ?_) | (with_reducible refine XDrop.desk (by assumption) ?_) | (with_reducible first | refine XArr.ints (by omega) (by omega) (by omega) ?_ | refine XArr.intsA (by omega) (by omega) (by omega) ?_) | ((with_reducible first | refine XArr.nats ?_ ?_ ?_ | refine XArr.natsA ?_ ?_ ?_ | refine XArr.ptr ?_ ?_ ?_); omega; omega)); conv => whnf) | (apply Walk.drawN (id := 1) tab_ok mixed_ok [] [] (hsU _) [_, _, _, _, _, _, _, _, _, _, _, _, _, _, _, _, _, _, _, _, _, _, _, _, _, _, _] (by kernel_rfl) rfl) | (apply Walk.drawN (id := 15) tab_ok mixed_ok [] [] (hsU _) [_, _, _, _, _, _, _, _, _, _, _, _, _, _, _, _, _, _, _, _, _, _] (by kernel_rfl) rfl) | ((first | (with_reducible apply XNext.mk) | (refine XCall.ret hin ?_)); conv => whnf) | ((with_reducible apply XBr.mk') <;> (intro h; conv => whnf))
    refine Walk.nilgr 6 56 rfl ?_
    refine Walk.loopGK tab_ok [] [(0, _), (1, _), (4, _), (5, _), (44, _), (45, _)] ⟨rfl, rfl, rfl, rfl, rfl, rfl, trivial⟩ (fun q : Nat × List (Int × Int) => q.1 ≤ b.months.length ∧ chK b c q.1 = some q.2) (fun q => [(6, .gr 0 q.2.length), (46, natA q.1)]) (fun q => [.grow 56 q.2.isEmpty (chsA q.2)]) (fun q => b.months.length - q.1) (0, []) ⟨Nat.zero_le _, rfl⟩ rfl ⟨rfl, rfl, trivial⟩ ?_ (fun _ _ => (show (1 : Nat) ≤ 1 from Nat.le_refl 1)) ?_
    · intro q _
      refine ⟨fun z hz => ?_, fun z hz => ?_⟩
      · rw [List.mem_singleton] at hz; subst hz; exact chs_low _
      · simp only [List.cons_append, List.nil_append, List.mem_cons, List.not_mem_nil, or_false] at hz
        rcases hz with rfl | rfl | rfl | rfl | rfl | rfl | rfl | rfl <;> first | rfl | exact dskL b | exact lowI _ | exact lowMo _
    rintro ⟨m, l⟩ ⟨hm, hk⟩
    dsimp only at hm hk ⊢
    have hlen := chK_len hk
    have hcl : (chsA l).length = l.length := List.length_map _
    conv => whnf
    by_cases hmM : m < b.months.length
    · have hmo := ok.mo' hmM
      have hcm := hcv m (by omega)
      have hcm2 := hcv (m + 1) (by omega)
      have hnx : chK b c (m + 1) = match fstC b m (c.getD m default) (c.getD (m + 1) default) with | none => none | some x => some (l ++ [x]) := by rw [chK, hk]
      have hno : chK b c (m + 1) = none → chK b c b.months.length = none := fun h => by
        have := chK_none h (b.months.length - (m + 1))
        rwa [show m + 1 + (b.months.length - (m + 1)) = b.months.length by omega] at this
      repeat' first | ((with_reducible first | apply XBr.tt | apply XBr.ff | apply Chk.go | apply ChkA.go | apply ChkF.go | apply ChkB.go | apply XArr.pim0 | apply XArr.pim1); conv => whnf) | (with_reducible apply XBr.not) | ((with_reducible apply XBr.dec) <;> (intro h; first | (exfalso; omega) | ((try simp only [List.length_map] at h); first | (exfalso; omega) | (conv => whnf)))) | ((with_reducible first | apply XBr.beq | apply XBr.bne) <;> (intro h; first | (exfalso; omega) | (conv => whnf))) | ((with_reducible refine XInt.i64 (by omega) (by omega) ?_); conv => whnf) | ((with_reducible refine XHold.mk ?_ ?_); (first | omega | rfl | decide | exact ⟨rfl, by decide, rfl⟩ | exact wideI _ | exact widePr _ | exact wideSk _ | (unfold Room; constructor <;> ((try simp) <;> omega)) | exact ⟨rfl, by simp only [List.length_map], by unfold Room; constructor <;> ((try simp) <;> omega)⟩ | exact ⟨by omega, by omega, by unfold Room; constructor <;> ((try simp) <;> omega)⟩); conv => whnf) | ((first | ((with_reducible refine XIx.nat ?_ ?_ ?_); omega; (intro _; rfl)) | ((with_reducible refine XIx.map ?_ ?_ ?_ ?_); omega; omega; (intro _; rfl))); conv => whnf) | (with_reducible apply XAnd.mk) | (exact XSame.mk rfl rfl) | (exact XSame.mk (by first | rfl | (simp only [List.map_append, List.length_append, List.length_map]; done) | (simp only [List.map_append, List.length_append, List.length_map]; rfl)) (by first | rfl | (simp only [List.map_append]; done) | (simp only [List.map_append]; rfl))) | (with_reducible exact trivial) | ((first | (with_reducible refine xdrop_app (by rw [List.length_map]; omega) ?_) | (with_reducible refine XDrop.desk (by assumption) ?_) | (with_reducible first | refine XArr.ints (by omega) (by omega) (by omega) ?_ | refine XArr.intsA (by omega) (by omega) (by omega) ?_) | ((with_reducible first | refine XArr.nats ?_ ?_ ?_ | refine XArr.natsA ?_ ?_ ?_ | refine XArr.ptr ?_ ?_ ?_); omega; omega)); conv => whnf) | (apply Walk.drawN (id := 1) tab_ok mixed_ok [] [] (hsU _) [_, _, _, _, _, _, _, _, _, _, _, _, _, _, _, _, _, _, _, _, _, _, _, _, _, _, _] (by kernel_rfl) rfl) | (apply Walk.drawN (id := 15) tab_ok mixed_ok [] [] (hsU _) [_, _, _, _, _, _, _, _, _, _, _, _, _, _, _, _, _, _, _, _, _, _] (by kernel_rfl) rfl) | ((with_reducible apply XNext.mk); conv => whnf) | ((with_reducible apply XBr.mk') <;> (intro h; conv => whnf))
      refine Walk.scope tab_ok [] ?_
      conv => whnf
      repeat' first | ((with_reducible first | apply XBr.tt | apply XBr.ff | apply Chk.go | apply ChkA.go | apply ChkF.go | apply ChkB.go | apply XArr.pim0 | apply XArr.pim1); conv => whnf) | (with_reducible apply XBr.not) | ((with_reducible apply XBr.dec) <;> (intro h; first | (exfalso; omega) | ((try simp only [List.length_map] at h); first | (exfalso; omega) | (conv => whnf)))) | ((with_reducible first | apply XBr.beq | apply XBr.bne) <;> (intro h; first | (exfalso; omega) | (conv => whnf))) | ((with_reducible refine XInt.i64 (by omega) (by omega) ?_); conv => whnf) | ((with_reducible refine XHold.mk ?_ ?_); (first | omega | rfl | decide | exact ⟨rfl, by decide, rfl⟩ | exact wideI _ | exact widePr _ | exact wideSk _ | (unfold Room; constructor <;> ((try simp) <;> omega)) | exact ⟨rfl, by simp only [List.length_map], by unfold Room; constructor <;> ((try simp) <;> omega)⟩ | exact ⟨by omega, by omega, by unfold Room; constructor <;> ((try simp) <;> omega)⟩); conv => whnf) | ((first | ((with_reducible refine XIx.nat ?_ ?_ ?_); omega; (intro _; rfl)) | ((with_reducible refine XIx.map ?_ ?_ ?_ ?_); omega; omega; (intro _; rfl))); conv => whnf) | (with_reducible apply XAnd.mk) | (exact XSame.mk rfl rfl) | (exact XSame.mk (by first | rfl | (simp only [List.map_append, List.length_append, List.length_map]; done) | (simp only [List.map_append, List.length_append, List.length_map]; rfl)) (by first | rfl | (simp only [List.map_append]; done) | (simp only [List.map_append]; rfl))) | (with_reducible exact trivial) | ((first | (with_reducible refine xdrop_app (by rw [List.length_map]; omega) ?_) | (with_reducible refine XDrop.desk (by assumption) ?_) | (with_reducible first | refine XArr.ints (by omega) (by omega) (by omega) ?_ | refine XArr.intsA (by omega) (by omega) (by omega) ?_) | ((with_reducible first | refine XArr.nats ?_ ?_ ?_ | refine XArr.natsA ?_ ?_ ?_ | refine XArr.ptr ?_ ?_ ?_); omega; omega)); conv => whnf) | (apply Walk.drawN (id := 1) tab_ok mixed_ok [] [] (hsU _) [_, _, _, _, _, _, _, _, _, _, _, _, _, _, _, _, _, _, _, _, _, _, _, _, _, _, _] (by kernel_rfl) rfl) | (apply Walk.drawN (id := 15) tab_ok mixed_ok [] [] (hsU _) [_, _, _, _, _, _, _, _, _, _, _, _, _, _, _, _, _, _, _, _, _, _] (by kernel_rfl) rfl) | ((with_reducible apply XNext.mk); conv => whnf) | ((with_reducible apply XBr.mk') <;> (intro h; conv => whnf))
      refine Walk.label ?_
      conv => whnf
      repeat' first | ((with_reducible first | apply XBr.tt | apply XBr.ff | apply Chk.go | apply ChkA.go | apply ChkF.go | apply ChkB.go | apply XArr.pim0 | apply XArr.pim1); conv => whnf) | (with_reducible apply XBr.not) | ((with_reducible apply XBr.dec) <;> (intro h; first | (exfalso; omega) | ((try simp only [List.length_map] at h); first | (exfalso; omega) | (conv => whnf)))) | ((with_reducible first | apply XBr.beq | apply XBr.bne) <;> (intro h; first | (exfalso; omega) | (conv => whnf))) | ((with_reducible refine XInt.i64 (by omega) (by omega) ?_); conv => whnf) | ((with_reducible refine XHold.mk ?_ ?_); (first | omega | rfl | decide | exact ⟨rfl, by decide, rfl⟩ | exact wideI _ | exact widePr _ | exact wideSk _ | (unfold Room; constructor <;> ((try simp) <;> omega)) | exact ⟨rfl, by simp only [List.length_map], by unfold Room; constructor <;> ((try simp) <;> omega)⟩ | exact ⟨by omega, by omega, by unfold Room; constructor <;> ((try simp) <;> omega)⟩); conv => whnf) | ((first | ((with_reducible refine XIx.nat ?_ ?_ ?_); omega; (intro _; rfl)) | ((with_reducible refine XIx.map ?_ ?_ ?_ ?_); omega; omega; (intro _; rfl))); conv => whnf) | (with_reducible apply XAnd.mk) | (exact XSame.mk rfl rfl) | (exact XSame.mk (by first | rfl | (simp only [List.map_append, List.length_append, List.length_map]; done) | (simp only [List.map_append, List.length_append, List.length_map]; rfl)) (by first | rfl | (simp only [List.map_append]; done) | (simp only [List.map_append]; rfl))) | (with_reducible exact trivial) | ((first | (with_reducible refine xdrop_app (by rw [List.length_map]; omega) ?_) | (with_reducible refine XDrop.desk (by assumption) ?_) | (with_reducible first | refine XArr.ints (by omega) (by omega) (by omega) ?_ | refine XArr.intsA (by omega) (by omega) (by omega) ?_) | ((with_reducible first | refine XArr.nats ?_ ?_ ?_ | refine XArr.natsA ?_ ?_ ?_ | refine XArr.ptr ?_ ?_ ?_); omega; omega)); conv => whnf) | (apply Walk.drawN (id := 1) tab_ok mixed_ok [] [] (hsU _) [_, _, _, _, _, _, _, _, _, _, _, _, _, _, _, _, _, _, _, _, _, _, _, _, _, _, _] (by kernel_rfl) rfl) | (apply Walk.drawN (id := 15) tab_ok mixed_ok [] [] (hsU _) [_, _, _, _, _, _, _, _, _, _, _, _, _, _, _, _, _, _, _, _, _, _] (by kernel_rfl) rfl) | ((with_reducible apply XNext.mk); conv => whnf) | ((with_reducible apply XBr.mk') <;> (intro h; conv => whnf))
      have hms : ((m : Int) + 1).toNat = m + 1 := by omega
      refine Walk.loopK tab_ok [] [(0, _), (1, _), (4, _), (5, _), (6, _), (7, _), (8, _), (9, _), (10, _), (44, _), (45, _), (46, _)] ⟨rfl, rfl, rfl, rfl, rfl, rfl, rfl, rfl, rfl, rfl, rfl, rfl, trivial⟩ (fun sp : Nat => (moB b m).pl ≤ sp ∧ (sp : Int) ≤ (moB b m).ph + 1 ∧ fF (spS b m (c.getD m default) (c.getD (m + 1) default)) sp (moB b m).ph = fstC b m (c.getD m default) (c.getD (m + 1) default)) (fun sp => [(11, natA sp)]) (fun _ => [.grow 56 l.isEmpty (chsA l), .cells (moC (moB b m)), .cells [.int .i64 (-1), .int .i64 (-1)], .cells [.int .i64 (-1), .int .i64 (-1)]]) (fun sp => ((moB b m).ph + 1).toNat - sp) (moB b m).pl.toNat ⟨by omega, by omega, rfl⟩ rfl ⟨congrArg (fun z => some (AV.int .i64 z)) (show (moB b m).pl = (((moB b m).pl.toNat : Nat) : Int) by omega), trivial⟩ ?_
      rintro sp ⟨hs1, hs2, hsf⟩
      conv => whnf
      by_cases hsp : (sp : Int) ≤ (moB b m).ph
      · have hsp' : (sp : Int) ≤ (b.months.getD m default).ph := hsp
        repeat' first | ((with_reducible first | apply XBr.tt | apply XBr.ff | apply Chk.go | apply ChkA.go | apply ChkF.go | apply ChkB.go | apply XArr.pim0 | apply XArr.pim1); conv => whnf) | (with_reducible apply XBr.not) | ((with_reducible apply XBr.dec) <;> (intro h; first | (exfalso; omega) | ((try simp only [List.length_map] at h); first | (exfalso; omega) | (conv => whnf)))) | ((with_reducible first | apply XBr.beq | apply XBr.bne) <;> (intro h; first | (exfalso; omega) | (conv => whnf))) | ((with_reducible refine XInt.i64 (by omega) (by omega) ?_); conv => whnf) | ((with_reducible refine XHold.mk ?_ ?_); (first | omega | rfl | decide | exact ⟨rfl, by decide, rfl⟩ | exact wideI _ | exact widePr _ | exact wideSk _ | (unfold Room; constructor <;> ((try simp) <;> omega)) | exact ⟨rfl, by simp only [List.length_map], by unfold Room; constructor <;> ((try simp) <;> omega)⟩ | exact ⟨by omega, by omega, by unfold Room; constructor <;> ((try simp) <;> omega)⟩); conv => whnf) | ((first | ((with_reducible refine XIx.nat ?_ ?_ ?_); omega; (intro _; rfl)) | ((with_reducible refine XIx.map ?_ ?_ ?_ ?_); omega; omega; (intro _; rfl))); conv => whnf) | (with_reducible apply XAnd.mk) | (exact XSame.mk rfl rfl) | (exact XSame.mk (by first | rfl | (simp only [List.map_append, List.length_append, List.length_map]; done) | (simp only [List.map_append, List.length_append, List.length_map]; rfl)) (by first | rfl | (simp only [List.map_append]; done) | (simp only [List.map_append]; rfl))) | (with_reducible exact trivial) | ((first | (with_reducible refine xdrop_app (by rw [List.length_map]; omega) ?_) | (with_reducible refine XDrop.desk (by assumption) ?_) | (with_reducible first | refine XArr.ints (by omega) (by omega) (by omega) ?_ | refine XArr.intsA (by omega) (by omega) (by omega) ?_) | ((with_reducible first | refine XArr.nats ?_ ?_ ?_ | refine XArr.natsA ?_ ?_ ?_ | refine XArr.ptr ?_ ?_ ?_); omega; omega)); conv => whnf) | (apply Walk.drawN (id := 1) tab_ok mixed_ok [] [] (hsU _) [_, _, _, _, _, _, _, _, _, _, _, _, _, _, _, _, _, _, _, _, _, _, _, _, _, _, _] (by kernel_rfl) rfl) | (apply Walk.drawN (id := 15) tab_ok mixed_ok [] [] (hsU _) [_, _, _, _, _, _, _, _, _, _, _, _, _, _, _, _, _, _, _, _, _, _] (by kernel_rfl) rfl) | ((with_reducible apply XNext.mk); conv => whnf) | ((with_reducible apply XBr.mk') <;> (intro h; conv => whnf))
        refine Walk.loopK tab_ok [] [(0, _), (1, _), (4, _), (5, _), (6, _), (7, _), (8, _), (9, _), (10, _), (11, _), (44, _), (45, _), (46, _)] ⟨rfl, rfl, rfl, rfl, rfl, rfl, rfl, rfl, rfl, rfl, rfl, rfl, rfl, trivial⟩ (fun st : Nat => (moB b m).tl ≤ st ∧ (st : Int) ≤ (moB b m).th + 1 ∧ fF (stS b m (c.getD m default) (c.getD (m + 1) default) sp) st (moB b m).th = spS b m (c.getD m default) (c.getD (m + 1) default) sp) (fun st => [(12, natA st)]) (fun _ => [.grow 56 l.isEmpty (chsA l), .cells (moC (moB b m)), .cells [.int .i64 (-1), .int .i64 (-1)], .cells [.int .i64 (-1), .int .i64 (-1)]]) (fun st => ((moB b m).th + 1).toNat - st) (moB b m).tl.toNat ⟨by omega, by omega, rfl⟩ rfl ⟨congrArg (fun z => some (AV.int .i64 z)) (show (moB b m).tl = (((moB b m).tl.toNat : Nat) : Int) by omega), trivial⟩ ?_
        rintro st ⟨ht1, ht2, htf⟩
        conv => whnf
        by_cases hst : (st : Int) ≤ (moB b m).th
        · have hst' : (st : Int) ≤ (b.months.getD m default).th := hst
          have hgc := gross_c b m (c.getD m default) sp st hmM hcm.1 (by omega) hmo.1 hmo.2.1 (by omega) (by omega) (by omega) (by omega) (by omega) (by omega)
          change Comp Try.prog _ _ (.int .i64 (grossR b.room (moB b m).g (c.getD m default) sp st)) at hgc
          have hgb := grossR_le (room := b.room) (g := (moB b m).g) (a := c.getD m default) (sp := sp) (st := st) (by omega) (by omega)
          have hhit : stS b m (c.getD m default) (c.getD (m + 1) default) sp st = if grossR b.room (moB b m).g (c.getD m default) sp st - (moB b m).r = c.getD (m + 1) default then some ((sp : Int), (st : Int)) else none := by
            unfold stS hitB
            by_cases h : grossR b.room (moB b m).g (c.getD m default) sp st - (moB b m).r = c.getD (m + 1) default
            · rw [if_pos h, if_pos (by rw [h]; exact beq_self_eq_true _)]
            · rw [if_neg h, if_neg (by rw [beq_eq_false_iff_ne.2 h]; simp)]
          generalize grossR b.room (moB b m).g (c.getD m default) sp st = gz at hgc hgb hhit
          repeat' first | ((with_reducible first | apply XBr.tt | apply XBr.ff | apply Chk.go | apply ChkA.go | apply ChkF.go | apply ChkB.go | apply XArr.pim0 | apply XArr.pim1); conv => whnf) | (with_reducible apply XBr.not) | ((with_reducible apply XBr.dec) <;> (intro h; first | (exfalso; omega) | ((try simp only [List.length_map] at h); first | (exfalso; omega) | (conv => whnf)))) | ((with_reducible first | apply XBr.beq | apply XBr.bne) <;> (intro h; first | (exfalso; omega) | (conv => whnf))) | ((with_reducible refine XInt.i64 (by omega) (by omega) ?_); conv => whnf) | ((with_reducible refine XHold.mk ?_ ?_); (first | omega | rfl | decide | exact ⟨rfl, by decide, rfl⟩ | exact wideI _ | exact widePr _ | exact wideSk _ | (unfold Room; constructor <;> ((try simp) <;> omega)) | exact ⟨rfl, by simp only [List.length_map], by unfold Room; constructor <;> ((try simp) <;> omega)⟩ | exact ⟨by omega, by omega, by unfold Room; constructor <;> ((try simp) <;> omega)⟩); conv => whnf) | ((first | ((with_reducible refine XIx.nat ?_ ?_ ?_); omega; (intro _; rfl)) | ((with_reducible refine XIx.map ?_ ?_ ?_ ?_); omega; omega; (intro _; rfl))); conv => whnf) | (with_reducible apply XAnd.mk) | (exact XSame.mk rfl rfl) | (exact XSame.mk (by first | rfl | (simp only [List.map_append, List.length_append, List.length_map]; done) | (simp only [List.map_append, List.length_append, List.length_map]; rfl)) (by first | rfl | (simp only [List.map_append]; done) | (simp only [List.map_append]; rfl))) | (with_reducible exact trivial) | ((first | (with_reducible refine xdrop_app (by rw [List.length_map]; omega) ?_) | (with_reducible refine XDrop.desk (by assumption) ?_) | (with_reducible first | refine XArr.ints (by omega) (by omega) (by omega) ?_ | refine XArr.intsA (by omega) (by omega) (by omega) ?_) | ((with_reducible first | refine XArr.nats ?_ ?_ ?_ | refine XArr.natsA ?_ ?_ ?_ | refine XArr.ptr ?_ ?_ ?_); omega; omega)); conv => whnf) | (apply Walk.drawN (id := 1) tab_ok mixed_ok [] [] (hsU _) [_, _, _, _, _, _, _, _, _, _, _, _, _, _, _, _, _, _, _, _, _, _, _, _, _, _, _] (by kernel_rfl) rfl) | (apply Walk.drawN (id := 15) tab_ok mixed_ok [] [] (hsU _) [_, _, _, _, _, _, _, _, _, _, _, _, _, _, _, _, _, _, _, _, _, _] (by kernel_rfl) rfl) | ((first | (with_reducible apply XNext.mk) | (refine XCall.ret hgc ?_) | (refine XInt.i64 (show _ ≤ gz - (moB b m).r by omega) (show gz - (moB b m).r ≤ _ by omega) ?_) | (refine XEqA.mk ⟨[(sp : Int), (st : Int)], [-1, -1], rfl, rfl, rfl, rfl, ?_⟩)); conv => whnf) | ((refine XHold.mk ⟨rfl, hcl, by unfold Room; constructor <;> (simp only [List.length_cons, List.length_nil]; omega)⟩ ?_); conv => whnf) | ((with_reducible apply XBr.mk') <;> (intro h; conv => whnf))
          · exfalso
            have h' : [(sp : Int), (st : Int)] = [-1, -1] := by simp at h
            injection h' with h1 h2; omega
          · rename_i hh
            rw [hms] at hh
            rw [if_pos hh] at hhit
            have hsp2 : spS b m (c.getD m default) (c.getD (m + 1) default) sp = some ((sp : Int), (st : Int)) := by rw [← htf]; exact fF_some hst hhit
            have hfs : fstC b m (c.getD m default) (c.getD (m + 1) default) = some ((sp : Int), (st : Int)) := by rw [← hsf]; exact fF_some hsp hsp2
            rw [hfs] at hnx
            refine XAgainG.go (m + 1, l ++ [((sp : Int), (st : Int))]) [.cells (moC (moB b m)), .cells [.int .i64 (-1), .int .i64 (-1)], .cells [natA sp, natA st]] ⟨by dsimp only; omega, hnx⟩ (by dsimp only; omega) ?_ ⟨rfl, rfl, rfl, rfl, rfl, rfl, ?_, rfl, trivial⟩
            · show [Blk.grow _ (l ++ [_]).isEmpty ((l ++ [_]).map prA)] ++ _ = _
              rw [isEmpty_app, List.map_append]; rfl
            · show some (AV.gr 0 (l.length + 1)) = _
              rw [List.length_append]; rfl
          · have hh := h
            rw [hms] at hh
            rw [if_neg hh] at hhit
            exact XAgain.go (st + 1) ⟨by omega, by omega, by rw [← htf]; exact (fF_none hst hhit).symm⟩ (by omega) rfl ⟨rfl, rfl, rfl, rfl, rfl, rfl, rfl, rfl, rfl, rfl, rfl, rfl, rfl, rfl, trivial⟩
        · have hst' : ¬ (st : Int) ≤ (b.months.getD m default).th := hst
          repeat' first | ((with_reducible first | apply XBr.tt | apply XBr.ff | apply Chk.go | apply ChkA.go | apply ChkF.go | apply ChkB.go | apply XArr.pim0 | apply XArr.pim1); conv => whnf) | (with_reducible apply XBr.not) | ((with_reducible apply XBr.dec) <;> (intro h; first | (exfalso; omega) | ((try simp only [List.length_map] at h); first | (exfalso; omega) | (conv => whnf)))) | ((with_reducible first | apply XBr.beq | apply XBr.bne) <;> (intro h; first | (exfalso; omega) | (conv => whnf))) | ((with_reducible refine XInt.i64 (by omega) (by omega) ?_); conv => whnf) | ((with_reducible refine XHold.mk ?_ ?_); (first | omega | rfl | decide | exact ⟨rfl, by decide, rfl⟩ | exact wideI _ | exact widePr _ | exact wideSk _ | (unfold Room; constructor <;> ((try simp) <;> omega)) | exact ⟨rfl, by simp only [List.length_map], by unfold Room; constructor <;> ((try simp) <;> omega)⟩ | exact ⟨by omega, by omega, by unfold Room; constructor <;> ((try simp) <;> omega)⟩); conv => whnf) | ((first | ((with_reducible refine XIx.nat ?_ ?_ ?_); omega; (intro _; rfl)) | ((with_reducible refine XIx.map ?_ ?_ ?_ ?_); omega; omega; (intro _; rfl))); conv => whnf) | (with_reducible apply XAnd.mk) | (exact XSame.mk rfl rfl) | (exact XSame.mk (by first | rfl | (simp only [List.map_append, List.length_append, List.length_map]; done) | (simp only [List.map_append, List.length_append, List.length_map]; rfl)) (by first | rfl | (simp only [List.map_append]; done) | (simp only [List.map_append]; rfl))) | (with_reducible exact trivial) | ((first | (with_reducible refine xdrop_app (by rw [List.length_map]; omega) ?_) | (with_reducible refine XDrop.desk (by assumption) ?_) | (with_reducible first | refine XArr.ints (by omega) (by omega) (by omega) ?_ | refine XArr.intsA (by omega) (by omega) (by omega) ?_) | ((with_reducible first | refine XArr.nats ?_ ?_ ?_ | refine XArr.natsA ?_ ?_ ?_ | refine XArr.ptr ?_ ?_ ?_); omega; omega)); conv => whnf) | (apply Walk.drawN (id := 1) tab_ok mixed_ok [] [] (hsU _) [_, _, _, _, _, _, _, _, _, _, _, _, _, _, _, _, _, _, _, _, _, _, _, _, _, _, _] (by kernel_rfl) rfl) | (apply Walk.drawN (id := 15) tab_ok mixed_ok [] [] (hsU _) [_, _, _, _, _, _, _, _, _, _, _, _, _, _, _, _, _, _, _, _, _, _] (by kernel_rfl) rfl) | ((with_reducible apply XNext.mk); conv => whnf) | ((with_reducible apply XBr.mk') <;> (intro h; conv => whnf))
          have hsp2 : spS b m (c.getD m default) (c.getD (m + 1) default) sp = none := by rw [← htf]; exact fF_end (by omega)
          exact XAgain.go (sp + 1) ⟨by omega, by omega, by rw [← hsf]; exact (fF_none hsp hsp2).symm⟩ (by omega) rfl ⟨rfl, rfl, rfl, rfl, rfl, rfl, rfl, rfl, rfl, rfl, rfl, rfl, rfl, trivial⟩
      · have hsp' : ¬ (sp : Int) ≤ (b.months.getD m default).ph := hsp
        repeat' first | ((with_reducible first | apply XBr.tt | apply XBr.ff | apply Chk.go | apply ChkA.go | apply ChkF.go | apply ChkB.go | apply XArr.pim0 | apply XArr.pim1); conv => whnf) | (with_reducible apply XBr.not) | ((with_reducible apply XBr.dec) <;> (intro h; first | (exfalso; omega) | ((try simp only [List.length_map] at h); first | (exfalso; omega) | (conv => whnf)))) | ((with_reducible first | apply XBr.beq | apply XBr.bne) <;> (intro h; first | (exfalso; omega) | (conv => whnf))) | ((with_reducible refine XInt.i64 (by omega) (by omega) ?_); conv => whnf) | ((with_reducible refine XHold.mk ?_ ?_); (first | omega | rfl | decide | exact ⟨rfl, by decide, rfl⟩ | exact wideI _ | exact widePr _ | exact wideSk _ | (unfold Room; constructor <;> ((try simp) <;> omega)) | exact ⟨rfl, by simp only [List.length_map], by unfold Room; constructor <;> ((try simp) <;> omega)⟩ | exact ⟨by omega, by omega, by unfold Room; constructor <;> ((try simp) <;> omega)⟩); conv => whnf) | ((first | ((with_reducible refine XIx.nat ?_ ?_ ?_); omega; (intro _; rfl)) | ((with_reducible refine XIx.map ?_ ?_ ?_ ?_); omega; omega; (intro _; rfl))); conv => whnf) | (with_reducible apply XAnd.mk) | (exact XSame.mk rfl rfl) | (exact XSame.mk (by first | rfl | (simp only [List.map_append, List.length_append, List.length_map]; done) | (simp only [List.map_append, List.length_append, List.length_map]; rfl)) (by first | rfl | (simp only [List.map_append]; done) | (simp only [List.map_append]; rfl))) | (with_reducible exact trivial) | ((first | (with_reducible refine xdrop_app (by rw [List.length_map]; omega) ?_) | (with_reducible refine XDrop.desk (by assumption) ?_) | (with_reducible first | refine XArr.ints (by omega) (by omega) (by omega) ?_ | refine XArr.intsA (by omega) (by omega) (by omega) ?_) | ((with_reducible first | refine XArr.nats ?_ ?_ ?_ | refine XArr.natsA ?_ ?_ ?_ | refine XArr.ptr ?_ ?_ ?_); omega; omega)); conv => whnf) | (apply Walk.drawN (id := 1) tab_ok mixed_ok [] [] (hsU _) [_, _, _, _, _, _, _, _, _, _, _, _, _, _, _, _, _, _, _, _, _, _, _, _, _, _, _] (by kernel_rfl) rfl) | (apply Walk.drawN (id := 15) tab_ok mixed_ok [] [] (hsU _) [_, _, _, _, _, _, _, _, _, _, _, _, _, _, _, _, _, _, _, _, _, _] (by kernel_rfl) rfl) | ((first | (with_reducible apply XNext.mk) | (refine XEqA.mk ⟨[-1, -1], [-1, -1], rfl, rfl, rfl, rfl, ?_⟩)); conv => whnf) | ((with_reducible apply XBr.mk') <;> (intro h; conv => whnf))
        · have hfs : fstC b m (c.getD m default) (c.getD (m + 1) default) = none := by rw [← hsf]; exact fF_end (by omega)
          rw [hfs] at hnx
          rw [hno hnx]; exact ⟨.low rfl⟩
        · exfalso; simp at h
    · obtain rfl : m = b.months.length := by omega
      rw [hk]
      repeat' first | ((with_reducible first | apply XBr.tt | apply XBr.ff | apply Chk.go | apply ChkA.go | apply ChkF.go | apply ChkB.go | apply XArr.pim0 | apply XArr.pim1); conv => whnf) | (with_reducible apply XBr.not) | ((with_reducible apply XBr.dec) <;> (intro h; first | (exfalso; omega) | ((try simp only [List.length_map] at h); first | (exfalso; omega) | (conv => whnf)))) | ((with_reducible first | apply XBr.beq | apply XBr.bne) <;> (intro h; first | (exfalso; omega) | (conv => whnf))) | ((with_reducible refine XInt.i64 (by omega) (by omega) ?_); conv => whnf) | ((with_reducible refine XHold.mk ?_ ?_); (first | omega | rfl | decide | exact ⟨rfl, by decide, rfl⟩ | exact wideI _ | exact widePr _ | exact wideSk _ | (unfold Room; constructor <;> ((try simp) <;> omega)) | exact ⟨rfl, by simp only [List.length_map], by unfold Room; constructor <;> ((try simp) <;> omega)⟩ | exact ⟨by omega, by omega, by unfold Room; constructor <;> ((try simp) <;> omega)⟩); conv => whnf) | ((first | ((with_reducible refine XIx.nat ?_ ?_ ?_); omega; (intro _; rfl)) | ((with_reducible refine XIx.map ?_ ?_ ?_ ?_); omega; omega; (intro _; rfl))); conv => whnf) | (with_reducible apply XAnd.mk) | (exact XSame.mk rfl rfl) | (exact XSame.mk (by first | rfl | (simp only [List.map_append, List.length_append, List.length_map]; done) | (simp only [List.map_append, List.length_append, List.length_map]; rfl)) (by first | rfl | (simp only [List.map_append]; done) | (simp only [List.map_append]; rfl))) | (with_reducible exact trivial) | ((first | (with_reducible refine xdrop_app (by rw [List.length_map]; omega) ?_) | (with_reducible refine XDrop.desk (by assumption) ?_) | (with_reducible first | refine XArr.ints (by omega) (by omega) (by omega) ?_ | refine XArr.intsA (by omega) (by omega) (by omega) ?_) | ((with_reducible first | refine XArr.nats ?_ ?_ ?_ | refine XArr.natsA ?_ ?_ ?_ | refine XArr.ptr ?_ ?_ ?_); omega; omega)); conv => whnf) | (apply Walk.drawN (id := 1) tab_ok mixed_ok [] [] (hsU _) [_, _, _, _, _, _, _, _, _, _, _, _, _, _, _, _, _, _, _, _, _, _, _, _, _, _, _] (by kernel_rfl) rfl) | (apply Walk.drawN (id := 15) tab_ok mixed_ok [] [] (hsU _) [_, _, _, _, _, _, _, _, _, _, _, _, _, _, _, _, _, _, _, _, _, _] (by kernel_rfl) rfl) | ((with_reducible apply XNext.mk); conv => whnf) | ((with_reducible apply XBr.mk') <;> (intro h; conv => whnf))
      exact ⟨Froz.tup (.cons (Froz.grow rfl hcl (chs_low _)) (.cons (.low rfl) .nil))⟩
def chancesA (b : Bd) (c : List Int) : AV := if courE b c ≠ 0 then .tup [.sl true [], .int .i64 (courE b c)] else match chR b c with | none => .tup [.sl true [], .int .i64 8] | some l => .tup [.sl l.isEmpty (chsA l), .int .i64 0]
theorem chances_all_c (b : Bd) (nl : Bool) (c : List Int) (hm : b.months.length ≤ 100000) (hs : b.surveys.length ≤ 100000) (hl : c.length ≤ 100000) : Comp Try.prog 58 [bedA b, .sl nl (ints c)] (chancesA b c) := by
  have hco := coursed_c b nl c hm hs hl
  unfold courA at hco
  unfold chancesA
  by_cases hE : courE b c = 0
  · obtain ⟨ok, h1, h2⟩ := courE_iff.1 hE
    rw [if_neg (fun h => h hE)] at hco ⊢
    have hch := chances_c b ok.toBedOk nl c h1 h2
    cases hr : chR b c with
    | none =>
      rw [hr] at hch
      refine Comp.body (T := tab) (res := [.tmp 4, .tmp 5]) tab_ok [] Try.func58 rfl (by kernel_rfl) Try.ntmps58 rfl (by simp only [List.length_cons, List.length_nil]; decide) (by simp only [lowL, bedL, AV.low, lowI]; rfl) ?_; conv => whnf
      repeat' first | ((with_reducible first | apply XBr.tt | apply XBr.ff | apply Chk.go | apply ChkA.go | apply ChkF.go | apply ChkB.go | apply XArr.pim0 | apply XArr.pim1); conv => whnf) | (with_reducible apply XBr.not) | ((with_reducible apply XBr.dec) <;> (intro h; first | (exfalso; omega) | ((try simp only [List.length_map] at h); first | (exfalso; omega) | (conv => whnf)))) | ((with_reducible first | apply XBr.beq | apply XBr.bne) <;> (intro h; first | (exfalso; omega) | (conv => whnf))) | ((with_reducible refine XInt.i64 (by omega) (by omega) ?_); conv => whnf) | ((with_reducible refine XHold.mk ?_ ?_); (first | omega | rfl | decide | exact ⟨rfl, by decide, rfl⟩ | exact wideI _ | exact widePr _ | exact wideSk _ | (unfold Room; constructor <;> ((try simp) <;> omega)) | exact ⟨rfl, by simp only [List.length_map], by unfold Room; constructor <;> ((try simp) <;> omega)⟩ | exact ⟨by omega, by omega, by unfold Room; constructor <;> ((try simp) <;> omega)⟩); conv => whnf) | ((first | ((with_reducible refine XIx.nat ?_ ?_ ?_); omega; (intro _; rfl)) | ((with_reducible refine XIx.map ?_ ?_ ?_ ?_); omega; omega; (intro _; rfl))); conv => whnf) | (with_reducible apply XAnd.mk) | (exact XSame.mk rfl rfl) | (exact XSame.mk (by first | rfl | (simp only [List.map_append, List.length_append, List.length_map]; done) | (simp only [List.map_append, List.length_append, List.length_map]; rfl)) (by first | rfl | (simp only [List.map_append]; done) | (simp only [List.map_append]; rfl))) | (with_reducible exact trivial) | ((first | (with_reducible refine xdrop_app (by rw [List.length_map]; omega) ?_) | (with_reducible refine XDrop.desk (by assumption) ?_) | (with_reducible first | refine XArr.ints (by omega) (by omega) (by omega) ?_ | refine XArr.intsA (by omega) (by omega) (by omega) ?_) | ((with_reducible first | refine XArr.nats ?_ ?_ ?_ | refine XArr.natsA ?_ ?_ ?_ | refine XArr.ptr ?_ ?_ ?_); omega; omega) | (with_reducible apply XNext.mk) | (refine XCall.ret hco ?_) | (refine XCall.ret hch ?_)); conv => whnf) | ((with_reducible apply XBr.mk') <;> (intro h; conv => whnf))
      exact ⟨.low rfl⟩
    | some l =>
      rw [hr] at hch
      refine Comp.body (T := tab) (res := [.tmp 4, .tmp 5]) tab_ok [] Try.func58 rfl (by kernel_rfl) Try.ntmps58 rfl (by simp only [List.length_cons, List.length_nil]; decide) (by simp only [lowL, bedL, AV.low, lowI]; rfl) ?_; conv => whnf
      repeat' first | ((with_reducible first | apply XBr.tt | apply XBr.ff | apply Chk.go | apply ChkA.go | apply ChkF.go | apply ChkB.go | apply XArr.pim0 | apply XArr.pim1); conv => whnf) | (with_reducible apply XBr.not) | ((with_reducible apply XBr.dec) <;> (intro h; first | (exfalso; omega) | ((try simp only [List.length_map] at h); first | (exfalso; omega) | (conv => whnf)))) | ((with_reducible first | apply XBr.beq | apply XBr.bne) <;> (intro h; first | (exfalso; omega) | (conv => whnf))) | ((with_reducible refine XInt.i64 (by omega) (by omega) ?_); conv => whnf) | ((with_reducible refine XHold.mk ?_ ?_); (first | omega | rfl | decide | exact ⟨rfl, by decide, rfl⟩ | exact wideI _ | exact widePr _ | exact wideSk _ | (unfold Room; constructor <;> ((try simp) <;> omega)) | exact ⟨rfl, by simp only [List.length_map], by unfold Room; constructor <;> ((try simp) <;> omega)⟩ | exact ⟨by omega, by omega, by unfold Room; constructor <;> ((try simp) <;> omega)⟩); conv => whnf) | ((first | ((with_reducible refine XIx.nat ?_ ?_ ?_); omega; (intro _; rfl)) | ((with_reducible refine XIx.map ?_ ?_ ?_ ?_); omega; omega; (intro _; rfl))); conv => whnf) | (with_reducible apply XAnd.mk) | (exact XSame.mk rfl rfl) | (exact XSame.mk (by first | rfl | (simp only [List.map_append, List.length_append, List.length_map]; done) | (simp only [List.map_append, List.length_append, List.length_map]; rfl)) (by first | rfl | (simp only [List.map_append]; done) | (simp only [List.map_append]; rfl))) | (with_reducible exact trivial) | ((first | (with_reducible refine xdrop_app (by rw [List.length_map]; omega) ?_) | (with_reducible refine XDrop.desk (by assumption) ?_) | (with_reducible first | refine XArr.ints (by omega) (by omega) (by omega) ?_ | refine XArr.intsA (by omega) (by omega) (by omega) ?_) | ((with_reducible first | refine XArr.nats ?_ ?_ ?_ | refine XArr.natsA ?_ ?_ ?_ | refine XArr.ptr ?_ ?_ ?_); omega; omega) | (with_reducible apply XNext.mk) | (refine XCall.ret hco ?_) | (refine XCall.ret hch ?_)); conv => whnf) | ((with_reducible apply XBr.mk') <;> (intro h; conv => whnf))
      exact ⟨.low (by simp only [pack, AV.low, lowL, chs_low]; rfl)⟩
  · rw [if_pos hE] at hco ⊢
    generalize courE b c = e at hco hE
    refine Comp.body (T := tab) (res := [.tmp 4, .tmp 5]) tab_ok [] Try.func58 rfl (by kernel_rfl) Try.ntmps58 rfl (by simp only [List.length_cons, List.length_nil]; decide) (by simp only [lowL, bedL, AV.low, lowI]; rfl) ?_; conv => whnf
    repeat' first | ((with_reducible first | apply XBr.tt | apply XBr.ff | apply Chk.go | apply ChkA.go | apply ChkF.go | apply ChkB.go | apply XArr.pim0 | apply XArr.pim1); conv => whnf) | (with_reducible apply XBr.not) | ((with_reducible apply XBr.dec) <;> (intro h; first | (exfalso; omega) | ((try simp only [List.length_map] at h); first | (exfalso; omega) | (conv => whnf)))) | ((with_reducible first | apply XBr.beq | apply XBr.bne) <;> (intro h; first | (exfalso; omega) | (conv => whnf))) | ((with_reducible refine XInt.i64 (by omega) (by omega) ?_); conv => whnf) | ((with_reducible refine XHold.mk ?_ ?_); (first | omega | rfl | decide | exact ⟨rfl, by decide, rfl⟩ | exact wideI _ | exact widePr _ | exact wideSk _ | (unfold Room; constructor <;> ((try simp) <;> omega)) | exact ⟨rfl, by simp only [List.length_map], by unfold Room; constructor <;> ((try simp) <;> omega)⟩ | exact ⟨by omega, by omega, by unfold Room; constructor <;> ((try simp) <;> omega)⟩); conv => whnf) | ((first | ((with_reducible refine XIx.nat ?_ ?_ ?_); omega; (intro _; rfl)) | ((with_reducible refine XIx.map ?_ ?_ ?_ ?_); omega; omega; (intro _; rfl))); conv => whnf) | (with_reducible apply XAnd.mk) | (exact XSame.mk rfl rfl) | (exact XSame.mk (by first | rfl | (simp only [List.map_append, List.length_append, List.length_map]; done) | (simp only [List.map_append, List.length_append, List.length_map]; rfl)) (by first | rfl | (simp only [List.map_append]; done) | (simp only [List.map_append]; rfl))) | (with_reducible exact trivial) | ((first | (with_reducible refine xdrop_app (by rw [List.length_map]; omega) ?_) | (with_reducible refine XDrop.desk (by assumption) ?_) | (with_reducible first | refine XArr.ints (by omega) (by omega) (by omega) ?_ | refine XArr.intsA (by omega) (by omega) (by omega) ?_) | ((with_reducible first | refine XArr.nats ?_ ?_ ?_ | refine XArr.natsA ?_ ?_ ?_ | refine XArr.ptr ?_ ?_ ?_); omega; omega) | (with_reducible apply XNext.mk) | (refine XCall.ret hco ?_)); conv => whnf) | ((with_reducible apply XBr.mk') <;> (intro h; conv => whnf))
    exact ⟨.low rfl⟩
def agrB (b : Bd) (c : List Int) : Bool := (chR b c).isSome && (List.range (b.months.length + 1)).all fun m => agB b alwP m (c.getD m default).toNat
def agreesA (b : Bd) (c : List Int) : AV := if courE b c ≠ 0 then .tup [.bool false, .int .i64 (courE b c)] else .tup [.bool (agrB b c), .int .i64 0]
theorem agrees_all_c (b : Bd) (nl : Bool) (c : List Int) (hm : b.months.length ≤ 100000) (hs : b.surveys.length ≤ 100000) (hl : c.length ≤ 100000) : Comp Try.prog 56 [bedA b, .sl nl (ints c)] (agreesA b c) := by
  have hco := coursed_c b nl c hm hs hl
  unfold courA at hco
  unfold agreesA
  by_cases hE : courE b c = 0
  · obtain ⟨ok, h1, h2⟩ := courE_iff.1 hE
    rw [if_neg (fun h => h hE)] at hco ⊢
    have hch := chances_c b ok.toBedOk nl c h1 h2
    have e2 : ((ints c).length : Int) = b.months.length + 1 := by rw [ints_len]; omega
    have hcx : ∃ x, chA' (chR b c) = .tup [x, .bool (chR b c).isSome] ∧ x.low 0 = true := by
      cases chR b c with
      | none => exact ⟨_, rfl, rfl⟩
      | some l => exact ⟨_, rfl, chs_low l⟩
    obtain ⟨x, hx1, hx2⟩ := hcx
    rw [hx1] at hch
    unfold agrB
    generalize (chR b c).isSome = r0 at hch
    have m2 := ok.m2
    refine Comp.body (T := tab) (res := [.tmp 4, .tmp 5]) tab_ok [] Try.func56 rfl (by kernel_rfl) Try.ntmps56 rfl (by simp only [List.length_cons, List.length_nil]; decide) (by simp only [lowL, bedL, AV.low, lowI]; rfl) ?_; conv => whnf
    repeat' first | ((with_reducible first | apply XBr.tt | apply XBr.ff | apply Chk.go | apply ChkA.go | apply ChkF.go | apply ChkB.go | apply XArr.pim0 | apply XArr.pim1); conv => whnf) | (with_reducible apply XBr.not) | ((with_reducible apply XBr.dec) <;> (intro h; first | (exfalso; omega) | ((try simp only [List.length_map] at h); first | (exfalso; omega) | (conv => whnf)))) | ((with_reducible first | apply XBr.beq | apply XBr.bne) <;> (intro h; first | (exfalso; omega) | (conv => whnf))) | ((with_reducible refine XInt.i64 (by omega) (by omega) ?_); conv => whnf) | ((with_reducible refine XHold.mk ?_ ?_); (first | omega | rfl | decide | exact ⟨rfl, by decide, rfl⟩ | exact wideI _ | exact widePr _ | exact wideSk _ | (unfold Room; constructor <;> ((try simp) <;> omega)) | exact ⟨rfl, by simp only [List.length_map], by unfold Room; constructor <;> ((try simp) <;> omega)⟩ | exact ⟨by omega, by omega, by unfold Room; constructor <;> ((try simp) <;> omega)⟩); conv => whnf) | ((first | ((with_reducible refine XIx.nat ?_ ?_ ?_); omega; (intro _; rfl)) | ((with_reducible refine XIx.map ?_ ?_ ?_ ?_); omega; omega; (intro _; rfl))); conv => whnf) | (with_reducible apply XAnd.mk) | (exact XSame.mk rfl rfl) | (exact XSame.mk (by first | rfl | (simp only [List.map_append, List.length_append, List.length_map]; done) | (simp only [List.map_append, List.length_append, List.length_map]; rfl)) (by first | rfl | (simp only [List.map_append]; done) | (simp only [List.map_append]; rfl))) | (with_reducible exact trivial) | ((first | (with_reducible refine xdrop_app (by rw [List.length_map]; omega) ?_) | (with_reducible refine XDrop.desk (by assumption) ?_) | (with_reducible first | refine XArr.ints (by omega) (by omega) (by omega) ?_ | refine XArr.intsA (by omega) (by omega) (by omega) ?_) | ((with_reducible first | refine XArr.nats ?_ ?_ ?_ | refine XArr.natsA ?_ ?_ ?_ | refine XArr.ptr ?_ ?_ ?_); omega; omega) | (with_reducible apply XNext.mk) | (refine XCall.ret hco ?_) | (refine XCall.ret hch ?_)); conv => whnf) | ((with_reducible apply XBr.mk') <;> (intro h; conv => whnf))
    refine Walk.loopK tab_ok [] [(4, _), (5, _), (6, _), (27, _), (28, _)] ⟨rfl, rfl, rfl, rfl, rfl, trivial⟩ (fun m : Nat => m ≤ b.months.length + 1) (fun m => [(9, .bool (r0 && (List.range m).all fun m => agB b alwP m (c.getD m default).toNat)), (29, natA m)]) (fun _ => []) (fun m => b.months.length + 1 - m) 0 (Nat.zero_le _) rfl ⟨by show some (AV.bool r0) = some (AV.bool (r0 && true)); rw [Bool.and_true], rfl, trivial⟩ ?_
    intro m hm
    have hnx : ((List.range (m + 1)).all fun m => agB b alwP m (c.getD m default).toNat) = (((List.range m).all fun m => agB b alwP m (c.getD m default).toNat) && agB b alwP m (c.getD m default).toNat) := by
      rw [List.range_succ, List.all_append, List.all_cons, List.all_nil, Bool.and_true]
    by_cases hlt : m < b.months.length + 1
    · have hv := h2 (c.getD m default) (getD_mem (by omega))
      have hag := bAgrees_c b ok 180 [] alwP (allF_c b) m (c.getD m default).toNat
      have hvn : (((c.getD m default).toNat : Nat) : Int) = c.getD m default := by omega
      have hag' : Comp Try.prog 131 [dskA b, fltA 180 [], natA m, .int .i64 (c.getD m default)] (.bool (agB b alwP m (c.getD m default).toNat)) := by rw [← hvn] at hag ⊢; exact hag
      generalize ((List.range m).all fun m => agB b alwP m (c.getD m default).toNat) = s at hnx
      generalize agB b alwP m (c.getD m default).toNat = t at hag' hnx
      generalize hq : (r0 && s) = q
      conv => whnf
      cases q
      all_goals
        repeat' first | ((with_reducible first | apply XBr.tt | apply XBr.ff | apply Chk.go | apply ChkA.go | apply ChkF.go | apply ChkB.go | apply XArr.pim0 | apply XArr.pim1); conv => whnf) | (with_reducible apply XBr.not) | ((with_reducible apply XBr.dec) <;> (intro h; first | (exfalso; omega) | ((try simp only [List.length_map] at h); first | (exfalso; omega) | (conv => whnf)))) | ((with_reducible first | apply XBr.beq | apply XBr.bne) <;> (intro h; first | (exfalso; omega) | (conv => whnf))) | ((with_reducible refine XInt.i64 (by omega) (by omega) ?_); conv => whnf) | ((with_reducible refine XHold.mk ?_ ?_); (first | omega | rfl | decide | exact ⟨rfl, by decide, rfl⟩ | exact wideI _ | exact widePr _ | exact wideSk _ | (unfold Room; constructor <;> ((try simp) <;> omega)) | exact ⟨rfl, by simp only [List.length_map], by unfold Room; constructor <;> ((try simp) <;> omega)⟩ | exact ⟨by omega, by omega, by unfold Room; constructor <;> ((try simp) <;> omega)⟩); conv => whnf) | ((first | ((with_reducible refine XIx.nat ?_ ?_ ?_); omega; (intro _; rfl)) | ((with_reducible refine XIx.map ?_ ?_ ?_ ?_); omega; omega; (intro _; rfl))); conv => whnf) | (with_reducible apply XAnd.mk) | (exact XSame.mk rfl rfl) | (exact XSame.mk (by first | rfl | (simp only [List.map_append, List.length_append, List.length_map]; done) | (simp only [List.map_append, List.length_append, List.length_map]; rfl)) (by first | rfl | (simp only [List.map_append]; done) | (simp only [List.map_append]; rfl))) | (with_reducible exact trivial) | ((first | (with_reducible refine xdrop_app (by rw [List.length_map]; omega) ?_) | (with_reducible refine XDrop.desk (by assumption) ?_) | (with_reducible first | refine XArr.ints (by omega) (by omega) (by omega) ?_ | refine XArr.intsA (by omega) (by omega) (by omega) ?_) | ((with_reducible first | refine XArr.nats ?_ ?_ ?_ | refine XArr.natsA ?_ ?_ ?_ | refine XArr.ptr ?_ ?_ ?_); omega; omega) | (with_reducible apply XNext.mk) | (refine XCall.ret bAll_c ?_) | (refine XCall.ret hag' ?_)); conv => whnf) | ((with_reducible apply XBr.mk') <;> (intro h; conv => whnf))
      · refine XAgain.go (m + 1) (by omega) (by omega) rfl ⟨rfl, rfl, rfl, rfl, rfl, ?_, rfl, trivial⟩
        show some (AV.bool false) = _
        rw [hnx, ← Bool.and_assoc, hq]; rfl
      · refine XAgain.go (m + 1) (by omega) (by omega) rfl ⟨rfl, rfl, rfl, rfl, rfl, ?_, rfl, trivial⟩
        show some (AV.bool t) = _
        rw [hnx, ← Bool.and_assoc, hq]; rfl
    · obtain rfl : m = b.months.length + 1 := by omega
      conv => whnf
      repeat' first | ((with_reducible first | apply XBr.tt | apply XBr.ff | apply Chk.go | apply ChkA.go | apply ChkF.go | apply ChkB.go | apply XArr.pim0 | apply XArr.pim1); conv => whnf) | (with_reducible apply XBr.not) | ((with_reducible apply XBr.dec) <;> (intro h; first | (exfalso; omega) | ((try simp only [List.length_map] at h); first | (exfalso; omega) | (conv => whnf)))) | ((with_reducible first | apply XBr.beq | apply XBr.bne) <;> (intro h; first | (exfalso; omega) | (conv => whnf))) | ((with_reducible refine XInt.i64 (by omega) (by omega) ?_); conv => whnf) | ((with_reducible refine XHold.mk ?_ ?_); (first | omega | rfl | decide | exact ⟨rfl, by decide, rfl⟩ | exact wideI _ | exact widePr _ | exact wideSk _ | (unfold Room; constructor <;> ((try simp) <;> omega)) | exact ⟨rfl, by simp only [List.length_map], by unfold Room; constructor <;> ((try simp) <;> omega)⟩ | exact ⟨by omega, by omega, by unfold Room; constructor <;> ((try simp) <;> omega)⟩); conv => whnf) | ((first | ((with_reducible refine XIx.nat ?_ ?_ ?_); omega; (intro _; rfl)) | ((with_reducible refine XIx.map ?_ ?_ ?_ ?_); omega; omega; (intro _; rfl))); conv => whnf) | (with_reducible apply XAnd.mk) | (exact XSame.mk rfl rfl) | (exact XSame.mk (by first | rfl | (simp only [List.map_append, List.length_append, List.length_map]; done) | (simp only [List.map_append, List.length_append, List.length_map]; rfl)) (by first | rfl | (simp only [List.map_append]; done) | (simp only [List.map_append]; rfl))) | (with_reducible exact trivial) | ((first | (with_reducible refine xdrop_app (by rw [List.length_map]; omega) ?_) | (with_reducible refine XDrop.desk (by assumption) ?_) | (with_reducible first | refine XArr.ints (by omega) (by omega) (by omega) ?_ | refine XArr.intsA (by omega) (by omega) (by omega) ?_) | ((with_reducible first | refine XArr.nats ?_ ?_ ?_ | refine XArr.natsA ?_ ?_ ?_ | refine XArr.ptr ?_ ?_ ?_); omega; omega) | (with_reducible apply XNext.mk)); conv => whnf) | ((with_reducible apply XBr.mk') <;> (intro h; conv => whnf))
      exact ⟨.low rfl⟩
  · rw [if_pos hE] at hco ⊢
    generalize courE b c = e at hco hE
    refine Comp.body (T := tab) (res := [.tmp 4, .tmp 5]) tab_ok [] Try.func56 rfl (by kernel_rfl) Try.ntmps56 rfl (by simp only [List.length_cons, List.length_nil]; decide) (by simp only [lowL, bedL, AV.low, lowI]; rfl) ?_; conv => whnf
    repeat' first | ((with_reducible first | apply XBr.tt | apply XBr.ff | apply Chk.go | apply ChkA.go | apply ChkF.go | apply ChkB.go | apply XArr.pim0 | apply XArr.pim1); conv => whnf) | (with_reducible apply XBr.not) | ((with_reducible apply XBr.dec) <;> (intro h; first | (exfalso; omega) | ((try simp only [List.length_map] at h); first | (exfalso; omega) | (conv => whnf)))) | ((with_reducible first | apply XBr.beq | apply XBr.bne) <;> (intro h; first | (exfalso; omega) | (conv => whnf))) | ((with_reducible refine XInt.i64 (by omega) (by omega) ?_); conv => whnf) | ((with_reducible refine XHold.mk ?_ ?_); (first | omega | rfl | decide | exact ⟨rfl, by decide, rfl⟩ | exact wideI _ | exact widePr _ | exact wideSk _ | (unfold Room; constructor <;> ((try simp) <;> omega)) | exact ⟨rfl, by simp only [List.length_map], by unfold Room; constructor <;> ((try simp) <;> omega)⟩ | exact ⟨by omega, by omega, by unfold Room; constructor <;> ((try simp) <;> omega)⟩); conv => whnf) | ((first | ((with_reducible refine XIx.nat ?_ ?_ ?_); omega; (intro _; rfl)) | ((with_reducible refine XIx.map ?_ ?_ ?_ ?_); omega; omega; (intro _; rfl))); conv => whnf) | (with_reducible apply XAnd.mk) | (exact XSame.mk rfl rfl) | (exact XSame.mk (by first | rfl | (simp only [List.map_append, List.length_append, List.length_map]; done) | (simp only [List.map_append, List.length_append, List.length_map]; rfl)) (by first | rfl | (simp only [List.map_append]; done) | (simp only [List.map_append]; rfl))) | (with_reducible exact trivial) | ((first | (with_reducible refine xdrop_app (by rw [List.length_map]; omega) ?_) | (with_reducible refine XDrop.desk (by assumption) ?_) | (with_reducible first | refine XArr.ints (by omega) (by omega) (by omega) ?_ | refine XArr.intsA (by omega) (by omega) (by omega) ?_) | ((with_reducible first | refine XArr.nats ?_ ?_ ?_ | refine XArr.natsA ?_ ?_ ?_ | refine XArr.ptr ?_ ?_ ?_); omega; omega) | (with_reducible apply XNext.mk) | (refine XCall.ret hco ?_)); conv => whnf) | ((with_reducible apply XBr.mk') <;> (intro h; conv => whnf))
    exact ⟨.low rfl⟩
end GA
end

section
namespace GA
open Go Go.RowKit Go.Proofs
set_option pp.deepTerms true
set_option maxRecDepth 8000
set_option linter.unusedVariables false
set_option linter.unusedSimpArgs false

theorem courE_2 {b : Bd} {c : List Int} (h : bedE b = 0) (h2 : (c.length : Int) ≠ b.months.length + 1) : courE b c = 2 := by unfold courE; rw [if_neg (fun h' => h' h), if_pos h2]
theorem courE_3 {b : Bd} {c : List Int} (h : bedE b = 0) (h2 : ¬ (c.length : Int) ≠ b.months.length + 1) (h3 : c.all (fun x => inZ x 0 b.room) = false) : courE b c = 3 := by unfold courE; rw [if_neg (fun h' => h' h), if_neg h2, if_pos h3]
theorem refCoursed_c (b : Bd) (nl : Bool) (c : List Int) (h1 : b.months.length ≤ 100000) (h2 : b.surveys.length ≤ 100000) (h3 : c.length ≤ 100000) : Comp Try.prog 70 [bedA b, .sl nl (ints c)] (.int .i64 (courE b c)) := by
  have hc := refCheck04_c b h1 h2
  have e1 : ((b.months.map moA).length : Int) = b.months.length := by rw [List.length_map]
  have e2 : ((ints c).length : Int) = c.length := by rw [ints_len]
  by_cases hb : bedE b = 0
  · rw [hb] at hc
    refine Comp.body (T := tab) (res := [.tmp 4]) tab_ok [] Try.func70 rfl (by kernel_rfl) Try.ntmps70 rfl (by simp only [List.length_cons, List.length_nil]; decide) (by simp only [lowL, bedL, AV.low, lowI]; rfl) ?_; conv => whnf
    repeat' first | ((with_reducible apply XBr.bne) <;> (intro h; first | (exfalso; omega) | (conv => whnf))) | ((first | (with_reducible refine XInt.i64 (by omega) (by omega) ?_) | (refine XCall.ret hc ?_)); conv => whnf) | fail
    · exact XOut.int (courE_2 hb (by rw [e1, e2] at *; omega)).symm
    have hlen : ¬ (c.length : Int) ≠ b.months.length + 1 := by rw [e1, e2] at *; omega
    refine Walk.loopK tab_ok [] [(1, _), (2, _)] ⟨rfl, rfl, trivial⟩ (fun k : Nat => k ≤ c.length ∧ ∀ j, j < k → inZ (c.getD j default) 0 b.room = true) (fun k => [(6, natA k)]) (fun _ => []) (fun k => c.length - k) 0 ⟨Nat.zero_le _, fun j hj => by omega⟩ rfl ⟨rfl, trivial⟩ ?_
    rintro k ⟨hk, hks⟩
    conv => whnf
    by_cases hlt : k < c.length
    · have hE : inZ (c.getD k default) 0 b.room = false → courE b c = 3 := fun h => courE_3 hb hlen (allG_false (p := fun x => inZ x 0 b.room) hlt h)
      have hgo : inZ (c.getD k default) 0 b.room = true → ∀ j, j < k + 1 → inZ (c.getD j default) 0 b.room = true := fun h => upto_next hks h
      have hof := off04_c (c.getD k default) 0 b.room
      generalize inZ (c.getD k default) 0 b.room = r at hE hgo hof
      repeat' first | (with_reducible apply XBr.not) | ((with_reducible apply XBr.dec) <;> (intro h; first | (exfalso; omega) | ((try simp only [List.length_map] at h); first | (exfalso; omega) | (conv => whnf)))) | ((first | (with_reducible refine XInt.i64 (by omega) (by omega) ?_) | ((with_reducible refine XIx.nat ?_ ?_ ?_); omega; (intro _; rfl))); conv => whnf) | (with_reducible apply XAnd.mk) | ((first | (with_reducible apply Chk.go) | (with_reducible apply ChkA.go) | (with_reducible apply ChkF.go) | (with_reducible apply ChkB.go)); conv => whnf) | (exact XSame.mk rfl rfl) | (with_reducible exact trivial) | (apply Walk.drawN (id := 9) tab_ok mixed_ok [] [] (hsU _) [_, _, _, _, _, _, _] (by kernel_rfl) rfl) | ((first | (with_reducible apply XNext.mk) | (refine XCall.ret hof ?_)); conv => whnf) | ((with_reducible apply XBr.mk') <;> (intro h; conv => whnf)) | fail
      · exact XAgain.go (k + 1) ⟨by omega, hgo h⟩ (by omega) rfl ⟨rfl, rfl, rfl, trivial⟩
      · exact XOut.int (hE h).symm
    · obtain rfl : k = c.length := by omega
      repeat' first | ((with_reducible apply XBr.dec) <;> (intro h; first | (exfalso; omega) | ((try simp only [List.length_map] at h); first | (exfalso; omega) | (conv => whnf)))) | fail
      refine XOut.int ?_
      unfold courE
      rw [if_neg (fun h' => h' hb), if_neg hlen, if_neg (by rw [allG_true (p := fun x => inZ x 0 b.room) (d := default) hks]; simp)]
  · have hE : courE b c = bedE b := by unfold courE; rw [if_pos hb]
    rw [hE]
    generalize bedE b = e at hc hb
    refine Comp.body (T := tab) (res := [.tmp 4]) tab_ok [] Try.func70 rfl (by kernel_rfl) Try.ntmps70 rfl (by simp only [List.length_cons, List.length_nil]; decide) (by simp only [lowL, bedL, AV.low, lowI]; rfl) ?_; conv => whnf
    repeat' first | ((with_reducible apply XBr.bne) <;> (intro h; first | (exfalso; omega) | (conv => whnf))) | ((refine XCall.ret hc ?_); conv => whnf) | fail
    exact ⟨.low rfl⟩
theorem counts_c (b : Bd) (v : Bool) (hs : b.surveys.length ≤ 100000) : Comp Try.prog 134 [bedA b, .bool v] (.sl false (bls b.surveys.length fun _ => v)) := by
  have e1 : ((b.surveys.map suA).length : Int) = b.surveys.length := by rw [List.length_map]
  have e3 : (((b.surveys.map suA).length : Int)).toNat = b.surveys.length := by rw [e1, Int.toNat_natCast]
  refine Comp.body (T := tab) (res := [.tmp 4]) tab_ok [] Try.func134 rfl (by kernel_rfl) Try.ntmps134 rfl (by simp only [List.length_cons, List.length_nil]; decide) (by simp only [lowL, bedL, AV.low]; rfl) ?_; conv => whnf
  repeat' first | ((with_reducible refine XHold.mk ?_ ?_); (first | omega | rfl | decide | exact ⟨rfl, by decide, rfl⟩ | exact wideI _ | exact widePr _ | exact wideSk _ | (unfold Room; constructor <;> ((try simp) <;> omega)) | exact ⟨rfl, by simp only [List.length_map], by unfold Room; constructor <;> ((try simp) <;> omega)⟩ | exact ⟨by omega, by omega, by unfold Room; constructor <;> ((try simp) <;> omega)⟩); conv => whnf) | fail
  refine Walk.loopK tab_ok [] [(1, _), (4, _), (5, .gr 0 b.surveys.length)] ⟨rfl, rfl, by rw [← e3]; rfl, trivial⟩ (fun k : Nat => k ≤ b.surveys.length) (fun k => [(6, natA k)]) (fun k => [.grow 4 false (bls b.surveys.length fun i => decide (i < k) && v)]) (fun k => b.surveys.length - k) 0 (Nat.zero_le _) ?_ ⟨rfl, trivial⟩ ?_
  · show [Blk.grow _ false (bls _ _)] = [Blk.grow _ false (List.replicate _ _)]
    rw [e3, bls0]
    refine congrArg (fun z => [Blk.grow _ false z]) (congrArg (List.map AV.bool) (vecF_congr fun i hi => ?_))
    rw [decide_eq_false (by omega)]; rfl
  intro k hk
  have hin := fun (i : Nat) => show updV (fun i : Nat => decide (i < k) && v) k v i = (decide (i < k + 1) && v) by
    unfold updV
    split
    · rename_i e; subst e; rw [decide_eq_true (by omega)]; rfl
    · rw [show decide (i < k + 1) = decide (i < k) by rw [decide_eq_decide]; omega]
  conv => whnf
  by_cases hlt : k < b.surveys.length
  · skip
    repeat' first | ((with_reducible apply XBr.dec) <;> (intro h; first | (exfalso; omega) | ((try simp only [List.length_map] at h); first | (exfalso; omega) | (conv => whnf)))) | ((first | (with_reducible refine XInt.i64 (by omega) (by omega) ?_) | (refine XHold.mk (bls_len _ _) ?_) | (refine XHold.mk ⟨bls_len _ _, rfl, by omega, by omega⟩ ?_) | (refine XPut.bls k (by omega) rfl (by omega) ?_)); conv => whnf) | fail
    exact XAgain.go (k + 1) (by omega) (by omega) (congrArg (fun z => [Blk.grow _ false z]) (congrArg (List.map AV.bool) (vecF_congr fun i hi => (hin i).symm))) ⟨rfl, rfl, rfl, rfl, trivial⟩
  · obtain rfl : k = b.surveys.length := by omega
    repeat' first | ((with_reducible apply XBr.dec) <;> (intro h; first | (exfalso; omega) | ((try simp only [List.length_map] at h); first | (exfalso; omega) | (conv => whnf)))) | ((refine XHold.mk (bls_len _ _) ?_); conv => whnf) | fail
    have hv : bls b.surveys.length (fun _ => v) = bls b.surveys.length fun i => decide (i < b.surveys.length) && v := congrArg (List.map AV.bool) (vecF_congr fun i hi => by rw [decide_eq_true hi]; rfl)
    rw [hv]
    exact ⟨Froz.grow rfl (bls_len _ _) (bls_low _ _)⟩
theorem refAgrees1_c (b : Bd) (nl : Bool) (p : Nat → Bool) (m n : Nat) (hs : b.surveys.length ≤ 100000) : Comp Try.prog 133 [bedA b, .sl nl (bls b.surveys.length p), natA m, natA n] (.bool (agB b p m n)) := by
  have e1 : ((b.surveys.map suA).length : Int) = b.surveys.length := by rw [List.length_map]
  refine Comp.body (T := tab) (res := [.tmp 8]) tab_ok [] Try.func133 rfl (by kernel_rfl) Try.ntmps133 rfl (by simp only [List.length_cons, List.length_nil]; decide) (by simp only [lowL, bedL, AV.low, bls_low]; rfl) ?_; conv => whnf
  skip
  refine Walk.loopGK tab_ok [] [(1, _), (2, _), (3, _), (4, _)] ⟨rfl, rfl, rfl, rfl, trivial⟩ (fun k : Nat => k ≤ b.surveys.length ∧ ∀ j, j < k → (suB b j).m = m → p j = true → (suB b j).lo ≤ n ∧ (n : Int) ≤ (suB b j).hi) (fun k => [(9, natA k)]) (fun _ => []) (fun k => b.surveys.length - k) 0 ⟨Nat.zero_le _, fun j hj => by omega⟩ rfl ⟨rfl, trivial⟩ ?_ (fun _ _ => Nat.le_refl _) ?_
  · intro k _
    refine ⟨by simp, fun z hz => ?_⟩
    simp only [List.cons_append, List.nil_append, List.mem_cons, List.not_mem_nil, or_false] at hz
    rcases hz with rfl | rfl | rfl | rfl | rfl <;> first | rfl | exact bls_low _ _ | exact lowBd b
  rintro k ⟨hk, hks⟩
  conv => whnf
  by_cases hlt : k < b.surveys.length
  · have hno : (suB b k).m = m → p k = true → ¬ ((suB b k).lo ≤ n ∧ (n : Int) ≤ (suB b k).hi) → agB b p m n = false := fun h1 h2 h3 => by
      cases h : agB b p m n with
      | false => rfl
      | true => exact absurd (agB_iff.1 h k hlt h1 h2) h3
    have hgo : ((suB b k).m = m → p k = true → (suB b k).lo ≤ n ∧ (n : Int) ≤ (suB b k).hi) → ∀ j, j < k + 1 → (suB b j).m = m → p j = true → (suB b j).lo ≤ n ∧ (n : Int) ≤ (suB b j).hi := fun h => upto_next hks h
    have hsu : b.surveys.getD k default = suB b k := rfl
    have hof := off04_c n (suB b k).lo (suB b k).hi
    have hi := inZ_iff (n := n) (lo := (suB b k).lo) (hi := (suB b k).hi)
    generalize inZ (n : Int) (suB b k).lo (suB b k).hi = r at hof hi
    generalize hp : p k = q at hno hgo
    cases q <;> cases r
    all_goals
      repeat' first | ((with_reducible apply XBr.dec) <;> (intro h; first | (exfalso; omega) | ((try simp only [List.length_map] at h); first | (exfalso; omega) | (conv => whnf)))) | (((with_reducible refine XIx.nat ?_ ?_ ?_); omega; (intro _; rfl)); conv => whnf) | fail
      refine Walk.norm tab_ok [] [(1, _), (2, _), (3, _), (4, _), (9, _), (10, _)] ⟨rfl, rfl, rfl, rfl, rfl, rfl, trivial⟩ ?_
      conv => whnf
      repeat' first | ((first | (with_reducible apply XBr.tt) | (with_reducible apply XBr.ff)); conv => whnf) | (with_reducible apply XBr.not) | ((with_reducible apply XBr.beq) <;> (intro h; first | (exfalso; omega) | (conv => whnf))) | ((first | (with_reducible refine XInt.i64 (by omega) (by omega) ?_) | ((refine XIx.bls k rfl (by omega) ?_); rw [hp]) | (refine XCall.ret hof ?_)); conv => whnf) | fail
      all_goals first | (rw [hno h rfl (fun h' => by have := hi.2 h'; cases this)]; exact ⟨.low rfl⟩) | (refine XAgainG.go (k + 1) [.cells (suA (suB b k)).cells] ⟨by omega, hgo fun h1 h2 => ?_⟩ (by omega) rfl ⟨rfl, rfl, rfl, rfl, rfl, trivial⟩; first | exact absurd h2 (by decide) | exact hi.1 rfl | exact absurd h1 h)
  · obtain rfl : k = b.surveys.length := by omega
    repeat' first | ((with_reducible apply XBr.dec) <;> (intro h; first | (exfalso; omega) | ((try simp only [List.length_map] at h); first | (exfalso; omega) | (conv => whnf)))) | fail
    rw [agB_iff.2 hks]; exact ⟨.low rfl⟩
end GA
end

section
namespace GA
open Go Go.RowKit Go.Proofs
set_option pp.deepTerms true
set_option maxRecDepth 8000
set_option linter.unusedVariables false
set_option linter.unusedSimpArgs false

theorem equal_rch (n1 n2 : Bool) (xs : List (Int × Int)) (hx : xs.length ≤ 100000) : Comp Try.prog 135 [.sl n1 (chsA xs), .sl n2 (chsA xs)] (.bool true) := by
  refine Comp.body (T := tab) (res := [.tmp 4]) tab_ok [] Try.func135 rfl (by kernel_rfl) Try.ntmps135 rfl (by simp only [List.length_cons, List.length_nil]; decide) (by simp only [lowL, AV.low, chs_low]; rfl) ?_; conv => whnf
  have hx2 : (chsA xs).length = xs.length := List.length_map _
  repeat' first | ((with_reducible apply XBr.bne) <;> (intro h; first | (exfalso; omega) | (conv => whnf))) | fail
  refine Walk.loop tab_ok [] (fun i : Nat => i ≤ xs.length) (fun i => [(0, .sl n1 (chsA xs)), (1, .sl n2 (chsA xs)), (12, .int .i64 xs.length), (13, .int .i64 i)]) (fun _ => []) (fun i => xs.length - i) 0 (Nat.zero_le _) rfl ⟨rfl, rfl, by rw [← hx2]; rfl, rfl, trivial⟩ ?_
  intro i hi
  conv => whnf
  repeat' first | ((with_reducible apply XBr.ff); conv => whnf) | ((with_reducible apply XBr.dec) <;> (intro h; first | (exfalso; omega) | ((try simp only [List.length_map] at h); first | (exfalso; omega) | (conv => whnf)))) | ((first | (with_reducible refine XInt.i64 (by omega) (by omega) ?_) | ((with_reducible refine XIx.nat ?_ ?_ ?_); omega; (intro _; rfl))); conv => whnf) | (with_reducible apply XAnd.mk) | ((first | (with_reducible apply Chk.go) | (with_reducible apply ChkA.go) | (with_reducible apply ChkF.go) | (with_reducible apply ChkB.go)); conv => whnf) | (exact XSame.mk rfl rfl) | (with_reducible exact trivial) | (apply Walk.drawN (id := 6) tab_ok mixed_ok [] [] (hsU _) [_, _, _, _, _, _, _, _, _] (by kernel_rfl) rfl) | ((with_reducible apply XNext.mk); conv => whnf) | ((refine XEqA.mk ⟨[(xs.getD i default).1, (xs.getD i default).2], [(xs.getD i default).1, (xs.getD i default).2], rfl, rfl, rfl, rfl, ?_⟩); exact XSame.mk (show AV.bool (!(_ == _)) = AV.bool false by simp) rfl) | fail
  · exact XAgain.go (i + 1) (by omega) (by omega) rfl ⟨rfl, rfl, rfl, rfl, trivial⟩
  · exact XOut.bool rfl
theorem eq_rch (n1 n2 : Bool) (xs : List (Int × Int)) (hx : xs.length ≤ 100000) : Comp Try.prog 60 [.sl n1 (chsA xs), .sl n2 (chsA xs)] (.bool true) := by
  refine Comp.body (T := tab) (res := [.tmp 4]) tab_ok [] Try.func60 rfl (by kernel_rfl) Try.ntmps60 rfl (by simp only [List.length_cons, List.length_nil]; decide) (by simp only [lowL, AV.low, chs_low]; rfl) ?_; conv => whnf
  repeat' first | ((refine XCall.ret (equal_rch n1 n2 xs hx) ?_); conv => whnf) | fail
  exact XOut.bool rfl
theorem chK_fail {b : Bd} {c : List Int} {k : Nat} (h : chK b c k = none) : ∀ d, chK b c (k + d) = none
  | 0 => h
  | d + 1 => by
    have ih := chK_fail h d
    rw [show k + (d + 1) = (k + d) + 1 by omega, chK, ih]
theorem refChances_c (b : Bd) (nl : Bool) (c : List Int) (h1 : b.months.length ≤ 100000) (h2 : b.surveys.length ≤ 100000) (h3 : c.length ≤ 100000) : Comp Try.prog 59 [bedA b, .sl nl (ints c)] (chancesA b c) := by
  have hco := refCoursed_c b nl c h1 h2 h3
  unfold chancesA
  by_cases hE : courE b c = 0
  · obtain ⟨ok, hl, hb⟩ := courE_iff.1 hE
    have m1 := ok.m1
    have m2 := ok.m2
    have r1 := ok.r1
    have r2 := ok.r2
    have f1 := ok.f1
    have f2 := ok.f2
    have u1 := ok.u1
    have u2 := ok.u2
    have e1 : ((b.months.map moA).length : Int) = b.months.length := by rw [List.length_map]
    have hcv : ∀ m, m ≤ b.months.length → 0 ≤ c.getD m default ∧ c.getD m default ≤ b.room := fun m hm => hb _ (getD_mem (by omega))
    have hc0 : c.getD (Int.toNat 0) default = c.getD 0 default := rfl
    rw [hE] at hco
    rw [if_neg (fun h => h hE)]
    have hof := off04_c (c.getD 0 default) (b.first - b.unsure) (b.first + b.unsure)
    cases hin : inZ (c.getD 0 default) (b.first - b.unsure) (b.first + b.unsure)
    · have hr : chR b c = none := by unfold chR; rw [if_neg (by rw [hin]; simp)]
      rw [hr]
      rw [hin] at hof
      refine Comp.body (T := tab) (res := [.tmp 4, .tmp 5]) tab_ok [] Try.func59 rfl (by kernel_rfl) Try.ntmps59 rfl (by simp only [List.length_cons, List.length_nil]; decide) (by simp only [lowL, bedL, AV.low, lowI]; rfl) ?_; conv => whnf
      repeat' first | ((with_reducible apply XBr.ff); conv => whnf) | (with_reducible apply XBr.not) | ((with_reducible apply XBr.bne) <;> (intro h; first | (exfalso; omega) | (conv => whnf))) | ((first | (with_reducible refine XInt.i64 (by omega) (by omega) ?_) | ((with_reducible refine XIx.map ?_ ?_ ?_ ?_); omega; omega; (intro _; rfl))); conv => whnf) | (with_reducible apply XAnd.mk) | ((first | (with_reducible apply Chk.go) | (with_reducible apply ChkA.go) | (with_reducible apply ChkF.go) | (with_reducible apply ChkB.go)); conv => whnf) | (exact XSame.mk rfl rfl) | (with_reducible exact trivial) | (apply Walk.drawN (id := 4) tab_ok mixed_ok [] [] (hsU _) [_, _, _, _, _, _, _, _, _, _, _, _, _, _] (by kernel_rfl) rfl) | ((first | (with_reducible apply XNext.mk) | (refine XCall.ret hco ?_) | (refine XCall.ret hof ?_)); conv => whnf) | fail
      exact ⟨.low rfl⟩
    · have hr : chR b c = chK b c b.months.length := by unfold chR; rw [if_pos hin]
      rw [hr]
      rw [hin] at hof
      refine Comp.body (T := tab) (res := [.tmp 4, .tmp 5]) tab_ok [] Try.func59 rfl (by kernel_rfl) Try.ntmps59 rfl (by simp only [List.length_cons, List.length_nil]; decide) (by simp only [lowL, bedL, AV.low, lowI]; rfl) ?_; conv => whnf
      repeat' first | ((with_reducible apply XBr.tt); conv => whnf) | (with_reducible apply XBr.not) | ((with_reducible apply XBr.bne) <;> (intro h; first | (exfalso; omega) | (conv => whnf))) | ((first | (with_reducible refine XInt.i64 (by omega) (by omega) ?_) | ((with_reducible refine XIx.map ?_ ?_ ?_ ?_); omega; omega; (intro _; rfl))); conv => whnf) | (with_reducible apply XAnd.mk) | ((first | (with_reducible apply Chk.go) | (with_reducible apply ChkA.go) | (with_reducible apply ChkF.go) | (with_reducible apply ChkB.go)); conv => whnf) | (exact XSame.mk rfl rfl) | (with_reducible exact trivial) | (apply Walk.drawN (id := 4) tab_ok mixed_ok [] [] (hsU _) [_, _, _, _, _, _, _, _, _, _, _, _, _, _] (by kernel_rfl) rfl) | ((first | (with_reducible apply XNext.mk) | (refine XCall.ret hco ?_) | (refine XCall.ret hof ?_)); conv => whnf) | fail
      refine Walk.nilgr 7 69 rfl ?_
      refine Walk.loopGK tab_ok [] [(1, _), (2, _)] ⟨rfl, rfl, trivial⟩ (fun q : Nat × List (Int × Int) => q.1 ≤ b.months.length ∧ chK b c q.1 = some q.2) (fun q => [(7, .gr 0 q.2.length), (8, natA q.1)]) (fun q => [.grow 69 q.2.isEmpty (chsA q.2)]) (fun q => b.months.length - q.1) (0, []) ⟨Nat.zero_le _, rfl⟩ rfl ⟨rfl, rfl, trivial⟩ ?_ (fun _ _ => (show (1 : Nat) ≤ 1 from Nat.le_refl 1)) ?_
      · intro q _
        refine ⟨fun z hz => ?_, fun z hz => ?_⟩
        · rw [List.mem_singleton] at hz; subst hz; exact chs_low _
        · simp only [List.cons_append, List.nil_append, List.mem_cons, List.not_mem_nil, or_false] at hz
          rcases hz with rfl | rfl | rfl | rfl <;> first | rfl | exact lowBd b | exact lowI _
      rintro ⟨i, l⟩ ⟨hi, hk⟩
      dsimp only at hi hk ⊢
      have hll := chK_len hk
      have hkn : chK b c (i + 1) = match fstC b i (c.getD i default) (c.getD (i + 1) default) with | none => none | some x => some (l ++ [x]) := by rw [chK, hk] <;> rfl
      conv => whnf
      by_cases hlt : i < b.months.length
      · have hmo := ok.mo' hlt
        have hv1 := hcv i (by omega)
        have hv2 := hcv (i + 1) (by omega)
        have hci : c.getD ((i : Int) + 1).toNat default = c.getD (i + 1) default := congrArg (fun z => c.getD z default) (by omega : ((i : Int) + 1).toNat = i + 1)
        generalize ha : c.getD i default = a at hkn hv1
        generalize hkk : c.getD (i + 1) default = k at hkn hv2 hci
        generalize hF : fstC b i a k = F at hkn
        repeat' first | ((with_reducible apply XBr.dec) <;> (intro h; first | (exfalso; omega) | ((try simp only [List.length_map] at h); first | (exfalso; omega) | (conv => whnf)))) | (((with_reducible refine XIx.nat ?_ ?_ ?_); omega; (intro _; rfl)); conv => whnf) | fail
        refine Walk.loopGK tab_ok [] [(1, _), (2, _), (8, _), (9, _)] ⟨rfl, rfl, rfl, rfl, trivial⟩ (fun q : Nat × List (Int × Int) => (moB b i).pl ≤ q.1 ∧ (q.1 : Int) ≤ (moB b i).ph + 1 ∧ ((q.2 = l ∧ fF (spS b i a k) q.1 (moB b i).ph = F) ∨ ∃ x, q.2 = l ++ [x] ∧ F = some x)) (fun q => [(7, .gr 0 q.2.length), (10, natA q.1)]) (fun q => [.grow 69 q.2.isEmpty (chsA q.2), .cells (moC (moB b i))]) (fun q => ((moB b i).ph + 1).toNat - q.1) ((moB b i).pl.toNat, l) ⟨by dsimp only; omega, by dsimp only; omega, .inl ⟨rfl, hF⟩⟩ rfl ⟨rfl, congrArg (fun z => some (AV.int .i64 z)) (show (moB b i).pl = (((moB b i).pl.toNat : Nat) : Int) by omega), trivial⟩ ?_ (fun _ _ => (show (2 : Nat) ≤ 2 from Nat.le_refl 2)) ?_
        · intro q _
          refine ⟨fun z hz => ?_, fun z hz => ?_⟩
          · simp only [List.mem_cons, List.not_mem_nil, or_false] at hz
            rcases hz with rfl | rfl <;> first | exact chs_low _ | rfl
          · simp only [List.cons_append, List.nil_append, List.mem_cons, List.not_mem_nil, or_false] at hz
            rcases hz with rfl | rfl | rfl | rfl | rfl | rfl <;> first | rfl | exact lowBd b | exact lowI _
        rintro ⟨sp, l'⟩ ⟨hs1, hs2, ho⟩
        dsimp only at hs1 hs2 ho ⊢
        have hl'1 : l'.length ≤ 12 := by rcases ho with ⟨rfl, _⟩ | ⟨x, rfl, _⟩ <;> (try rw [List.length_append, List.length_singleton]) <;> omega
        conv => whnf
        by_cases hlts : (sp : Int) ≤ (moB b i).ph
        · skip
          repeat' first | ((with_reducible apply XBr.dec) <;> (intro h; first | (exfalso; omega) | ((try simp only [List.length_map] at h); first | (exfalso; omega) | (conv => whnf)))) | fail
          refine Walk.loopGK tab_ok [] [(1, _), (2, _), (8, _), (9, _), (10, _)] ⟨rfl, rfl, rfl, rfl, rfl, trivial⟩ (fun q : Nat × List (Int × Int) => (moB b i).tl ≤ q.1 ∧ (q.1 : Int) ≤ (moB b i).th + 1 ∧ ((q.2 = l ∧ fF (stS b i a k sp) q.1 (moB b i).th = spS b i a k sp ∧ fF (spS b i a k) sp (moB b i).ph = F) ∨ ∃ x, q.2 = l ++ [x] ∧ F = some x)) (fun q => [(7, .gr 0 q.2.length), (11, natA q.1)]) (fun q => [.grow 69 q.2.isEmpty (chsA q.2), .cells (moC (moB b i))]) (fun q => ((moB b i).th + 1).toNat - q.1) ((moB b i).tl.toNat, l') ⟨by dsimp only; omega, by dsimp only; omega, ho.imp (fun h => ⟨h.1, rfl, h.2⟩) id⟩ rfl ⟨rfl, congrArg (fun z => some (AV.int .i64 z)) (show (moB b i).tl = (((moB b i).tl.toNat : Nat) : Int) by omega), trivial⟩ ?_ (fun _ _ => (show (2 : Nat) ≤ 2 from Nat.le_refl 2)) ?_
          · intro q _
            refine ⟨fun z hz => ?_, fun z hz => ?_⟩
            · simp only [List.mem_cons, List.not_mem_nil, or_false] at hz
              rcases hz with rfl | rfl <;> first | exact chs_low _ | rfl
            · simp only [List.cons_append, List.nil_append, List.mem_cons, List.not_mem_nil, or_false] at hz
              rcases hz with rfl | rfl | rfl | rfl | rfl | rfl | rfl <;> first | rfl | exact lowBd b | exact lowI _
          rintro ⟨st, l2⟩ ⟨ht1, ht2, ho2⟩
          dsimp only at ht1 ht2 ho2 ⊢
          conv => whnf
          by_cases hltt : (st : Int) ≤ (moB b i).th
          · have hg := refGross_c b (moB b i) a sp st hv1.1 (by omega) hmo.1 hmo.2.1 (by omega) (by omega) (by omega) (by omega) (by omega) (by omega)
            have hgb := grossR_le (room := b.room) (g := (moB b i).g) (a := a) (sp := sp) (st := st) (by omega) (by omega)
            have hst : stS b i a k sp st = if grossR b.room (moB b i).g a sp st - (moB b i).r == k then some ((sp : Int), (st : Int)) else none := rfl
            generalize grossR b.room (moB b i).g a sp st = v at hg hgb hst
            repeat' first | ((with_reducible apply XBr.dec) <;> (intro h; first | (exfalso; omega) | ((try simp only [List.length_map] at h); first | (exfalso; omega) | (conv => whnf)))) | fail
            rcases ho2 with ⟨rfl, hf1, hf2⟩ | ⟨x, rfl, hf⟩
            · have hbb : ((l2.length : Int) == (i : Int)) = true := by rw [hll]; exact beq_self_eq_true _
              have hsl : (chsA l2).length = l2.length := List.length_map _
              apply Walk.drawX tab_ok mixed_ok [] [] (hsK _) [_, _, _, .bool true, .bool true, _, _, _, _, _, _, _, _, _, _, _, _, _, _, _, _, _, _] (by kernel_rfl) rfl
              · skip
                repeat' first | ((first | (with_reducible apply XBr.tt) | (with_reducible refine XInt.i64 (by omega) (by omega) ?_)); conv => whnf) | ((with_reducible refine XHold.mk ?_ ?_); (first | omega | rfl | decide | exact ⟨rfl, by decide, rfl⟩ | exact wideI _ | exact widePr _ | exact wideSk _ | (unfold Room; constructor <;> ((try simp) <;> omega)) | exact ⟨rfl, by simp only [List.length_map], by unfold Room; constructor <;> ((try simp) <;> omega)⟩ | exact ⟨by omega, by omega, by unfold Room; constructor <;> ((try simp) <;> omega)⟩); conv => whnf) | ((first | ((with_reducible refine XIx.nat ?_ ?_ ?_); omega; (intro _; rfl)) | ((with_reducible refine XIx.map ?_ ?_ ?_ ?_); omega; omega; (intro _; rfl))); conv => whnf) | (with_reducible apply XAnd.mk) | ((first | (with_reducible apply Chk.go) | (with_reducible apply ChkA.go)); conv => whnf) | (exact XSame.mk rfl rfl) | (with_reducible exact trivial) | (exact XSame.mk (congrArg AV.bool hbb) rfl) | ((rw [ha]; refine XCall.ret hg ?_); conv => whnf) | fail
              · skip
                repeat' first | (with_reducible apply XAnd.mk) | ((first | (with_reducible apply ChkF.go) | (with_reducible apply ChkB.go)); conv => whnf) | (with_reducible exact trivial) | fail
              conv => whnf
              rw [hci]
              repeat' first | ((with_reducible apply XBr.beq) <;> (intro h; first | (exfalso; omega) | (conv => whnf))) | ((with_reducible refine XInt.i64 (by omega) (by omega) ?_); conv => whnf) | ((with_reducible refine XHold.mk ?_ ?_); (first | omega | rfl | decide | exact ⟨rfl, by decide, rfl⟩ | exact wideI _ | exact widePr _ | exact wideSk _ | (unfold Room; constructor <;> ((try simp) <;> omega)) | exact ⟨rfl, by simp only [List.length_map], by unfold Room; constructor <;> ((try simp) <;> omega)⟩ | exact ⟨by omega, by omega, by unfold Room; constructor <;> ((try simp) <;> omega)⟩); conv => whnf) | fail
              · have h' : (v - (moB b i).r == k) = true := by rw [beq_iff_eq]; exact h
                rw [if_pos h'] at hst
                have hx1 := fF_some (hi := (moB b i).th) hltt hst
                rw [hf1] at hx1
                have hx2 := fF_some (hi := (moB b i).ph) hlts hx1
                rw [hf2] at hx2
                refine XAgainG.go (st + 1, l2 ++ [((sp : Int), (st : Int))]) [.cells [natA sp, natA st]] ⟨by dsimp only; omega, by dsimp only; omega, .inr ⟨_, rfl, hx2⟩⟩ (by dsimp only; omega) ?_ ⟨rfl, rfl, rfl, rfl, rfl, ?_, rfl, trivial⟩
                · show [Blk.grow _ (l2 ++ [_]).isEmpty ((l2 ++ [_]).map prA), _] ++ _ = _
                  rw [isEmpty_app, List.map_append]; rfl
                · show some (AV.gr 0 (l2.length + 1)) = some (AV.gr 0 (l2 ++ [_]).length)
                  rw [List.length_append]; rfl
              · have h' : ¬ (v - (moB b i).r == k) = true := by rw [beq_iff_eq]; exact h
                rw [if_neg h'] at hst
                rw [fF_none hltt hst] at hf1
                exact XAgainG.go (st + 1, l2) [.cells [natA sp, natA st]] ⟨by dsimp only; omega, by dsimp only; omega, .inl ⟨rfl, hf1, hf2⟩⟩ (by dsimp only; omega) rfl ⟨rfl, rfl, rfl, rfl, rfl, rfl, rfl, trivial⟩
            · have hll2 : (l ++ [x]).length = i + 1 := by rw [List.length_append, hll]; rfl
              have hbb : (((l ++ [x]).length : Int) == (i : Int)) = false := by rw [hll2, beq_eq_false_iff_ne]; omega
              apply Walk.drawX tab_ok mixed_ok [] [] (hsK _) [_, _, _, .bool false, .bool false, _, _, _, _, _, _, _, _, _, _, _, _, _, _, _, _, _, _] (by kernel_rfl) rfl
              · skip
                repeat' first | ((with_reducible apply XBr.ff); conv => whnf) | (with_reducible apply XAnd.mk) | ((first | (with_reducible apply Chk.go) | (with_reducible apply ChkA.go)); conv => whnf) | (exact XSame.mk rfl rfl) | (with_reducible exact trivial) | ((refine XHold.mk (List.length_map _) ?_); conv => whnf) | (exact XSame.mk (congrArg AV.bool hbb) rfl) | fail
              · skip
                repeat' first | (with_reducible apply XAnd.mk) | ((first | (with_reducible apply ChkF.go) | (with_reducible apply ChkB.go)); conv => whnf) | (with_reducible exact trivial) | fail
              conv => whnf
              repeat' first | ((first | (with_reducible apply XBr.ff) | (with_reducible refine XInt.i64 (by omega) (by omega) ?_)); conv => whnf) | fail
              exact XAgainG.go (st + 1, l ++ [x]) [.cells [natA sp, natA st]] ⟨by dsimp only; omega, by dsimp only; omega, .inr ⟨x, rfl, hf⟩⟩ (by dsimp only; omega) rfl ⟨rfl, rfl, rfl, rfl, rfl, rfl, rfl, trivial⟩
          · skip
            repeat' first | ((with_reducible apply XBr.dec) <;> (intro h; first | (exfalso; omega) | ((try simp only [List.length_map] at h); first | (exfalso; omega) | (conv => whnf)))) | ((with_reducible refine XInt.i64 (by omega) (by omega) ?_); conv => whnf) | fail
            refine XAgainG.go (sp + 1, l2) [] ⟨by dsimp only; omega, by dsimp only; omega, ?_⟩ (by dsimp only; omega) rfl ⟨rfl, rfl, rfl, rfl, rfl, rfl, trivial⟩
            rcases ho2 with ⟨rfl, hf1, hf2⟩ | ho2
            · rw [fF_end (by omega)] at hf1
              rw [fF_none hlts hf1.symm] at hf2
              exact .inl ⟨rfl, hf2⟩
            · exact .inr ho2
        · rcases ho with ⟨rfl, hf⟩ | ⟨x, rfl, hf⟩
          · rw [fF_end (by omega)] at hf
            rw [← hf] at hkn
            have hd := chK_fail hkn (b.months.length - (i + 1))
            rw [show i + 1 + (b.months.length - (i + 1)) = b.months.length by omega] at hd
            rw [hd]
            repeat' first | ((with_reducible apply XBr.dec) <;> (intro h; first | (exfalso; omega) | ((try simp only [List.length_map] at h); first | (exfalso; omega) | (conv => whnf)))) | ((with_reducible apply XBr.beq) <;> (intro h; first | (exfalso; omega) | (conv => whnf))) | ((refine XHold.mk (List.length_map _) ?_); conv => whnf) | fail
            exact ⟨.low rfl⟩
          · rw [hf] at hkn
            have hll2 : (l ++ [x]).length = i + 1 := by rw [List.length_append, hll]; rfl
            repeat' first | ((with_reducible apply XBr.dec) <;> (intro h; first | (exfalso; omega) | ((try simp only [List.length_map] at h); first | (exfalso; omega) | (conv => whnf)))) | ((with_reducible apply XBr.beq) <;> (intro h; first | (exfalso; omega) | (conv => whnf))) | ((first | (with_reducible refine XInt.i64 (by omega) (by omega) ?_) | (refine XHold.mk (List.length_map _) ?_)); conv => whnf) | fail
            exact XAgainG.go (i + 1, l ++ [x]) [.cells (moC (moB b i))] ⟨by dsimp only; omega, hkn⟩ (by dsimp only; omega) rfl ⟨rfl, rfl, rfl, rfl, trivial⟩
      · obtain rfl : i = b.months.length := by omega
        rw [hk]
        repeat' first | ((with_reducible apply XBr.dec) <;> (intro h; first | (exfalso; omega) | ((try simp only [List.length_map] at h); first | (exfalso; omega) | (conv => whnf)))) | fail
        have hsl : (chsA l).length = l.length := List.length_map _
        exact ⟨Froz.tup (.cons (Froz.grow rfl hsl (chs_low _)) (.cons (.low rfl) .nil))⟩
  · rw [if_pos hE]
    generalize courE b c = e at hco hE
    refine Comp.body (T := tab) (res := [.tmp 4, .tmp 5]) tab_ok [] Try.func59 rfl (by kernel_rfl) Try.ntmps59 rfl (by simp only [List.length_cons, List.length_nil]; decide) (by simp only [lowL, bedL, AV.low, lowI]; rfl) ?_; conv => whnf
    repeat' first | ((with_reducible apply XBr.bne) <;> (intro h; first | (exfalso; omega) | (conv => whnf))) | ((refine XCall.ret hco ?_); conv => whnf) | fail
    exact ⟨.low rfl⟩
end GA
end

section
namespace GA
open Go Go.RowKit Go.Proofs
set_option pp.deepTerms true
set_option maxRecDepth 8000
set_option linter.unusedVariables false
set_option linter.unusedSimpArgs false

theorem refAgrees_c (b : Bd) (nl : Bool) (c : List Int) (h1 : b.months.length ≤ 100000) (h2 : b.surveys.length ≤ 100000) (h3 : c.length ≤ 100000) : Comp Try.prog 57 [bedA b, .sl nl (ints c)] (agreesA b c) := by
  have hco := refCoursed_c b nl c h1 h2 h3
  have hch := refChances_c b nl c h1 h2 h3
  unfold chancesA at hch
  unfold agreesA
  by_cases hE : courE b c = 0
  · obtain ⟨ok, hl, hb⟩ := courE_iff.1 hE
    have m1 := ok.m1
    have m2 := ok.m2
    have e2 : ((ints c).length : Int) = b.months.length + 1 := by rw [ints_len]; omega
    rw [hE] at hco
    rw [if_neg (fun h => h hE)] at hch ⊢
    unfold agrB
    cases hr : chR b c with
    | none =>
      rw [hr] at hch
      refine Comp.body (T := tab) (res := [.tmp 4, .tmp 5]) tab_ok [] Try.func57 rfl (by kernel_rfl) Try.ntmps57 rfl (by simp only [List.length_cons, List.length_nil]; decide) (by simp only [lowL, bedL, AV.low, lowI]; rfl) ?_; conv => whnf
      repeat' first | ((with_reducible apply XBr.bne) <;> (intro h; first | (exfalso; omega) | (conv => whnf))) | ((first | (refine XCall.ret hco ?_) | (refine XCall.ret hch ?_)); conv => whnf) | fail
      exact ⟨.low rfl⟩
    | some l =>
      rw [hr] at hch
      show Comp _ _ _ (.tup [.bool (true && _), _])
      rw [Bool.true_and]
      have hcn := counts_c b true h2
      refine Comp.body (T := tab) (res := [.tmp 4, .tmp 5]) tab_ok [] Try.func57 rfl (by kernel_rfl) Try.ntmps57 rfl (by simp only [List.length_cons, List.length_nil]; decide) (by simp only [lowL, bedL, AV.low, lowI]; rfl) ?_; conv => whnf
      repeat' first | ((with_reducible apply XBr.bne) <;> (intro h; first | (exfalso; omega) | (conv => whnf))) | ((first | (refine XCall.ret hco ?_) | (refine XCall.ret hch ?_)); conv => whnf) | fail
      refine Walk.loopK tab_ok [] [(1, _), (2, _)] ⟨rfl, rfl, trivial⟩ (fun m : Nat => m ≤ b.months.length + 1 ∧ ∀ j, j < m → agB b alwP j (c.getD j default).toNat = true) (fun m => [(9, natA m)]) (fun _ => []) (fun m => b.months.length + 1 - m) 0 ⟨Nat.zero_le _, fun j hj => by omega⟩ rfl ⟨rfl, trivial⟩ ?_
      rintro m ⟨hm, hks⟩
      conv => whnf
      by_cases hlt : m < b.months.length + 1
      · have hv := hb (c.getD m default) (getD_mem (by omega))
        have hag := refAgrees1_c b false alwP m (c.getD m default).toNat h2
        have hvn : (((c.getD m default).toNat : Nat) : Int) = c.getD m default := by omega
        have hag' : Comp Try.prog 133 [bedA b, .sl false (bls b.surveys.length fun _ => true), natA m, .int .i64 (c.getD m default)] (.bool (agB b alwP m (c.getD m default).toNat)) := by rw [← hvn] at hag ⊢; exact hag
        have hgo : agB b alwP m (c.getD m default).toNat = true → ∀ j, j < m + 1 → agB b alwP j (c.getD j default).toNat = true := fun h => upto_next hks h
        have hno : agB b alwP m (c.getD m default).toNat = false → ((List.range (b.months.length + 1)).all fun m => agB b alwP m (c.getD m default).toNat) = false := fun h => by
          rw [List.all_eq_false]; exact ⟨m, List.mem_range.2 hlt, by rw [h]; simp⟩
        generalize agB b alwP m (c.getD m default).toNat = t at hag' hgo hno
        repeat' first | (with_reducible apply XBr.not) | ((with_reducible apply XBr.dec) <;> (intro h; first | (exfalso; omega) | ((try simp only [List.length_map] at h); first | (exfalso; omega) | (conv => whnf)))) | ((first | (with_reducible refine XInt.i64 (by omega) (by omega) ?_) | ((with_reducible refine XIx.nat ?_ ?_ ?_); omega; (intro _; rfl))); conv => whnf) | (with_reducible apply XAnd.mk) | ((first | (with_reducible apply Chk.go) | (with_reducible apply ChkA.go) | (with_reducible apply ChkF.go) | (with_reducible apply ChkB.go)); conv => whnf) | (exact XSame.mk rfl rfl) | (with_reducible exact trivial) | (apply Walk.drawN (id := 10) tab_ok mixed_ok [] [] (hsU _) [_, _, _, _, _, _, _, _, _, _] (by kernel_rfl) rfl) | ((first | (with_reducible apply XNext.mk) | (refine XCall.ret hcn ?_) | (refine XCall.ret hag' ?_)); conv => whnf) | ((with_reducible apply XBr.mk') <;> (intro h; conv => whnf)) | fail
        · exact XAgain.go (m + 1) ⟨by omega, hgo h⟩ (by omega) rfl ⟨rfl, rfl, rfl, trivial⟩
        · rw [hno h]; exact ⟨.low rfl⟩
      · obtain rfl : m = b.months.length + 1 := by omega
        repeat' first | ((with_reducible apply XBr.dec) <;> (intro h; first | (exfalso; omega) | ((try simp only [List.length_map] at h); first | (exfalso; omega) | (conv => whnf)))) | fail
        rw [List.all_eq_true.2 fun x hx => hks x (List.mem_range.1 hx)]; exact ⟨.low rfl⟩
  · rw [if_pos hE] at hch ⊢
    generalize courE b c = e at hco hch hE
    refine Comp.body (T := tab) (res := [.tmp 4, .tmp 5]) tab_ok [] Try.func57 rfl (by kernel_rfl) Try.ntmps57 rfl (by simp only [List.length_cons, List.length_nil]; decide) (by simp only [lowL, bedL, AV.low, lowI]; rfl) ?_; conv => whnf
    repeat' first | ((with_reducible apply XBr.bne) <;> (intro h; first | (exfalso; omega) | (conv => whnf))) | ((refine XCall.ret hco ?_); conv => whnf) | fail
    exact ⟨.low rfl⟩
set_option maxHeartbeats 2000000 in
theorem bedCourses_c (b : Bd) (nl : Bool) (c : List Int) (_hx : c.length < 9223372036854775808) : Comp Try.prog 10 [bedA b, .sl nl (ints c)] (.bool true) := by
  have hgr := great04_c b
  have e2 : ((ints c).length : Int) = c.length := by rw [ints_len]
  cases hg : great04 b
  case true =>
    refine Comp.body (T := tab) (res := [.tmp 4]) tab_ok [] Try.func10 rfl (by kernel_rfl) Try.ntmps10 rfl (by simp only [List.length_cons, List.length_nil]; decide) (by simp only [lowL, bedL, AV.low, lowI]; rfl) ?_; conv => whnf
    repeat' first | ((first | (with_reducible apply XBr.tt) | ((refine XCall.ret hgr ?_); rw [hg]) | (refine XCall.ret awake04_c ?_)); conv => whnf) | fail
    exact ⟨.low rfl⟩
  by_cases hp14 : 14 < c.length
  · refine Comp.body (T := tab) (res := [.tmp 4]) tab_ok [] Try.func10 rfl (by kernel_rfl) Try.ntmps10 rfl (by simp only [List.length_cons, List.length_nil]; decide) (by simp only [lowL, bedL, AV.low, lowI]; rfl) ?_; conv => whnf
    repeat' first | ((with_reducible apply XBr.ff); conv => whnf) | ((with_reducible apply XBr.dec) <;> (intro h; first | (exfalso; omega) | ((try simp only [List.length_map] at h); first | (exfalso; omega) | (conv => whnf)))) | ((first | ((refine XCall.ret hgr ?_); rw [hg]) | (refine XCall.ret awake04_c ?_)); conv => whnf) | fail
    exact ⟨.low rfl⟩
  obtain ⟨g1, g2⟩ := great_iff.1 hg
  have hs1 : (ownB b).months.length ≤ 100000 := show b.months.length ≤ 100000 by omega
  have hs2 : (ownB b).surveys.length ≤ 100000 := show b.surveys.length ≤ 100000 by omega
  have how := own04_c b (by omega) (by omega)
  have hth := theirs04_c b (by omega) (by omega)
  have hdu := dupC nl c (by omega)
  have hag := agrees_all_c (ownB b) false c hs1 hs2 (by omega)
  have hra := refAgrees_c (thB b) nl c hs1 hs2 (by omega)
  have hch := chances_all_c (ownB b) false c hs1 hs2 (by omega)
  have hrc := refChances_c (thB b) nl c hs1 hs2 (by omega)
  have hkk : ∀ k, chK (ownB b) c k = chK b c k ∧ chK (thB b) c k = chK b c k := fun k => by
    induction k with
    | zero => exact ⟨rfl, rfl⟩
    | succ k ih => rw [chK, chK, chK, ih.1, ih.2]; exact ⟨rfl, rfl⟩
  have hR1 : chR (ownB b) c = chR b c := by unfold chR; rw [(hkk _).1]; rfl
  have hR2 : chR (thB b) c = chR b c := by unfold chR; rw [(hkk _).2]; rfl
  have hA1 : agreesA (ownB b) c = agreesA b c := by unfold agreesA agrB; rw [hR1]; rfl
  have hA2 : agreesA (thB b) c = agreesA b c := by unfold agreesA agrB; rw [hR2]; rfl
  have hC1 : chancesA (ownB b) c = chancesA b c := by unfold chancesA; rw [hR1]; rfl
  have hC2 : chancesA (thB b) c = chancesA b c := by unfold chancesA; rw [hR2]; rfl
  rw [hA1] at hag
  rw [hA2] at hra
  rw [hC1] at hch
  rw [hC2] at hrc
  have hsa := same04_c b (by omega) (by omega)
  have heq := eq_int false nl c c (by omega)
  rw [beq_self_eq_true] at heq
  have hta : ∃ r e, agreesA b c = .tup [.bool r, .int .i64 e] := by
    unfold agreesA
    split <;> exact ⟨_, _, rfl⟩
  obtain ⟨r, e, hta⟩ := hta
  have htc : ∃ nl' l e, chancesA b c = .tup [.sl nl' (chsA l), .int .i64 e] ∧ l.length ≤ 100000 := by
    unfold chancesA
    split
    · exact ⟨true, [], _, rfl, by simp⟩
    · split
      · exact ⟨true, [], _, rfl, by simp⟩
      · rename_i l hl
        refine ⟨_, l, _, rfl, ?_⟩
        unfold chR at hl
        split at hl
        · have := chK_len hl; omega
        · cases hl
  obtain ⟨nl', l, e', htc, hll⟩ := htc
  rw [hta] at hag hra
  rw [htc] at hch hrc
  have hbb : (r != r) = false := by simp
  have hcd := fun nn => chanced_c nn l hll
  have heqc := fun n1 n2 => eq_rch n1 n2 l hll
  refine Comp.body (T := tab) (res := [.tmp 4]) tab_ok [] Try.func10 rfl (by kernel_rfl) Try.ntmps10 rfl (by simp only [List.length_cons, List.length_nil]; decide) (by simp only [lowL, bedL, AV.low, lowI]; rfl) ?_; conv => whnf
  repeat' first | ((with_reducible apply XBr.ff); conv => whnf) | ((with_reducible apply XBr.dec) <;> (intro h; first | (exfalso; omega) | ((try simp only [List.length_map] at h); first | (exfalso; omega) | (conv => whnf)))) | (((refine XCall.ret hgr ?_); rw [hg]); conv => whnf) | fail
  refine Walk.place (Walk.place ?_)
  apply Walk.drawX tab_ok mixed_ok [] [6, 7, 8, 10] (fun fl => match fl with
    | [a, b', x, y] => [(bif a then .cells (bif x then bedC (ownB b) else bzero) else .free), (bif b' then .cells (bif y then bedC (thB b) else bzero) else .free)]
    | _ => []) [_, _, _, _, _, _, .ptr 0 0, .ptr 1 0, _, _, _] (by kernel_rfl) rfl
  · skip
    repeat' first | (with_reducible apply XAnd.mk) | ((first | (with_reducible apply Chk.go) | (with_reducible apply ChkA.go)); conv => whnf) | (exact XSame.mk rfl rfl) | (with_reducible exact trivial) | ((first | (refine XCall.ret how ?_) | (refine XCall.ret hth ?_) | (refine XCall.ret hdu ?_)); conv => whnf) | (first | ((refine XFree.at 0 rfl ?_); (conv => whnf); exact XSame.mk rfl rfl) | ((refine XFree.at 1 rfl ?_); (conv => whnf); exact XSame.mk rfl rfl)) | fail
  · skip
    repeat' first | (with_reducible apply XAnd.mk) | ((first | (with_reducible apply Chk.go) | (with_reducible apply ChkF.go) | (with_reducible apply ChkB.go)); conv => whnf) | (exact XSame.mk rfl rfl) | (with_reducible exact trivial) | ((first | (refine XCall.ret how ?_) | (refine XCall.ret hth ?_) | (refine XCall.ret hdu ?_)); conv => whnf) | (first | ((refine XFree.at 0 rfl ?_); (conv => whnf); exact XSame.mk rfl rfl) | ((refine XFree.at 1 rfl ?_); (conv => whnf); exact XSame.mk rfl rfl)) | fail
  conv => whnf
  repeat' first | ((first | (with_reducible apply XBr.tt) | (with_reducible apply XBr.ff)); conv => whnf) | ((with_reducible apply XBr.beq) <;> (intro h; first | (exfalso; omega) | (conv => whnf))) | ((with_reducible apply XBr.bne) <;> (intro h; first | (exfalso; omega) | (conv => whnf))) | ((first | (refine XCall.ret hag ?_) | (refine XCall.ret hra ?_) | (refine XCall.ret hch ?_) | (refine XCall.ret hrc ?_) | (with_reducible refine XBr.no hbb ?_) | (refine XCall.ret (hcd _) ?_) | (refine XCall.ret (heqc _ _) ?_) | (refine XCall.ret hsa ?_) | (refine XCall.ret heq ?_) | (refine XCall.ret awake04_c ?_)); conv => whnf) | fail
  all_goals first | exact ⟨.low rfl⟩ | (exfalso; simp at h; done)
end GA
end
