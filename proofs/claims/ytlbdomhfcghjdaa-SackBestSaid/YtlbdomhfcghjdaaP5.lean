/- Part 5 of a proof: S20, S21, S23, S25, S28, S53, S36, S37, S38, S30b, Abs32, S39, S44, S45, S46, S47, S48, S49, S51, S60, Abs34, AbsS, Abs35, S66. -/
import Derived.Test.YtlbdomhfcghjdaaP4
import Derived.Test.YtlbdomhfcghjdaaRows
section
namespace GA
open Go Go.RowKit Go.Proofs
set_option pp.deepTerms true
set_option maxRecDepth 8000
set_option linter.unusedVariables false
set_option linter.unusedSimpArgs false

def five : Ld := ⟨50, 10, false, [⟨30, 0⟩, ⟨20, 1⟩, ⟨25, 0⟩, ⟨20, 2⟩, ⟨10, 1⟩], true, [], true, []⟩
def fiveP : Ld := { five with nla := false, apart := [(0, 2)], nlw := false, wth := [(1, 3)] }
def fivePr : Pr := ⟨50, false, [27, 18, 23, 18, 9]⟩
theorem five_ok : checkR five = 0 ∧ checkR fiveP = 0 := by decide +kernel
theorem five_many : manyD (openD five) = 2 := by decide +kernel
theorem five_out : (loadI (openD five) 2 2).out = [0, 0, 1, 1, 1] := by decide +kernel
theorem fiveP_many : manyD (openD fiveP) = 3 := by decide +kernel
theorem fiveP_out : (loadI (openD fiveP) 3 3).out = [0, 1, 2, 1, 0] := by decide +kernel
theorem five_pr : priceE five fivePr = 0 ∧ fairB (openD five) fivePr = true ∧ (fivePr.ps.sum + fivePr.unit - 1) / fivePr.unit = 2 := by decide +kernel
theorem five_share : shareE five 10 = 0 ∧ shareI (partsR five) 10 = [5, 3, 2, 0, 0, 0] := by decide +kernel
theorem five_riddle : riddledR [12, 20, 19, 25] 20 = 0 ∧ keptL [12, 20, 19, 25] 20 = [20, 25] := by decide +kernel
theorem five_w : LdW five := ⟨fun _ => rfl, by decide, by decide, by decide⟩
theorem fiveP_w : LdW fiveP := ⟨(fun h => by cases h), by decide, by decide, by decide⟩
theorem five_c : Comp Try.prog 82 [] (ldA five) := by
  refine Comp.body' (T := tab) (res := [.cell 0 26]) tab_ok [] Try.func82 rfl (by kernel_rfl) Try.ntmps82 rfl (by simp only [List.length_cons, List.length_nil]; decide) (by rfl) ?_; conv => whnf
  repeat' first | ((with_reducible refine XHold.mk ?_ ?_); (first | omega | rfl | decide | exact ⟨rfl, by decide, rfl⟩ | exact wideI _ | exact widePr _ | exact wideSk _ | (unfold Room; constructor <;> ((try simp) <;> omega)) | exact ⟨rfl, by simp only [List.length_map], by unfold Room; constructor <;> ((try simp) <;> omega)⟩ | exact ⟨by omega, by omega, by unfold Room; constructor <;> ((try simp) <;> omega)⟩); conv => whnf)
  exact ⟨Froz.low rfl⟩
theorem five_fewest : fewestR five = .tup [.sl false (ints [0, 0, 1, 1, 1]), .int .i64 2, .int .i64 0] := by
  unfold fewestR; rw [if_pos five_ok.1]; unfold fewestD; rw [five_many, if_neg (by decide), five_out]; rfl
theorem fiveP_fewest : fewestR fiveP = .tup [.sl false (ints [0, 1, 2, 1, 0]), .int .i64 3, .int .i64 0] := by
  unfold fewestR; rw [if_pos five_ok.2]; unfold fewestD; rw [fiveP_many, if_neg (by decide), fiveP_out]; rfl
theorem five_proves : provesR five fivePr = .tup [.int .i64 2, .int .i64 0] := by
  unfold provesR; rw [if_pos five_ok.1, if_pos five_pr.1, if_pos five_pr.2.1, five_pr.2.2]
theorem five_shareR : shareR five 10 = .tup [.sl false (ints [5, 3, 2, 0, 0, 0]), .int .i64 0] := by
  unfold shareR; rw [if_pos five_share.1, show (10 : Int).toNat = 10 from rfl, five_share.2]
theorem five_riddleR : riddleR [12, 20, 19, 25] 20 = .tup [.sl false (ints [20, 25]), slA (thruL [12, 20, 19, 25] 20), .int .i64 0] := by
  unfold riddleR; rw [if_pos five_riddle.1]; unfold riddleA; rw [five_riddle.2]; rfl
theorem cFive : Comp Try.prog 18 [ldA five] (.tup [.sl false (ints [0, 0, 1, 1, 1]), .int .i64 2, .int .i64 0]) := five_fewest ▸ fewest_c five five_w.w five_w.h1 five_w.h2 five_w.h3
theorem cFiveP : Comp Try.prog 18 [ldA fiveP] (.tup [.sl false (ints [0, 1, 2, 1, 0]), .int .i64 3, .int .i64 0]) := fiveP_fewest ▸ fewest_c fiveP fiveP_w.w fiveP_w.h1 fiveP_w.h2 fiveP_w.h3
theorem cRid : Comp Try.prog 27 [.sl false (ints [12, 20, 19, 25]), .int .i64 20] (.tup [.sl false (ints [20, 25]), slA (thruL [12, 20, 19, 25] 20), .int .i64 0]) := five_riddleR ▸ riddle_c false [12, 20, 19, 25] 20 (by decide)
theorem cShare : Comp Try.prog 33 [ldA five, .int .i64 10] (.tup [.sl false (ints [5, 3, 2, 0, 0, 0]), .int .i64 0]) := five_shareR ▸ share_c five 10 five_w
theorem cProves : Comp Try.prog 25 [ldA five, pcA fivePr] (.tup [.int .i64 2, .int .i64 0]) := five_proves ▸ proves_c five fivePr five_w (by decide)
theorem cEq (xs : List Int) (h : xs.length ≤ 100000) : Comp Try.prog 30 [.sl false (ints xs), .sl false (ints xs)] (.bool true) := by
  have := eq_int false false xs xs h
  rwa [show (xs == xs) = true from beq_self_eq_true xs] at this
theorem cEq1 : Comp Try.prog 30 [.sl false (ints [0, 0, 1, 1, 1]), .sl false [.int .i64 0, .int .i64 0, .int .i64 1, .int .i64 1, .int .i64 1]] (.bool true) := cEq [0, 0, 1, 1, 1] (by decide)
theorem cEq2 : Comp Try.prog 30 [.sl false (ints [20, 25]), .sl false [.int .i64 20, .int .i64 25]] (.bool true) := cEq [20, 25] (by decide)
theorem cEq3 : Comp Try.prog 30 [.sl false (ints [5, 3, 2, 0, 0, 0]), .sl false [.int .i64 5, .int .i64 3, .int .i64 2, .int .i64 0, .int .i64 0, .int .i64 0]] (.bool true) := cEq [5, 3, 2, 0, 0, 0] (by decide)
theorem cEq4 : Comp Try.prog 30 [.sl false (ints [0, 1, 2, 1, 0]), .sl false [.int .i64 0, .int .i64 1, .int .i64 2, .int .i64 1, .int .i64 0]] (.bool true) := cEq [0, 1, 2, 1, 0] (by decide)
theorem awake_c : Comp Try.prog 19 [] (.bool true) := by
  refine Comp.body' (T := tab) (res := [.tmp 0]) tab_ok [] Try.func19 rfl (by kernel_rfl) Try.ntmps19 rfl (by simp only [List.length_cons, List.length_nil]; decide) (by rfl) ?_; conv => whnf
  refine XCall.ret five_c ?_
  conv => whnf
  refine XCall.ret cFive ?_
  conv => whnf
  repeat' first | ((with_reducible refine XHold.mk ?_ ?_); (first | omega | rfl | decide | exact ⟨rfl, by decide, rfl⟩ | exact wideI _ | exact widePr _ | exact wideSk _ | (unfold Room; constructor <;> ((try simp) <;> omega)) | exact ⟨rfl, by simp only [List.length_map], by unfold Room; constructor <;> ((try simp) <;> omega)⟩ | exact ⟨by omega, by omega, by unfold Room; constructor <;> ((try simp) <;> omega)⟩); conv => whnf)
  refine XCall.ret cRid ?_
  conv => whnf
  refine XCall.ret five_c ?_
  conv => whnf
  refine XCall.ret cShare ?_
  conv => whnf
  refine XCall.ret five_c ?_
  conv => whnf
  repeat' first | ((with_reducible refine XHold.mk ?_ ?_); (first | omega | rfl | decide | exact ⟨rfl, by decide, rfl⟩ | exact wideI _ | exact widePr _ | exact wideSk _ | (unfold Room; constructor <;> ((try simp) <;> omega)) | exact ⟨rfl, by simp only [List.length_map], by unfold Room; constructor <;> ((try simp) <;> omega)⟩ | exact ⟨by omega, by omega, by unfold Room; constructor <;> ((try simp) <;> omega)⟩); conv => whnf)
  refine XCall.ret cFiveP ?_
  conv => whnf
  refine XCall.ret five_c ?_
  conv => whnf
  repeat' first | ((with_reducible refine XHold.mk ?_ ?_); (first | omega | rfl | decide | exact ⟨rfl, by decide, rfl⟩ | exact wideI _ | exact widePr _ | exact wideSk _ | (unfold Room; constructor <;> ((try simp) <;> omega)) | exact ⟨rfl, by simp only [List.length_map], by unfold Room; constructor <;> ((try simp) <;> omega)⟩ | exact ⟨by omega, by omega, by unfold Room; constructor <;> ((try simp) <;> omega)⟩); conv => whnf)
  refine XCall.ret cProves ?_
  conv => whnf
  refine Walk.norm tab_ok [] [(3, .int .i64 0), (6, .int .i64 0), (8, .int .i64 0), (12, .int .i64 0), (14, .int .i64 0), (1, .sl false (ints [0, 0, 1, 1, 1])), (2, .int .i64 2), (4, .sl false (ints [20, 25])), (7, .sl false (ints [5, 3, 2, 0, 0, 0])), (10, .sl false (ints [0, 1, 2, 1, 0])), (11, .int .i64 3), (13, .int .i64 2)] ⟨rfl, rfl, rfl, rfl, rfl, rfl, rfl, rfl, rfl, rfl, rfl, rfl, trivial⟩ ?_
  conv => whnf
  repeat' first | ((with_reducible apply XBr.tt); conv => whnf) | ((with_reducible apply XBr.beq) <;> (intro h; first | (exfalso; omega) | (conv => whnf))) | ((with_reducible refine XHold.mk ?_ ?_); (first | omega | rfl | decide | exact ⟨rfl, by decide, rfl⟩ | exact wideI _ | exact widePr _ | exact wideSk _ | (unfold Room; constructor <;> ((try simp) <;> omega)) | exact ⟨rfl, by simp only [List.length_map], by unfold Room; constructor <;> ((try simp) <;> omega)⟩ | exact ⟨by omega, by omega, by unfold Room; constructor <;> ((try simp) <;> omega)⟩); conv => whnf)
  refine XCall.ret cEq1 ?_
  conv => whnf
  repeat' first | ((with_reducible apply XBr.tt); conv => whnf) | ((with_reducible apply XBr.beq) <;> (intro h; first | (exfalso; omega) | (conv => whnf))) | ((with_reducible refine XHold.mk ?_ ?_); (first | omega | rfl | decide | exact ⟨rfl, by decide, rfl⟩ | exact wideI _ | exact widePr _ | exact wideSk _ | (unfold Room; constructor <;> ((try simp) <;> omega)) | exact ⟨rfl, by simp only [List.length_map], by unfold Room; constructor <;> ((try simp) <;> omega)⟩ | exact ⟨by omega, by omega, by unfold Room; constructor <;> ((try simp) <;> omega)⟩); conv => whnf)
  refine XCall.ret cEq2 ?_
  conv => whnf
  repeat' first | ((with_reducible apply XBr.tt); conv => whnf) | ((with_reducible refine XHold.mk ?_ ?_); (first | omega | rfl | decide | exact ⟨rfl, by decide, rfl⟩ | exact wideI _ | exact widePr _ | exact wideSk _ | (unfold Room; constructor <;> ((try simp) <;> omega)) | exact ⟨rfl, by simp only [List.length_map], by unfold Room; constructor <;> ((try simp) <;> omega)⟩ | exact ⟨by omega, by omega, by unfold Room; constructor <;> ((try simp) <;> omega)⟩); conv => whnf)
  refine XCall.ret cEq3 ?_
  conv => whnf
  repeat' first | ((with_reducible apply XBr.tt); conv => whnf) | ((with_reducible refine XHold.mk ?_ ?_); (first | omega | rfl | decide | exact ⟨rfl, by decide, rfl⟩ | exact wideI _ | exact widePr _ | exact wideSk _ | (unfold Room; constructor <;> ((try simp) <;> omega)) | exact ⟨rfl, by simp only [List.length_map], by unfold Room; constructor <;> ((try simp) <;> omega)⟩ | exact ⟨by omega, by omega, by unfold Room; constructor <;> ((try simp) <;> omega)⟩); conv => whnf)
  refine XCall.ret cEq4 ?_
  conv => whnf
  repeat' first | ((with_reducible apply XBr.tt); conv => whnf) | ((with_reducible apply XBr.beq) <;> (intro h; first | (exfalso; omega) | (conv => whnf)))
  exact ⟨Froz.low rfl⟩
end GA
end

section
namespace GA
open Go Go.RowKit Go.Proofs
set_option pp.deepTerms true
set_option maxRecDepth 8000
set_option linter.unusedVariables false
set_option linter.unusedSimpArgs false

theorem off_in (n lo hi : Int) : offB n lo hi = !inB n lo hi := by
  unfold offB inB; rw [Bool.eq_iff_iff]; simp <;> omega
end GA
end

section
namespace GA
open Go Go.RowKit Go.Proofs
set_option pp.deepTerms true
set_option maxRecDepth 8000
set_option linter.unusedVariables false

abbrev bytes (xs : List Int) : List AV := xs.map (.int .u8)
theorem lowBy {n : Nat} (xs : List Int) : lowL n (bytes xs) = true := lowL_map (fun _ => rfl) xs
structure Hp where
  nl : Bool
  bs : List Int
  nx : Nat
  rd : Int
  deriving Inhabited
def hpC (h : Hp) : Blk := .cells [.sl h.nl (bytes h.bs), .int .i64 h.nx, .int .u32 h.rd]
structure Hp.Ok (h : Hp) : Prop where
  l : h.bs.length < 9223372036854775808
  n : h.nx < h.bs.length ∨ h.nx = 0
theorem hpC_low {n : Nat} (h : Hp) : (hpC h).low n = true := by simp only [hpC, Blk.low, lowL, AV.low, lowBy]; rfl
theorem hpC_ren (f : Nat → Nat) (h : Hp) : (hpC h).ren f = hpC h := Blk.ren_low (n := 0) (fun i hi => by omega) (hpC_low h)

theorem XInt.w {q : IntKind} {x : Int} {k : AV → Prop} (h : k (.int q (q.wrap x))) : XInt q x k := ⟨h⟩

def HpOk (f : FuncId) (qs : List AV) (h : Hp) (r : AV) (h' : Hp) : Prop :=
  lowL 0 qs = true ∧ ACall Try.prog f (.ptr 0 0 :: qs) [hpC h] fun r' H' => r' = r ∧ H' = [hpC h']
theorem XCall.hp {f : FuncId} {qs : List AV} {h h' : Hp} {r : AV} (x : HpOk f qs h r h') (hr : r.low 0 = true) {H : List Blk} {k : AV → List Blk → Prop} {j : Nat} (h0 : lget H j = some (hpC h))
    (hk : k r (H.set j (hpC h'))) : XCall Try.prog f (.ptr j 0 :: qs) H k := by
  constructor
  have e := ACall.frame (ρ := fun i => j + i) (H := H) (k := k) x.2 (fun a b _ _ h => by have : j + a = j + b := h; omega) ?_ (fun y hy => by simp at hy; subst hy; exact hpC_low h) ?_ ?_
  · have hd : renL (fun i => j + i) qs = qs := renL_low0 x.1
    rw [List.map_cons, ← renL_eq, hd] at e
    exact e
  · intro i x1 hi
    rw [lget_eq] at h0
    rcases i with _ | i
    · simp only [List.getElem?_cons_zero, Option.some.injEq] at hi; subst hi
      rw [hpC_ren]; exact h0
    · simp at hi
  · simp only [lowL, AV.low, lowL_mono (Nat.zero_le _) x.1]; rfl
  · rintro r1 H1' ⟨rfl, rfl⟩
    rw [lget_eq] at h0
    have hj := (List.getElem?_eq_some_iff.1 h0).1
    refine ⟨rfl, H.set j (hpC h'), by simp, fun i x1 hi => ?_, fun q hq => ?_, ?_⟩
    · rcases i with _ | i
      · simp only [List.getElem?_cons_zero, Option.some.injEq] at hi; subst hi
        rw [hpC_ren]; simp [hj]
      · simp at hi
    · exact List.getElem?_set_ne (by have := hq 0 (by simp); simpa using this)
    · rw [AV.ren_low (n := 0) (fun i hi => by omega) hr]; exact hk

end GA
end

section
namespace GA
open Go Go.RowKit Go.Proofs
set_option pp.deepTerms true
set_option maxRecDepth 8000
set_option linter.unusedVariables false
set_option linter.unusedSimpArgs false

structure Prs where
  ap : List (Int × Int)
  wt : List (Int × Int)
  u : Hp
theorem isEmpty_app {α : Type} (l : List α) (x : α) : (l ++ [x]).isEmpty = (l.isEmpty && false) := by cases l <;> rfl
end GA
end

section
namespace GA
open Go Go.RowKit Go.ChangeShapes Go.WideShapes Go.ChangeAt Go.Proofs Go.Proofs.Ytlbdomhfcghjdaa
set_option linter.unusedVariables false
set_option linter.unusedSimpArgs false

section
variable {P : Program} {w : World} {r : Reach} {base : Nat} {t : TypeId} {v : Value}
theorem okWide_has {k : IntKind} (ht : P.underlying t = some (.int k)) (h : Value.okWide P w r base t v) : ∃ n, v = .int k n ∧ k.min ≤ n ∧ n ≤ k.max := by
  obtain ⟨n, rfl⟩ := okWide_int ht h
  refine ⟨n, rfl, ?_⟩
  simp only [Value.okWide, ht, Cell.okWide] at h
  simp only [Cell.ok, ht, IntKind.has] at h
  exact h.2
end
theorem ownK : ownKnob Try.prog.godebug = none := by kernel_rfl
theorem oInt : Opens Try.prog 3 1 (fun a : {n : Int // IntKind.i64.min ≤ n ∧ n ≤ IntKind.i64.max} => [AV.int .i64 a.1]) := .int (by kernel_rfl) (by kernel_rfl)
end GA
end

section
namespace GA
open Go Go.RowKit Go.ChangeShapes Go.WideShapes Go.ChangeAt Go.Proofs Go.Proofs.Ytlbdomhfcghjdaa
set_option linter.unusedVariables false
set_option linter.unusedSimpArgs false
set_option maxRecDepth 8000

theorem rep_nil {P : Program} {h : Nat → Option Obj} {β : Nat → Value} {H : List Blk} {els : List AV} {v : Value} (x : Rep P h β H (.sl true els) v) : els = [] := by cases x; rfl
theorem i64_zero : IntKind.i64.min ≤ 0 ∧ (0 : Int) ≤ IntKind.i64.max := by decide
theorem oSack : Opens Try.prog 113 2 (fun s : Sk => (skA s).cells) :=
  (Opens.struct Try.underlying113 (by kernel_rfl) (.cons oInt rfl (.cons oInt rfl .nil))).as (fun p => ⟨⟨p.1.1, p.2.1.1⟩, rfl⟩) (fun _ => rfl)
theorem oSacks : Opens Try.prog 23 1 (fun p : Bool × List Sk => [AV.sl p.1 (p.2.map skA)]) :=
  Opens.slice (t := 23) (by kernel_rfl) (by kernel_rfl) oSack (by decide) skA (fun _ => rfl) |>.as (fun p => ⟨p.1, rfl⟩) (fun _ => rfl)
theorem oPair : Opens Try.prog 118 2 (fun s : Int × Int => (prA s).cells) :=
  (Opens.array (m := 2) (n := 1) Try.underlying118 (by kernel_rfl) rfl oInt).as (fun p => ⟨((p.1.getD 0 ⟨0, i64_zero⟩).1, (p.1.getD 1 ⟨0, i64_zero⟩).1), by
    obtain ⟨l, hl⟩ := p
    rcases l with _ | ⟨a, _ | ⟨b, _ | ⟨c, l⟩⟩⟩
    · simp at hl
    · simp at hl
    · simp [prA, AV.cells]
    · simp at hl⟩) (fun _ => rfl)
theorem oPairs : Opens Try.prog 24 1 (fun p : Bool × List (Int × Int) => [AV.sl p.1 (p.2.map prA)]) :=
  Opens.slice (t := 24) (by kernel_rfl) (by kernel_rfl) oPair (by decide) prA (fun _ => rfl) |>.as (fun p => ⟨p.1, rfl⟩) (fun _ => rfl)
theorem oLoad : Opens Try.prog 26 5 ldC :=
  (Opens.struct Try.underlying26 (by kernel_rfl) (.cons oInt rfl (.cons oInt rfl (.cons oSacks rfl (.cons oPairs rfl (.cons oPairs rfl .nil)))))).as
    (fun p => ⟨⟨p.1.1, p.2.1.1, p.2.2.1.1, p.2.2.1.2, p.2.2.2.1.1, p.2.2.2.1.2, p.2.2.2.2.1.1, p.2.2.2.2.1.2⟩, rfl⟩) (fun _ => rfl)
theorem ld_nil {P : Program} {h : Nat → Option Obj} {β : Nat → Value} {H : List Blk} {l : Ld} {v : Value} (x : Rep P h β H (.agg (ldC l)) v) : l.nla = true → l.apart = [] := by
  intro hn
  cases x with
  | agg us h1 h2 h3 h4 =>
    have := h4 3 _ rfl
    rw [hn] at this
    have := rep_nil this
    cases e : l.apart with
    | nil => rfl
    | cons a b => rw [e] at this; cases this
end GA
end

section
namespace GA
open Go Go.RowKit Go.Proofs
set_option maxRecDepth 8000
set_option linter.unusedVariables false
set_option linter.unusedSimpArgs false

theorem bit_ext {a b : Nat} (h : ∀ i, a.testBit i = b.testBit i) : a = b := Nat.eq_of_testBit_eq h
theorem Sub.refl (a : Nat) : Sub a a := fun _ h => h
theorem Sub.trans {a b c : Nat} (h : Sub a b) (k : Sub b c) : Sub a c := fun i x => k i (h i x)
theorem sub_half {a m : Nat} (h : Sub a m) : Sub (a / 2) (m / 2) := fun i x => by
  have := h (i + 1) (by rw [Nat.testBit_succ]; exact x)
  rwa [Nat.testBit_succ] at this
theorem sub_odd {a m : Nat} (h : Sub a m) : a % 2 ≤ m % 2 := by
  have := h 0
  simp only [Nat.testBit_zero, decide_eq_true_eq] at this
  omega
theorem and_half (a b : Nat) : (a &&& b) = 2 * ((a / 2) &&& (b / 2)) + ((a % 2) * (b % 2)) := by
  have h1 : (a &&& b) / 2 = (a / 2) &&& (b / 2) := Nat.and_div_two
  have h2 : (a &&& b) % 2 = (a % 2) * (b % 2) := by
    have e : (a &&& b).testBit 0 = (a.testBit 0 && b.testBit 0) := Nat.testBit_and ..
    simp only [Nat.testBit_zero] at e
    rcases Nat.mod_two_eq_zero_or_one a with ha | ha <;> rcases Nat.mod_two_eq_zero_or_one b with hb | hb <;> rcases Nat.mod_two_eq_zero_or_one (a &&& b) with hc | hc <;> simp [ha, hb, hc] at e ⊢
  omega
theorem sub_and {a m : Nat} (h : Sub a m) : a &&& m = a := bit_ext fun i => by
  rw [Nat.testBit_and]; cases e : a.testBit i
  · rfl
  · rw [h i e]; rfl
theorem sub_pred : ∀ (rest r m : Nat), Sub rest m → Sub r m → r < rest → r ≤ (rest - 1) &&& m := by
  intro rest
  induction rest using Nat.strongRecOn with
  | ind rest ih =>
    intro r m h1 h2 h3
    rw [and_half]
    have o2 := sub_odd h2
    rcases Nat.mod_two_eq_zero_or_one rest with hx | hx
    · have e1 : (rest - 1) / 2 = rest / 2 - 1 := by omega
      have e2 : (rest - 1) % 2 = 1 := by omega
      have := ih (rest / 2) (by omega) (r / 2) (m / 2) (sub_half h1) (sub_half h2) (by omega)
      rw [e1, e2]; omega
    · have e1 : (rest - 1) / 2 = rest / 2 := by omega
      have e2 : (rest - 1) % 2 = 0 := by omega
      rw [e1, e2, sub_and (sub_half h1)]; omega
theorem diff_and (a s l : Nat) : diff (a &&& s) l = a &&& diff s l := bit_ext fun i => by
  rw [diff_bit, Nat.testBit_and, Nat.testBit_and, diff_bit]; cases a.testBit i <;> cases s.testBit i <;> rfl
theorem sub_diff (s c : Nat) : Sub (diff s c) s := fun i h => by rw [diff_bit, Bool.and_eq_true] at h; exact h.1
theorem cartsF_all (d : Dk) (set : Nat) : ∀ (f rest : Nat), rest < f → Sub rest (diff set (lowb set)) → ∀ r, Sub r (diff set (lowb set)) → r ≤ rest → rightB d (r ||| lowb set) = true → r ||| lowb set ∈ cartsF d set f rest
  | 0, _, h, _, _, _, _, _ => absurd h (Nat.not_lt_zero _)
  | f + 1, rest, hf, hr, r, h1, h2, h3 => by
    rw [cartsF_succ, List.mem_append]
    by_cases he : r = rest
    · subst he; left; rw [if_pos h3]; exact List.mem_singleton.2 rfl
    · right
      rw [if_neg (by omega)]
      have e := sub_pred rest r _ hr h1 (by omega)
      rw [diff_and]
      have hle : (rest - 1) &&& diff set (lowb set) ≤ rest - 1 := Nat.and_le_left
      exact cartsF_all d set f _ (by omega) (fun i h => by rw [Nat.testBit_and, Bool.and_eq_true] at h; exact h.2) r h1 e h3
theorem lowb_one_all : ∀ s : Fin 512, s.val ≠ 0 → ∃ i : Fin 9, lowb s.val = 2 ^ i.val := by decide +kernel
theorem lowb_one {s : Nat} (h0 : s ≠ 0) (h : s < 512) : ∃ i, i < 9 ∧ lowb s = 2 ^ i := by
  obtain ⟨i, hi⟩ := lowb_one_all ⟨s, h⟩ h0
  exact ⟨i.val, i.isLt, hi⟩
theorem sub_pow {i c : Nat} : Sub (2 ^ i) c ↔ c.testBit i = true := by
  constructor
  · intro h; exact h i (by rw [Nat.testBit_two_pow_self])
  · intro h j hj; rw [Nat.testBit_two_pow, decide_eq_true_eq] at hj; subst hj; exact h
theorem carts_iff (d : Dk) {set c : Nat} (h9 : set < 512) : c ∈ cartsL d set ↔ Sub c set ∧ Sub (lowb set) c ∧ rightB d c = true := by
  refine ⟨carts_sub d, fun ⟨h1, h2, h3⟩ => ?_⟩
  have e : diff c (lowb set) ||| lowb set = c := bit_ext fun i => by
    rw [Nat.testBit_or, diff_bit]
    cases hc : c.testBit i
    · cases hl : (lowb set).testBit i
      · rfl
      · rw [h2 i hl] at hc; cases hc
    · cases hl : (lowb set).testBit i <;> rfl
  have hs : Sub (diff c (lowb set)) (diff set (lowb set)) := fun i h => by
    rw [diff_bit, Bool.and_eq_true] at h ⊢; exact ⟨h1 i h.1, h.2⟩
  have := cartsF_all d set 512 (diff set (lowb set)) (by have := diff_le set (lowb set); omega) (Sub.refl _) (diff c (lowb set)) hs hs.le (by rw [e]; exact h3)
  rw [e] at this; exact this

inductive Pk (R : Nat → Bool) : Nat → Nat → Prop
  | nil : Pk R 0 0
  | cons {n set : Nat} (c : Nat) (hr : R c = true) (hs : Sub c set) (h0 : c ≠ 0) (t : Pk R n (diff set c)) : Pk R (n + 1) set
theorem diff_diff (s a b : Nat) : diff (diff s a) b = diff (diff s b) a := bit_ext fun i => by
  simp only [diff_bit]; cases s.testBit i <;> cases a.testBit i <;> cases b.testBit i <;> rfl
theorem ne_zero_bit {c i : Nat} (h : c.testBit i = true) : c ≠ 0 := fun e => by rw [e, Nat.zero_testBit] at h; cases h
theorem Pk.first {R : Nat → Bool} {n set i : Nat} (h : Pk R n set) (hi : set.testBit i = true) : ∃ c k, n = k + 1 ∧ R c = true ∧ Sub c set ∧ c.testBit i = true ∧ Pk R k (diff set c) := by
  induction h with
  | nil => rw [Nat.zero_testBit] at hi; cases hi
  | @cons n set c hr hs h0 t ih =>
    cases hc : c.testBit i
    · obtain ⟨c', k, h1, h2, h3, h4, h5⟩ := ih (by rw [diff_bit, hi, hc]; rfl)
      subst h1
      refine ⟨c', k + 1, rfl, h2, h3.trans (sub_diff _ _), h4, .cons c hr (fun j hj => ?_) h0 (by rw [diff_diff]; exact h5)⟩
      rw [diff_bit, hs j hj]
      cases hc' : c'.testBit j
      · rfl
      · have := h3 j hc'; rw [diff_bit, hj, Bool.not_true, Bool.and_false] at this; cases this
    · exact ⟨c, n, rfl, hr, hs, hc, t⟩
theorem Pk.zero {R : Nat → Bool} {n : Nat} (h : Pk R n 0) : n = 0 := by
  cases h with
  | nil => rfl
  | cons c hr hs h0 t => exact absurd (Nat.le_zero.1 hs.le) h0
theorem Pk.none {R : Nat → Bool} {set : Nat} (h : Pk R 0 set) : set = 0 := by cases h; rfl
theorem Pk.mono {R R' : Nat → Bool} {n set : Nat} (h : Pk R n set) (hR : ∀ c, Sub c set → R c = true → R' c = true) : Pk R' n set := by
  induction h with
  | nil => exact .nil
  | cons c hr hs h0 t ih => exact .cons c (hR c hs hr) hs h0 (ih fun c' hc' => hR c' (hc'.trans (sub_diff _ _)))
structure IsOpt (R : Nat → Bool) (set v : Nat) : Prop where
  le : v ≤ 10
  lo : ∀ n, Pk R n set → v ≤ n
  is : v < 10 → Pk R v set
theorem IsOpt.eq {R : Nat → Bool} {set v v' : Nat} (h : IsOpt R set v) (h' : IsOpt R set v') : v = v' := by
  rcases Nat.lt_trichotomy v v' with hl | hl | hl
  · have := h'.lo v (h.is (by have := h'.le; omega)); omega
  · exact hl
  · have := h.lo v' (h'.is (by have := h.le; omega)); omega
def MemOk (R : Nat → Bool) (m : List (Int × Nat)) : Prop := ∀ (s : Nat) v, look (s : Int) m = some v → IsOpt R s v
theorem ofM_opt (d : Dk) : ∀ (f set : Nat) (m : List (Int × Nat)), set < f → set < 512 → MOk m → MemOk (rightB d) m → IsOpt (rightB d) set (ofM d f set m).1 ∧ MemOk (rightB d) (ofM d f set m).2
  | 0, _, _, h, _, _, _ => absurd h (Nat.not_lt_zero _)
  | f + 1, set, m, hf, h9, mo, me => by
    rw [ofM_succ]
    cases hl : look (set : Int) m with
    | some v => exact ⟨me set v hl, me⟩
    | none =>
      have h0 : set ≠ 0 := fun e => by subst e; rw [show ((0 : Nat) : Int) = 0 from rfl, mo.z] at hl; cases hl
      obtain ⟨i, _, hi⟩ := lowb_one h0 h9
      have hbit : set.testBit i = true := sub_pow.1 (hi ▸ lowb_sub set)
      have fold : ∀ (cs : List Nat) (p : Nat × List (Int × Nat)), (∀ c ∈ cs, c ∈ cartsL d set) → p.1 ≤ 10 → (p.1 < 10 → Pk (rightB d) p.1 set) → MOk p.2 → MemOk (rightB d) p.2 →
          ((cs.foldl (ofStep d f set) p).1 ≤ 10 ∧ ((cs.foldl (ofStep d f set) p).1 < 10 → Pk (rightB d) (cs.foldl (ofStep d f set) p).1 set) ∧ (cs.foldl (ofStep d f set) p).1 ≤ p.1 ∧ (∀ c ∈ cs, ∀ n, Pk (rightB d) n (diff set c) → (cs.foldl (ofStep d f set) p).1 ≤ n + 1)) ∧
          MemOk (rightB d) (cs.foldl (ofStep d f set) p).2 := by
        intro cs
        induction cs with
        | nil => intro p _ h1 h2 h3 h4; exact ⟨⟨h1, h2, Nat.le_refl _, by simp⟩, h4⟩
        | cons c cs ih =>
          intro p hc h1 h2 h3 h4
          rw [List.foldl_cons]
          have hm := hc c List.mem_cons_self
          obtain ⟨k1, k2, k3⟩ := carts_sub d hm
          obtain ⟨hlt, hc9⟩ := carts_lt d (by omega) h9 hm
          obtain ⟨g1, g2⟩ := ofM_opt d f (diff set c) p.2 (by omega) (by omega) h3 h4
          obtain ⟨g3, g4⟩ := ofM_ok d f (diff set c) p.2 h3
          obtain ⟨⟨a1, a2, a3, a4⟩, a5⟩ := ih (ofStep d f set p c) (fun x hx => hc x (List.mem_cons_of_mem _ hx)) (by simp only [ofStep]; omega) (fun hlt10 => by
            simp only [ofStep] at hlt10 ⊢
            rcases Nat.le_total p.1 ((ofM d f (diff set c) p.2).1 + 1) with hle | hle
            · rw [Nat.min_eq_left hle] at hlt10 ⊢; exact h2 hlt10
            · rw [Nat.min_eq_right hle] at hlt10 ⊢
              exact .cons c k3 k1 (ne_zero_bit (k2 i (by rw [hi, Nat.testBit_two_pow_self]))) (g1.is (by omega))) g4 g2
          refine ⟨⟨a1, a2, ?_, ?_⟩, a5⟩
          · exact Nat.le_trans a3 (Nat.min_le_left _ _)
          · intro x hx n hn
            rcases List.mem_cons.1 hx with rfl | hx
            · have := g1.lo n hn; have h5 := Nat.le_trans a3 (Nat.min_le_right _ _); omega
            · exact a4 x hx n hn
      obtain ⟨⟨a1, a2, _, a4⟩, a5⟩ := fold (cartsL d set) (10, m) (fun _ h => h) (Nat.le_refl 10) (fun h => absurd h (by simp)) mo me
      have hopt : IsOpt (rightB d) set ((cartsL d set).foldl (ofStep d f set) (10, m)).1 := ⟨a1, fun n hn => by
        obtain ⟨c, k, rfl, h1, h2, h3, h4⟩ := hn.first hbit
        exact a4 c ((carts_iff d h9).2 ⟨h2, hi ▸ sub_pow.2 h3, h1⟩) k h4, a2⟩
      refine ⟨hopt, fun s v e => ?_⟩
      rw [look_put] at e
      split at e
      · rename_i he; cases e; have : s = set := by omega
        subst this; exact hopt
      · exact a5 s v e
theorem memOk_zero (R : Nat → Bool) : MemOk R [(0, 0)] := fun s v h => by
  simp only [look] at h
  split at h
  · rename_i e; cases h; have : s = 0 := by omega
    subst this; exact ⟨by omega, fun _ _ => Nat.zero_le _, fun _ => .nil⟩
  · cases h
theorem many_opt (d : Dk) (h : d.l.sacks.length ≤ 9) : IsOpt (rightB d) (allD d) (manyD d) := by
  have hall : allD d < 512 := by have := pow9 h; unfold allD; omega
  exact (ofM_opt d 512 (allD d) _ hall hall MOk.zero (memOk_zero _)).1
end GA
end

section
namespace GA
open Go Go.RowKit Go.Proofs
set_option maxRecDepth 8000
set_option linter.unusedVariables false
set_option linter.unusedSimpArgs false

theorem bitsF_iff : ∀ (f i s : Nat), s < 2 ^ f → ∀ x : Int, x ∈ bitsF f i s ↔ ∃ j : Nat, x = ((i + j : Nat) : Int) ∧ s.testBit j = true
  | 0, i, s, h, x => by
    have : s = 0 := by simpa using h
    subst this
    simp [bitsF]
  | f + 1, i, s, h, x => by
    have ih := bitsF_iff f (i + 1) (s / 2) (by rw [Nat.pow_succ] at h; omega) x
    have hz : (∃ j : Nat, x = ((i + j : Nat) : Int) ∧ s.testBit j = true) ↔ (x = (i : Int) ∧ s % 2 = 1) ∨ ∃ j : Nat, x = ((i + 1 + j : Nat) : Int) ∧ (s / 2).testBit j = true := by
      constructor
      · rintro ⟨j, h1, h2⟩
        rcases j with _ | j
        · left; rw [Nat.testBit_zero, decide_eq_true_eq] at h2; exact ⟨by simpa using h1, h2⟩
        · right; rw [Nat.testBit_succ] at h2; exact ⟨j, by rw [h1]; congr 1; omega, h2⟩
      · rintro (⟨h1, h2⟩ | ⟨j, h1, h2⟩)
        · exact ⟨0, by simpa using h1, by rw [Nat.testBit_zero, decide_eq_true_eq]; exact h2⟩
        · exact ⟨j + 1, by rw [h1]; congr 1; omega, by rw [Nat.testBit_succ]; exact h2⟩
    rw [hz, ← ih]
    have e : bitsF (f + 1) i s = if s = 0 then [] else if s % 2 = 1 then (i : Int) :: bitsF f (i + 1) (s / 2) else bitsF f (i + 1) (s / 2) := rfl
    rw [e]
    split
    · rename_i h0; subst h0; rw [Nat.zero_div, bitsF_zero]; simp
    · split
      · rename_i h1; rw [List.mem_cons]; simp [h1]
      · rename_i h1; simp [h1]
theorem bits_iff {s : Nat} (h : s < 512) (x : Int) : x ∈ bits s ↔ ∃ j : Nat, x = (j : Int) ∧ s.testBit j = true := by
  have := bitsF_iff 62 0 s (by omega) x
  unfold bits
  simpa using this
theorem inSet_bit (set : Nat) (p : Int) : inSet set p = set.testBit p.toNat := by
  unfold inSet; rw [Nat.testBit_eq_decide_div_mod_eq]
  rcases Nat.mod_two_eq_zero_or_one (set / 2 ^ p.toNat) with h | h <;> rw [h] <;> rfl
theorem diff_zero {a b : Nat} : diff a b = 0 ↔ Sub a b := by
  constructor
  · intro h i hi
    cases hb : b.testBit i
    · have := diff_bit a b i; rw [h, hi, hb, Nat.zero_testBit] at this; cases this
    · rfl
  · intro h
    apply bit_ext; intro i
    rw [diff_bit, Nat.zero_testBit]
    cases ha : a.testBit i
    · rfl
    · rw [h i ha]; rfl
def allP (b : List Nat) (p : Int × Int) : Nat := b.getD p.1.toNat 0 ||| b.getD p.2.toNat 0
theorem joinStep_get (b : List Nat) (p : Int × Int) {i : Nat} (hi : i < b.length) : (joinStep b p).getD i 0 = if (allP b p).testBit i = true then b.getD i 0 ||| allP b p else b.getD i 0 := by
  have e : (allP b p).testBit i = decide ((b.getD p.1.toNat 0 ||| b.getD p.2.toNat 0) / 2 ^ i % 2 = 1) := Nat.testBit_eq_decide_div_mod_eq
  rw [e]
  unfold joinStep allP
  simp only [List.getD_eq_getElem?_getD, List.getElem?_mapIdx, List.getElem?_eq_getElem hi, Option.map_some, Option.getD_some, decide_eq_true_eq]
theorem joinStep_none (b : List Nat) (p : Int × Int) {i : Nat} (hi : ¬ i < b.length) : (joinStep b p).getD i 0 = 0 := by
  rw [List.getD_eq_getElem?_getD, List.getElem?_eq_none (by rw [joinStep_len]; omega)]; rfl
theorem joinStep_sub (b : List Nat) (p : Int × Int) (i : Nat) : Sub (b.getD i 0) ((joinStep b p).getD i 0) := by
  by_cases hi : i < b.length
  · rw [joinStep_get b p hi]; split
    · intro j hj; rw [Nat.testBit_or, hj]; rfl
    · exact Sub.refl _
  · rw [List.getD_eq_getElem?_getD, List.getElem?_eq_none (by omega)]; exact Sub.zero _
theorem foldl_sub : ∀ (ps : List (Int × Int)) (b : List Nat) (i : Nat), Sub (b.getD i 0) ((ps.foldl joinStep b).getD i 0)
  | [], _, _ => Sub.refl _
  | p :: ps, b, i => by rw [List.foldl_cons]; exact (joinStep_sub b p i).trans (foldl_sub ps _ i)
theorem closeF_sub (l : Ld) : ∀ (n : Nat) (b : List Nat) (i : Nat), Sub (b.getD i 0) ((closeF l n b).getD i 0)
  | 0, _, _ => Sub.refl _
  | n + 1, b, i => by
    show Sub _ ((if joinR l b = b then b else closeF l n (joinR l b)).getD i 0)
    split
    · exact Sub.refl _
    · exact (foldl_sub _ b i).trans (closeF_sub l n _ i)
theorem closeF_fix (l : Ld) : ∀ (n : Nat) (b : List Nat), msr b < n → (∀ i, b.getD i 0 < 512) → joinR l (closeF l n b) = closeF l n b
  | 0, _, h, _ => absurd h (Nat.not_lt_zero _)
  | n + 1, b, h, hs => by
    show joinR l (if joinR l b = b then b else closeF l n (joinR l b)) = if joinR l b = b then b else closeF l n (joinR l b)
    split
    · assumption
    · rename_i hne
      have := msr_lt b (joinR l b) (joinR_len l b).symm (joinR_ge l b) (joinR_small l b hs) (Ne.symm hne)
      exact closeF_fix l n _ (by omega) (joinR_small l b hs)
theorem foldl_fix : ∀ (ps : List (Int × Int)) (b : List Nat), ps.foldl joinStep b = b → ∀ p ∈ ps, joinStep b p = b
  | [], _, _, _, h => by simp at h
  | q :: ps, b, h, p, hp => by
    rw [List.foldl_cons] at h
    have hq : joinStep b q = b := by
      refine eq_of_getD (d := 0) (joinStep_len b q) fun j _ => ?_
      have h1 := joinStep_ge b q j
      have h2 := foldl_ge ps (joinStep b q) j
      rw [h] at h2; omega
    rcases List.mem_cons.1 hp with rfl | hp
    · exact hq
    · rw [hq] at h; exact foldl_fix ps b h p hp
def Cl (l : Ld) (c : Nat) : Prop := ∀ p ∈ l.wth, c.testBit p.1.toNat = c.testBit p.2.toNat
def Inv (c : Nat) (b : List Nat) : Prop := ∀ i, (c.testBit i = true → Sub (b.getD i 0) c) ∧ (c.testBit i = false → ∀ j, (b.getD i 0).testBit j = true → c.testBit j = false)
theorem Inv.step {c : Nat} {b : List Nat} {p : Int × Int} (h : Inv c b) (hp : c.testBit p.1.toNat = c.testBit p.2.toNat) : Inv c (joinStep b p) := by
  intro i
  by_cases hi : i < b.length
  · rw [joinStep_get b p hi]
    split
    · rename_i ha
      unfold allP at ha ⊢
      cases h1 : c.testBit p.1.toNat
      · have k1 := (h p.1.toNat).2 h1
        have k2 := (h p.2.toNat).2 (hp ▸ h1)
        have hci : c.testBit i = false := by
          rw [Nat.testBit_or, Bool.or_eq_true] at ha
          exact ha.elim (k1 i) (k2 i)
        refine ⟨fun e => (by rw [hci] at e; cases e), fun _ j hj => ?_⟩
        rw [Nat.testBit_or, Nat.testBit_or, Bool.or_eq_true, Bool.or_eq_true] at hj
        rcases hj with hj | hj | hj
        · exact (h i).2 hci j hj
        · exact k1 j hj
        · exact k2 j hj
      · have k1 := (h p.1.toNat).1 h1
        have k2 := (h p.2.toNat).1 (hp ▸ h1)
        have hci : c.testBit i = true := by
          rw [Nat.testBit_or, Bool.or_eq_true] at ha
          exact ha.elim (k1 i) (k2 i)
        refine ⟨fun _ j hj => ?_, fun e => (by rw [hci] at e; cases e)⟩
        rw [Nat.testBit_or, Nat.testBit_or, Bool.or_eq_true, Bool.or_eq_true] at hj
        rcases hj with hj | hj | hj
        · exact (h i).1 hci j hj
        · exact k1 j hj
        · exact k2 j hj
    · exact h i
  · rw [joinStep_none b p hi]
    exact ⟨fun _ => Sub.zero _, fun _ j hj => by rw [Nat.zero_testBit] at hj; cases hj⟩
theorem Inv.fold {c : Nat} : ∀ (ps : List (Int × Int)) (b : List Nat), (∀ p ∈ ps, c.testBit p.1.toNat = c.testBit p.2.toNat) → Inv c b → Inv c (ps.foldl joinStep b)
  | [], _, _, h => h
  | p :: ps, b, hp, h => by rw [List.foldl_cons]; exact Inv.fold ps _ (fun q hq => hp q (List.mem_cons_of_mem _ hq)) (h.step (hp p List.mem_cons_self))
theorem Inv.close {l : Ld} {c : Nat} (hc : Cl l c) : ∀ (n : Nat) (b : List Nat), Inv c b → Inv c (closeF l n b)
  | 0, _, h => h
  | n + 1, b, h => by
    show Inv c (if joinR l b = b then b else closeF l n (joinR l b))
    split
    · exact h
    · exact Inv.close hc n _ (Inv.fold _ _ hc h)
theorem ndI_get {n i : Nat} (hi : i < 9) : (ndI n).getD i 0 = if i < n then 2 ^ i else 0 := by
  unfold ndI; rw [List.getD_eq_getElem?_getD, List.getElem?_map, List.getElem?_range hi]; rfl
theorem Inv.zero (c n : Nat) : Inv c (ndI n) := by
  intro i
  by_cases hi : i < 9
  · rw [ndI_get hi]
    split
    · refine ⟨fun h => sub_pow.2 h, fun h j hj => ?_⟩
      rw [Nat.testBit_two_pow, decide_eq_true_eq] at hj; subst hj; exact h
    · exact ⟨fun _ => Sub.zero _, fun _ j hj => by rw [Nat.zero_testBit] at hj; cases hj⟩
  · rw [List.getD_eq_getElem?_getD, List.getElem?_eq_none (by rw [ndI_len]; omega)]
    exact ⟨fun _ => Sub.zero _, fun _ j hj => by rw [Option.getD_none, Nat.zero_testBit] at hj; cases hj⟩
theorem nd_self {l : Ld} (o : LdOk l) {i : Nat} (hi : i < l.sacks.length) : ((openD l).nd.getD i 0).testBit i = true := by
  refine closeF_sub l 5000 (ndI l.sacks.length) i i ?_
  rw [ndI_get (by have := o.n; omega), if_pos hi, Nat.testBit_two_pow_self]
theorem nd_least {l : Ld} {c : Nat} (hc : Cl l c) {i : Nat} (hi : c.testBit i = true) : Sub ((openD l).nd.getD i 0) c :=
  (Inv.close hc 5000 _ (Inv.zero c _) i).1 hi
theorem nd_fix {l : Ld} (o : LdOk l) : ∀ p ∈ l.wth, joinStep (openD l).nd p = (openD l).nd :=
  foldl_fix _ _ (closeF_fix l 5000 _ (by have := msr_le (ndI l.sacks.length) (ndI_len _); omega) (ndI_small _))
theorem nd_len {l : Ld} : (openD l).nd.length = 9 := by show (closeF l 5000 _).length = 9; rw [closeF_len, ndI_len]
structure RightP (l : Ld) (c : Nat) : Prop where
  w : (sumW (wts l) c : Int) ≤ l.bears
  wp : Cl l c
  ap : ∀ p ∈ l.apart, ¬ (c.testBit p.1.toNat = true ∧ c.testBit p.2.toNat = true)
theorem hv_get {l : Ld} (o : LdOk l) {c : Nat} (hc : c < 2 ^ l.sacks.length) : (openD l).hv.getD c 0 = sumW (wts l) c := by
  have := pow9 o.n
  show (hvF (wts l) (2 ^ l.sacks.length)).getD c 0 = _
  rw [hvF_get (by omega), if_pos hc]
theorem bit_lt {c n i : Nat} (hc : c < 2 ^ n) (hi : c.testBit i = true) : i < n := by
  rcases Nat.lt_or_ge i n with h | h
  · exact h
  · rw [Nat.testBit_lt_two_pow (Nat.lt_of_lt_of_le hc (Nat.pow_le_pow_right (by omega) h))] at hi; cases hi
theorem whole_iff {l : Ld} (o : LdOk l) {c : Nat} (hc : c < 2 ^ l.sacks.length) : wholeB (openD l) c = true ↔ Cl l c ∧ ∀ p ∈ l.apart, ¬ (c.testBit p.1.toNat = true ∧ c.testBit p.2.toNat = true) := by
  have h9 := pow9 o.n
  have hn := o.n
  have hw : ((bits c).all fun i => diff ((openD l).nd.getD i.toNat 0) c == 0) = true ↔ ∀ i : Nat, c.testBit i = true → Sub ((openD l).nd.getD i 0) c := by
    rw [List.all_eq_true]
    constructor
    · intro h i hi
      have := h (i : Int) ((bits_iff (by omega) _).2 ⟨i, rfl, hi⟩)
      rw [beq_iff_eq] at this; exact diff_zero.1 this
    · intro h x hx
      obtain ⟨j, rfl, hj⟩ := (bits_iff (by omega) _).1 hx
      rw [beq_iff_eq]; exact diff_zero.2 (h j hj)
  have ha : (l.apart.all fun p => !inSet c p.1 || !inSet c p.2) = true ↔ ∀ p ∈ l.apart, ¬ (c.testBit p.1.toNat = true ∧ c.testBit p.2.toNat = true) := by
    rw [List.all_eq_true]
    constructor
    · intro h p hp
      have := h p hp
      simp only [inSet_bit] at this
      rintro ⟨h1, h2⟩
      rw [h1, h2] at this; cases this
    · intro h p hp
      have := h p hp
      simp only [inSet_bit]
      cases h1 : c.testBit p.1.toNat
      · rfl
      · cases h2 : c.testBit p.2.toNat
        · rfl
        · exact absurd ⟨h1, h2⟩ this
  unfold wholeB
  rw [Bool.and_eq_true, hw]
  show _ ∧ (l.apart.all fun p => !inSet c p.1 || !inSet c p.2) = true ↔ _
  rw [ha]
  refine and_congr_left fun _ => ?_
  constructor
  · intro h p hp
    have b := o.wp p hp
    have e := nd_fix o p hp
    have k1 := nd_self o (i := p.1.toNat) (by omega)
    have k2 := nd_self o (i := p.2.toNat) (by omega)
    have g1 : (allP (openD l).nd p).testBit p.1.toNat = true := by unfold allP; rw [Nat.testBit_or, k1]; rfl
    have g2 : (allP (openD l).nd p).testBit p.2.toNat = true := by unfold allP; rw [Nat.testBit_or, k2, Bool.or_true]
    have e1 := joinStep_get (openD l).nd p (i := p.1.toNat) (by rw [nd_len]; omega)
    have e2 := joinStep_get (openD l).nd p (i := p.2.toNat) (by rw [nd_len]; omega)
    rw [e, if_pos g1] at e1
    rw [e, if_pos g2] at e2
    have s1 : c.testBit p.1.toNat = true → c.testBit p.2.toNat = true := fun hb => h _ hb _ (by rw [e1, Nat.testBit_or, g2, Bool.or_true])
    have s2 : c.testBit p.2.toNat = true → c.testBit p.1.toNat = true := fun hb => h _ hb _ (by rw [e2, Nat.testBit_or, g1, Bool.or_true])
    cases hb1 : c.testBit p.1.toNat
    · cases hb2 : c.testBit p.2.toNat
      · rfl
      · rw [s2 hb2] at hb1; cases hb1
    · rw [s1 hb1]
  · intro h i hi; exact nd_least h hi
theorem right_iff {l : Ld} (o : LdOk l) {c : Nat} (hc : c < 2 ^ l.sacks.length) : rightB (openD l) c = true ↔ RightP l c := by
  unfold rightB
  rw [Bool.and_eq_true, decide_eq_true_eq, hv_get o hc, whole_iff o hc]
  exact ⟨fun ⟨h1, h2, h3⟩ => ⟨h1, h2, h3⟩, fun h => ⟨h.w, h.wp, h.ap⟩⟩
end GA
end

section
namespace GA
open Go Go.RowKit Go.Proofs
set_option maxRecDepth 8000
set_option linter.unusedVariables false
set_option linter.unusedSimpArgs false

theorem diff_half (a b : Nat) : diff a b / 2 = diff (a / 2) (b / 2) := bit_ext fun i => by
  rw [← Nat.testBit_succ, diff_bit, diff_bit, Nat.testBit_succ, Nat.testBit_succ]
theorem diff_odd {a b : Nat} (h : Sub b a) : diff a b % 2 + b % 2 = a % 2 := by
  have e := diff_bit a b 0
  have hs := sub_odd h
  simp only [Nat.testBit_zero] at e
  rcases Nat.mod_two_eq_zero_or_one a with ha | ha <;> rcases Nat.mod_two_eq_zero_or_one b with hb | hb <;> rcases Nat.mod_two_eq_zero_or_one (diff a b) with hc | hc <;> simp [ha, hb, hc] at e hs ⊢
theorem sumW_split : ∀ (ws : List Nat) (s c : Nat), Sub c s → sumW ws (diff s c) + sumW ws c = sumW ws s
  | [], _, _, _ => rfl
  | w :: ws, s, c, h => by
    have ih := sumW_split ws (s / 2) (c / 2) (sub_half h)
    have ho := diff_odd h
    unfold sumW
    rw [diff_half]
    rcases Nat.mod_two_eq_zero_or_one s with ha | ha <;> rcases Nat.mod_two_eq_zero_or_one c with hb | hb <;> rcases Nat.mod_two_eq_zero_or_one (diff s c) with hc | hc <;> simp only [ha, hb, hc] at ho ⊢ <;> simp <;> omega
theorem sumW_le_of : ∀ (ws vs : List Nat) (s : Nat), ws.length = vs.length → (∀ i, ws.getD i 0 ≤ vs.getD i 0) → sumW ws s ≤ sumW vs s
  | [], [], _, _, _ => Nat.le_refl _
  | w :: ws, v :: vs, s, hl, h => by
    have h0 := h 0
    have := sumW_le_of ws vs (s / 2) (by simpa using hl) (fun i => by simpa using h (i + 1))
    simp only [List.getD_cons_zero] at h0
    unfold sumW; split <;> omega
  | [], _ :: _, _, hl, _ => by simp at hl
  | _ :: _, [], _, hl, _ => by simp at hl
theorem Pk.sum {R : Nat → Bool} {n set : Nat} (h : Pk R n set) (ws : List Nat) (k : Nat) (hR : ∀ c, Sub c set → R c = true → sumW ws c ≤ k) : sumW ws set ≤ n * k := by
  induction h with
  | nil => rw [sumW_zero]; exact Nat.zero_le _
  | @cons n set c hr hs h0 t ih =>
    have h1 := ih fun c' hc' => hR c' (hc'.trans (sub_diff _ _))
    have h2 := hR c hs hr
    have h3 := sumW_split ws set c hs
    rw [Nat.succ_mul]; omega
theorem ones_pos : ∀ (k c : Nat), c ≠ 0 → c < 2 ^ k → 1 ≤ sumW (List.replicate k 1) c
  | 0, c, h0, h => absurd (by simpa using h) h0
  | k + 1, c, h0, h => by
    show 1 ≤ sumW (1 :: List.replicate k 1) c
    unfold sumW
    rcases Nat.mod_two_eq_zero_or_one c with hc | hc
    · have := ones_pos k (c / 2) (by omega) (by rw [Nat.pow_succ] at h; omega)
      omega
    · rw [if_pos hc]; omega
theorem Pk.count {R : Nat → Bool} {n set k : Nat} (h : Pk R n set) (hs : set < 2 ^ k) : n ≤ sumW (List.replicate k 1) set := by
  induction h with
  | nil => exact Nat.zero_le _
  | @cons n set c hr hsb h0 t ih =>
    have h1 := ih (Nat.lt_of_le_of_lt (diff_le _ _) hs)
    have h2 := ones_pos k c h0 (Nat.lt_of_le_of_lt hsb.le hs)
    have h3 := sumW_split (List.replicate k 1) set c hsb
    omega
theorem ones_le (k set : Nat) : sumW (List.replicate k 1) set ≤ k := by
  induction k generalizing set with
  | zero => exact Nat.zero_le _
  | succ k ih =>
    show sumW (1 :: List.replicate k 1) set ≤ _
    have := ih (set / 2)
    unfold sumW; split <;> omega
theorem Pk.len {R : Nat → Bool} {n k : Nat} (h : Pk R n (2 ^ k - 1)) : n ≤ k := by
  have hp := Nat.two_pow_pos k
  have := h.count (k := k) (by omega)
  have := ones_le k (2 ^ k - 1)
  omega
theorem Pk.tail {R R' : Nat → Bool} (hR : ∀ c, R c = true → R' (c / 2) = true) {n set : Nat} (h : Pk R n set) : ∃ k, k ≤ n ∧ Pk R' k (set / 2) := by
  induction h with
  | nil => exact ⟨0, Nat.le_refl _, .nil⟩
  | @cons n set c hr hs h0 t ih =>
    obtain ⟨k, hk, hp⟩ := ih
    rw [diff_half] at hp
    by_cases hc : c / 2 = 0
    · refine ⟨k, by omega, ?_⟩
      have e : diff (set / 2) (c / 2) = set / 2 := by
        rw [hc]; exact bit_ext fun i => by rw [diff_bit, Nat.zero_testBit]; cases (set / 2).testBit i <;> rfl
      rwa [e] at hp
    · exact ⟨k + 1, by omega, .cons (c / 2) (hR c hr) (sub_half hs) hc hp⟩
theorem RightP.free {l : Ld} (ha : l.apart = []) (hw : l.wth = []) {c : Nat} : RightP l c ↔ (sumW (wts l) c : Int) ≤ l.bears :=
  ⟨fun h => h.w, fun h => ⟨h, fun p hp => by rw [hw] at hp; simp at hp, fun p hp => by rw [ha] at hp; simp at hp⟩⟩
end GA
end

section
namespace GA
open Go Go.RowKit Go.Proofs
set_option maxRecDepth 8000
set_option linter.unusedVariables false
set_option linter.unusedSimpArgs false

theorem XPut.ints {els : List AV} {n e : Nat} {k : List AV → Prop} (xs : List Int) (x : Int) (hE : els = GA.ints xs) (h1 : n = xs.length) (h2 : e < n) (h : k (GA.ints (xs.set e x))) : XPut els n e (.int .i64 x) k := by
  subst hE; exact XPut.map (f := .int .i64) x rfl h1 h2 h
end GA
end

section
namespace GA
open Go Go.RowKit
set_option linter.unusedVariables false

section
variable {P : Program} {T : Tab} {N : Nat} {ρ : Option Nat} {H : List Blk} {σ : St} {D : List Nat}
theorem Walk.place {c : Code} {Q : Post} (x : Walk P N ρ c Q D σ (H ++ [.free])) : Walk P N ρ c Q D σ H := by
  constructor
  intro E h β a w s
  obtain ⟨s', X⟩ := s.sr.push (w' := w) s.sr.env (fun _ _ => rfl) (.pointer none) .free (by intro b hb; simp [anchor] at hb) (fun _ => trivial)
  exact wpIn_mono (x.o E h _ a w ⟨s', fun u r e => let ⟨v, h1, h2⟩ := s.fits u r e; ⟨v, h1, X.rep h2⟩, s.size, s.df.ext X⟩) fun _ _ _ => Conc.ext X
theorem XFree.at {H : List Blk} {b : Blk} {k : Nat → List Blk → Prop} (i : Nat) (h1 : lget H i = some .free) (h2 : hset H i b fun H' => k i H') : XFree H b k := ⟨i, h1, h2⟩
end
end GA
end

section
namespace GA
open Go Go.RowKit Go.Proofs
set_option pp.deepTerms true
set_option maxRecDepth 8000
set_option linter.unusedVariables false
set_option linter.unusedSimpArgs false

theorem dup_sk (nl : Bool) (xs : List Sk) (hx : xs.length ≤ 100000) : Comp Try.prog 83 [.sl nl (xs.map skA)] (.sl false (xs.map skA)) := by
  refine Comp.body (T := tab) (res := [.tmp 2]) tab_ok [] Try.func83 rfl (by kernel_rfl) Try.ntmps83 rfl (by simp only [List.length_cons, List.length_nil]; decide) (by simp only [lowL, AV.low, lowSk]; rfl) ?_; conv => whnf
  refine XHold.mk ⟨by omega, by simp, by unfold Room; simp; omega⟩ ?_
  conv => whnf
  refine XHold.mk (wideSk xs) ?_
  conv => whnf
  refine XHold.mk ⟨rfl, rfl, by unfold Room; simp; omega⟩ ?_
  conv => whnf
  exact ⟨Froz.grow rfl (by simp) (lowSk xs)⟩
theorem dup_pr (nl : Bool) (xs : List (Int × Int)) (hx : xs.length ≤ 100000) : Comp Try.prog 84 [.sl nl (xs.map prA)] (.sl false (xs.map prA)) := by
  refine Comp.body (T := tab) (res := [.tmp 2]) tab_ok [] Try.func84 rfl (by kernel_rfl) Try.ntmps84 rfl (by simp only [List.length_cons, List.length_nil]; decide) (by simp only [lowL, AV.low, lowPr]; rfl) ?_; conv => whnf
  refine XHold.mk ⟨by omega, by simp, by unfold Room; simp; omega⟩ ?_
  conv => whnf
  refine XHold.mk (widePr xs) ?_
  conv => whnf
  refine XHold.mk ⟨rfl, rfl, by unfold Room; simp; omega⟩ ?_
  conv => whnf
  exact ⟨Froz.grow rfl (by simp) (lowPr xs)⟩
def ownL (l : Ld) : Ld := ⟨l.bears, l.shrink, false, l.sacks, false, l.apart, false, l.wth⟩
theorem own_c (l : Ld) (o : LdW l) : Comp Try.prog 20 [ldA l] (ldA (ownL l)) := by
  have h1 := o.h1
  have h2 := o.h2
  have h3 := o.h3
  refine Comp.body (T := tab) (res := [.cell 2 26]) tab_ok [1] Try.func20 rfl (by kernel_rfl) Try.ntmps20 rfl (by simp only [List.length_cons, List.length_nil]; decide) (by simp only [lowL, AV.low, ldL]; rfl) ?_; conv => whnf
  skip
  apply Walk.drawX tab_ok mixed_ok [] [10, 12, 14] (hsC [[.cells (ldC l), .cells [.int .i64 0, .int .i64 0, .sl true [], .sl true [], .sl true []]],
    [.cells (ldC { l with nls := false }), .cells [.int .i64 0, .int .i64 0, .sl true [], .sl true [], .sl true []]],
    [.cells (ldC { l with nls := false, nla := false }), .cells [.int .i64 0, .int .i64 0, .sl true [], .sl true [], .sl true []]],
    [.cells (ldC { l with nls := false, nla := false, nlw := false }), .cells [.int .i64 0, .int .i64 0, .sl true [], .sl true [], .sl true []]]]) [_, _, _, _, _, _, _, _, _, _, _, _, _, _, _] (by kernel_rfl) rfl
  · skip
    repeat' first | (with_reducible apply XAnd.mk) | ((first | (with_reducible apply Chk.go) | (with_reducible apply ChkA.go)); conv => whnf) | (exact XSame.mk rfl rfl) | (with_reducible exact trivial) | ((first | (refine XCall.ret (dup_sk _ l.sacks h1) ?_) | (refine XCall.ret (dup_pr _ l.apart (by omega)) ?_) | (refine XCall.ret (dup_pr _ l.wth (by omega)) ?_)); conv => whnf)
  · skip
    repeat' first | (with_reducible apply XAnd.mk) | ((first | (with_reducible apply Chk.go) | (with_reducible apply ChkF.go) | (with_reducible apply ChkB.go)); conv => whnf) | (exact XSame.mk rfl rfl) | (with_reducible exact trivial) | ((refine XCall.ret (dup_pr _ l.apart (by omega)) ?_); conv => whnf)
  · conv => whnf
    skip
    exact ⟨Froz.low (ldL (ownL l))⟩
end GA
end

section
namespace GA
open Go Go.RowKit Go.Proofs
set_option pp.deepTerms true
set_option maxRecDepth 8000
set_option linter.unusedVariables false
set_option linter.unusedSimpArgs false

def thL (l : Ld) : Ld := ⟨l.bears, l.shrink, l.sacks.isEmpty, l.sacks, l.nla, l.apart, l.nlw, l.wth⟩
theorem theirs_c (l : Ld) (o : LdW l) : Comp Try.prog 39 [ldA l] (ldA (thL l)) := by
  have h1 := o.h1
  refine Comp.body (T := tab) (res := [.cell 2 69]) tab_ok [2, 3] Try.func39 rfl (by kernel_rfl) Try.ntmps39 rfl (by simp only [List.length_cons, List.length_nil]; decide) (by simp only [lowL, AV.low, ldL]; rfl) ?_; conv => whnf
  skip
  refine Walk.nilcell 1 2 152 rfl rfl ?_
  refine Walk.loopG tab_ok [] (fun k : Nat => k ≤ l.sacks.length) (fun k => [(2, .ptr 0 0), (3, .ptr 1 0), (16, .sl l.nls (l.sacks.map skA)), (17, natA l.sacks.length), (18, natA k)])
    (fun k => [.cells [.int .i64 0, .int .i64 0, .sl true [], .sl true [], .sl true []], .cells [.int .i64 l.bears, .int .i64 l.shrink, .gr 2 k, .sl l.nla (l.apart.map prA), .sl l.nlw (l.wth.map prA)], .grow 152 (l.sacks.take k).isEmpty ((l.sacks.take k).map skA)])
    (fun k => l.sacks.length - k) 0 (Nat.zero_le _) rfl ⟨rfl, rfl, rfl, congrArg (fun n : Nat => some (AV.int .i64 n)) (by rw [List.length_map]), rfl, trivial⟩ ?_ ?_ ?_
  · intro k _
    constructor
    · intro x hx; simp only [List.mem_cons, List.not_mem_nil, or_false] at hx
      rcases hx with rfl | rfl | rfl <;> first | exact lowSk _ | (simp only [Blk.low, lowL, AV.low, lowPr]; rfl)
    · intro p hp; simp only [List.mem_cons, List.not_mem_nil, or_false] at hp; rcases hp with rfl | rfl | rfl | rfl | rfl <;> first | exact lowSk _ | rfl
  · intro k _; exact Nat.le_refl _
  intro k hk
  have hl : (l.sacks.take k).length = k := by rw [List.length_take]; omega
  have hnx := fun h => take_next (xs := l.sacks) (i := k) h
  have hall : k = l.sacks.length → l.sacks.take k = l.sacks := fun h => by rw [h, List.take_length]
  generalize l.sacks.take k = ss at hl hnx hall
  conv => whnf
  repeat' first | ((with_reducible apply XBr.dec) <;> (intro h; first | (exfalso; omega) | ((try simp only [List.length_map] at h); first | (exfalso; omega) | (conv => whnf)))) | ((with_reducible refine XInt.i64 (by omega) (by omega) ?_); conv => whnf) | ((with_reducible refine XHold.mk ?_ ?_); (first | omega | rfl | decide | exact ⟨rfl, by decide, rfl⟩ | exact wideI _ | exact widePr _ | exact wideSk _ | (unfold Room; constructor <;> ((try simp) <;> omega)) | exact ⟨rfl, by simp only [List.length_map], by unfold Room; constructor <;> ((try simp) <;> omega)⟩ | exact ⟨by omega, by omega, by unfold Room; constructor <;> ((try simp) <;> omega)⟩); conv => whnf) | (((with_reducible refine XIx.nat ?_ ?_ ?_); omega; (intro _; rfl)); conv => whnf)
  · refine XAgainG.go (k + 1) [.cells [.int .i64 (l.sacks.getD k default).m, .int .i64 (l.sacks.getD k default).o]] (by omega) (by omega) ?_ ⟨rfl, rfl, rfl, rfl, rfl, trivial⟩
    rw [hnx (by omega)]; simp only [List.map_append, isEmpty_app]; rfl
  · have e := hall (by omega)
    subst e
    obtain rfl : k = l.sacks.length := by omega
    exact ⟨Froz.agg (rs' := ldC (thL l)) (by intro x hx; simp only [ldC, List.mem_cons, List.not_mem_nil, or_false] at hx; rcases hx with rfl | rfl | rfl | rfl | rfl <;> rfl) (.cons (Froz.low rfl) (.cons (Froz.low rfl) (.cons (Froz.grow (i := 2) (n := l.sacks.length) (els := l.sacks.map skA) rfl (by rw [List.length_map]) (lowSk _)) (.cons (Froz.low (lowPr _)) (.cons (Froz.low (lowPr _)) .nil)))))⟩

theorem equal_sk (n1 n2 : Bool) (xs : List (Sk)) (hx : xs.length ≤ 100000) : Comp Try.prog 140 [.sl n1 (xs.map skA), .sl n2 (xs.map skA)] (.bool true) := by
  refine Comp.body (T := tab) (res := [.tmp 4]) tab_ok [] Try.func140 rfl (by kernel_rfl) Try.ntmps140 rfl (by simp only [List.length_cons, List.length_nil]; decide) (by simp only [lowL, AV.low, lowSk]; rfl) ?_; conv => whnf
  repeat' first | ((with_reducible apply XBr.bne) <;> (intro h; first | (exfalso; omega) | (conv => whnf)))
  refine Walk.loop tab_ok [] (fun i : Nat => i ≤ xs.length) (fun i => [(0, .sl n1 (xs.map skA)), (1, .sl n2 (xs.map skA)), (12, .int .i64 xs.length), (13, .int .i64 i)]) (fun _ => []) (fun i => xs.length - i) 0 (Nat.zero_le _) rfl ⟨rfl, rfl, by simp only [List.length_map]; rfl, rfl, trivial⟩ ?_
  intro i hi
  conv => whnf
  repeat' first | ((with_reducible apply XBr.dec) <;> (intro h; first | (exfalso; omega) | ((try simp only [List.length_map] at h); first | (exfalso; omega) | (conv => whnf))))
  · apply Walk.drawX tab_ok mixed_ok [] [] (hsK _) [_, _, _, _, _, _, _, _, .bool false] (by kernel_rfl) rfl
    · skip
      repeat' first | (((with_reducible refine XIx.nat ?_ ?_ ?_); omega; (intro _; rfl)); conv => whnf) | (with_reducible apply XAnd.mk) | ((first | (with_reducible apply Chk.go) | (with_reducible apply ChkA.go)); conv => whnf) | (exact XSame.mk rfl rfl) | (with_reducible exact trivial) | ((refine XEqA.mk ⟨[_, _], [_, _], rfl, rfl, rfl, rfl, ?_⟩); exact XSame.mk (congrArg AV.bool (by simp)) rfl)
    · skip
      repeat' first | (with_reducible apply XAnd.mk) | ((first | (with_reducible apply ChkF.go) | (with_reducible apply ChkB.go)); conv => whnf) | (with_reducible exact trivial)
    · conv => whnf
      repeat' first | ((first | (with_reducible apply XBr.ff) | (with_reducible refine XInt.i64 (by omega) (by omega) ?_)); conv => whnf)
      exact XAgain.go (i + 1) (by omega) (by omega) rfl ⟨rfl, rfl, rfl, rfl, trivial⟩
  · exact XOut.bool rfl
theorem eq_sk (n1 n2 : Bool) (xs : List (Sk)) (hx : xs.length ≤ 100000) : Comp Try.prog 102 [.sl n1 (xs.map skA), .sl n2 (xs.map skA)] (.bool true) := by
  refine Comp.body (T := tab) (res := [.tmp 4]) tab_ok [] Try.func102 rfl (by kernel_rfl) Try.ntmps102 rfl (by simp only [List.length_cons, List.length_nil]; decide) (by simp only [lowL, AV.low, lowSk]; rfl) ?_; conv => whnf
  repeat' first | ((refine XCall.ret (equal_sk n1 n2 xs hx) ?_); conv => whnf)
  exact XOut.bool rfl

theorem equal_pr (n1 n2 : Bool) (xs : List (Int × Int)) (hx : xs.length ≤ 100000) : Comp Try.prog 141 [.sl n1 (xs.map prA), .sl n2 (xs.map prA)] (.bool true) := by
  refine Comp.body (T := tab) (res := [.tmp 4]) tab_ok [] Try.func141 rfl (by kernel_rfl) Try.ntmps141 rfl (by simp only [List.length_cons, List.length_nil]; decide) (by simp only [lowL, AV.low, lowPr]; rfl) ?_; conv => whnf
  repeat' first | ((with_reducible apply XBr.bne) <;> (intro h; first | (exfalso; omega) | (conv => whnf)))
  refine Walk.loop tab_ok [] (fun i : Nat => i ≤ xs.length) (fun i => [(0, .sl n1 (xs.map prA)), (1, .sl n2 (xs.map prA)), (12, .int .i64 xs.length), (13, .int .i64 i)]) (fun _ => []) (fun i => xs.length - i) 0 (Nat.zero_le _) rfl ⟨rfl, rfl, by simp only [List.length_map]; rfl, rfl, trivial⟩ ?_
  intro i hi
  conv => whnf
  repeat' first | ((with_reducible apply XBr.dec) <;> (intro h; first | (exfalso; omega) | ((try simp only [List.length_map] at h); first | (exfalso; omega) | (conv => whnf))))
  · apply Walk.drawX tab_ok mixed_ok [] [] (hsK _) [_, _, _, _, _, _, _, _, .bool false] (by kernel_rfl) rfl
    · skip
      repeat' first | (((with_reducible refine XIx.nat ?_ ?_ ?_); omega; (intro _; rfl)); conv => whnf) | (with_reducible apply XAnd.mk) | ((first | (with_reducible apply Chk.go) | (with_reducible apply ChkA.go)); conv => whnf) | (exact XSame.mk rfl rfl) | (with_reducible exact trivial) | ((refine XEqA.mk ⟨[_, _], [_, _], rfl, rfl, rfl, rfl, ?_⟩); exact XSame.mk (congrArg AV.bool (by simp)) rfl)
    · skip
      repeat' first | (with_reducible apply XAnd.mk) | ((first | (with_reducible apply ChkF.go) | (with_reducible apply ChkB.go)); conv => whnf) | (with_reducible exact trivial)
    · conv => whnf
      repeat' first | ((first | (with_reducible apply XBr.ff) | (with_reducible refine XInt.i64 (by omega) (by omega) ?_)); conv => whnf)
      exact XAgain.go (i + 1) (by omega) (by omega) rfl ⟨rfl, rfl, rfl, rfl, trivial⟩
  · exact XOut.bool rfl
theorem eq_pr (n1 n2 : Bool) (xs : List (Int × Int)) (hx : xs.length ≤ 100000) : Comp Try.prog 103 [.sl n1 (xs.map prA), .sl n2 (xs.map prA)] (.bool true) := by
  refine Comp.body (T := tab) (res := [.tmp 4]) tab_ok [] Try.func103 rfl (by kernel_rfl) Try.ntmps103 rfl (by simp only [List.length_cons, List.length_nil]; decide) (by simp only [lowL, AV.low, lowPr]; rfl) ?_; conv => whnf
  repeat' first | ((refine XCall.ret (equal_pr n1 n2 xs hx) ?_); conv => whnf)
  exact XOut.bool rfl

theorem same_c (l : Ld) (o : LdW l) : Comp Try.prog 45 [ldA (ownL l), ldA l] (.bool true) := by
  have h1 := o.h1
  have h2 := o.h2
  have h3 := o.h3
  refine Comp.body (T := tab) (res := [.tmp 4]) tab_ok [] Try.func45 rfl (by kernel_rfl) Try.ntmps45 rfl (by simp only [List.length_cons, List.length_nil]; decide) (by simp only [lowL, AV.low, ldL]; rfl) ?_; conv => whnf
  skip
  refine Walk.norm tab_ok [] [(2, .pim (ldC (ownL l))), (3, .pim (ldC l))] ⟨rfl, rfl, trivial⟩ ?_
  conv => whnf
  repeat' first | ((first | (with_reducible apply XBr.tt) | (with_reducible apply XBr.ff)); conv => whnf) | ((with_reducible apply XBr.beq) <;> (intro h; first | (exfalso; omega) | (conv => whnf))) | ((first | (refine XCall.ret (eq_sk _ _ l.sacks (by omega)) ?_) | (refine XCall.ret (eq_pr _ _ l.apart (by omega)) ?_) | (refine XCall.ret (eq_pr _ _ l.wth (by omega)) ?_)); conv => whnf)
  all_goals first | exact XOut.bool rfl | (exfalso; exact absurd rfl (by assumption))
def greatB (l : Ld) : Bool := decide (14 < l.sacks.length) || decide (12 < l.apart.length) || decide (12 < l.wth.length)
theorem great_c (l : Ld) : Comp Try.prog 38 [ldA l] (.bool (greatB l)) := by
  have e1 : ((l.sacks.map skA).length : Int) = l.sacks.length := by rw [List.length_map]
  have e2 : ((l.apart.map prA).length : Int) = l.apart.length := by rw [List.length_map]
  have e3 : ((l.wth.map prA).length : Int) = l.wth.length := by rw [List.length_map]
  refine Comp.body (T := tab) (res := [.tmp 2]) tab_ok [] Try.func38 rfl (by kernel_rfl) Try.ntmps38 rfl (by simp only [List.length_cons, List.length_nil]; decide) (by simp only [lowL, AV.low, ldL]; rfl) ?_; conv => whnf
  repeat' first | ((first | (with_reducible apply XBr.tt) | (with_reducible apply XBr.ff)); conv => whnf) | ((with_reducible apply XBr.dec) <;> (intro h; first | (exfalso; omega) | ((try simp only [List.length_map] at h); first | (exfalso; omega) | (conv => whnf))))
  all_goals
    refine XOut.bool ?_
    unfold greatB
    rw [Bool.eq_iff_iff]
    simp only [Bool.or_eq_true, decide_eq_true_eq, Bool.or_assoc, Bool.true_eq_false, Bool.false_eq_true, true_iff, false_iff, iff_true, iff_false]
    omega
end GA
end

section
namespace GA
open Go Go.RowKit Go.Proofs
set_option pp.deepTerms true
set_option maxRecDepth 8000
set_option linter.unusedVariables false
set_option linter.unusedSimpArgs false

theorem all_false {α : Type} {p : α → Bool} {xs : List α} {d : α} {i : Nat} (hi : i < xs.length) (h : p (xs.getD i d) = false) : xs.all p = false := by
  rw [List.all_eq_false]; exact ⟨_, getD_mem hi, by rw [h]; simp⟩
theorem all_true {α : Type} {p : α → Bool} {xs : List α} {d : α} (h : ∀ j, j < xs.length → p (xs.getD j d) = true) : xs.all p = true := by
  rw [List.all_eq_true]; intro x hx
  obtain ⟨j, hj, rfl⟩ := List.mem_iff_getElem.1 hx
  have := h j hj
  rwa [List.getD_eq_getElem?_getD, List.getElem?_eq_getElem hj] at this
theorem XArr.gp {i m' e o : Nat} {n : Int} {m w : Nat} {k : AV → Prop} (h1 : 0 ≤ n) (h2 : n < m) (h : k (.gp i m' e (o + n.toNat * w))) : XArr (.gp i m' e o) n m w k := ⟨h1, h2, h⟩
def skIn (s : Sk) : Bool := inB s.m 1 100 && inB s.o 0 5
theorem ck3 {l : Ld} (h : ¬(9 < l.sacks.length ∨ 8 < l.apart.length ∨ 8 < l.wth.length)) (h2 : (inB l.bears 1 100 && inB l.shrink 0 90) = false) : checkR l = 3 := by
  unfold checkR; rw [if_neg h, if_pos h2]
theorem ck4 {l : Ld} (h : ¬(9 < l.sacks.length ∨ 8 < l.apart.length ∨ 8 < l.wth.length)) (h2 : (inB l.bears 1 100 && inB l.shrink 0 90) = true) (h3 : (l.sacks.all fun s => inB s.m 1 100 && inB s.o 0 5) = false) : checkR l = 3 := by
  unfold checkR; rw [if_neg h, if_neg (by rw [h2]; simp), if_pos h3]
theorem ck5 {l : Ld} (h : ¬(9 < l.sacks.length ∨ 8 < l.apart.length ∨ 8 < l.wth.length)) (h2 : (inB l.bears 1 100 && inB l.shrink 0 90) = true) (h3 : (l.sacks.all fun s => inB s.m 1 100 && inB s.o 0 5) = true) (h4 : (l.apart ++ l.wth).all (prIn l) = false) : checkR l = 1 := by
  unfold checkR; rw [if_neg h, if_neg (by rw [h2]; simp), if_neg (by rw [h3]; simp), if_pos h4]
theorem ck6 {l : Ld} (h : ¬(9 < l.sacks.length ∨ 8 < l.apart.length ∨ 8 < l.wth.length)) (h2 : (inB l.bears 1 100 && inB l.shrink 0 90) = true) (h3 : (l.sacks.all fun s => inB s.m 1 100 && inB s.o 0 5) = true) (h4 : (l.apart ++ l.wth).all (prIn l) = true) (h5 : ((l.apart ++ l.wth).all fun p => p.1 != p.2) = false) : checkR l = 5 := by
  unfold checkR; rw [if_neg h, if_neg (by rw [h2]; simp), if_neg (by rw [h3]; simp), if_neg (by rw [h4]; simp), if_pos h5]
theorem ck0 {l : Ld} (h : ¬(9 < l.sacks.length ∨ 8 < l.apart.length ∨ 8 < l.wth.length)) (h2 : (inB l.bears 1 100 && inB l.shrink 0 90) = true) (h3 : (l.sacks.all fun s => inB s.m 1 100 && inB s.o 0 5) = true) (h4 : (l.apart ++ l.wth).all (prIn l) = true) (h5 : ((l.apart ++ l.wth).all fun p => p.1 != p.2) = true) : checkR l = 0 := by
  unfold checkR; rw [if_neg h, if_neg (by rw [h2]; simp), if_neg (by rw [h3]; simp), if_neg (by rw [h4]; simp), if_neg (by rw [h5]; simp)]
theorem refCheck_c (l : Ld) (o : LdW l) : Comp Try.prog 40 [ldA l] (.int .i64 (checkR l)) := by
  have h1 := o.h1
  have h2 := o.h2
  have h3 := o.h3
  have e1 : ((l.sacks.map skA).length : Int) = l.sacks.length := by rw [List.length_map]
  have e2 : ((l.apart.map prA).length : Int) = l.apart.length := by rw [List.length_map]
  have e3 : ((l.wth.map prA).length : Int) = l.wth.length := by rw [List.length_map]
  refine Comp.body (T := tab) (res := [.tmp 2]) tab_ok [] Try.func40 rfl (by kernel_rfl) Try.ntmps40 rfl (by simp only [List.length_cons, List.length_nil]; decide) (by simp only [lowL, AV.low, ldL]; rfl) ?_; conv => whnf
  repeat' first | ((first | (with_reducible apply XBr.tt) | (with_reducible apply XBr.ff)); conv => whnf) | ((with_reducible apply XBr.dec) <;> (intro h; first | (exfalso; omega) | ((try simp only [List.length_map] at h); first | (exfalso; omega) | (conv => whnf)))) | (refine XCall.ret (off_c _ _ _) ?_; conv => whnf) | ((with_reducible apply XBr.mk') <;> (intro h; conv => whnf))
  · refine XOut.int ?_; unfold checkR; rw [if_pos (by omega)]
  · refine XOut.int ?_; unfold checkR; rw [if_pos (by omega)]
  · refine XOut.int ?_; unfold checkR; rw [if_pos (by omega)]
  · refine XOut.int (ck3 (by omega) ?_).symm
    rw [off_in] at h; simp only [Bool.not_eq_true'] at h; rw [h]; rfl
  · refine XOut.int (ck3 (by omega) ?_).symm
    rw [off_in] at h; simp only [Bool.not_eq_true'] at h; rw [h, Bool.and_false]
  rename_i hA1 hA2 hA3 hB1
  have hA : ¬(9 < l.sacks.length ∨ 8 < l.apart.length ∨ 8 < l.wth.length) := by omega
  have hB : (inB l.bears 1 100 && inB l.shrink 0 90) = true := by
    rw [off_in, Bool.not_eq_false'] at h hB1; rw [h, hB1]; rfl
  clear hA1 hA2 hA3 hB1 h
  refine Walk.loop tab_ok [] (fun k : Nat => k ≤ l.sacks.length ∧ ∀ j, j < k → skIn (l.sacks.getD j default) = true) (fun k => [(1, .pim (ldC l)), (3, natA k)]) (fun _ => []) (fun k => l.sacks.length - k) 0 ⟨by omega, by omega⟩ rfl ⟨rfl, rfl, trivial⟩ ?_
  rintro k ⟨hk, hks⟩
  conv => whnf
  repeat' first | ((first | (with_reducible apply XBr.tt) | (with_reducible apply XBr.ff)); conv => whnf) | ((with_reducible apply XBr.dec) <;> (intro h; first | (exfalso; omega) | ((try simp only [List.length_map] at h); first | (exfalso; omega) | (conv => whnf)))) | ((first | (with_reducible refine XInt.i64 (by omega) (by omega) ?_) | ((with_reducible refine XIx.nat ?_ ?_ ?_); omega; (intro _; rfl))); conv => whnf) | (refine XCall.ret (off_c _ _ _) ?_; conv => whnf) | ((with_reducible apply XBr.mk') <;> (intro h; conv => whnf))
  · refine XOut.int (ck4 hA hB (all_false (d := default) (i := k) (by omega) ?_)).symm
    rw [off_in] at h; simp only [Bool.not_eq_true'] at h
    have h' : inB (l.sacks.getD k default).m 1 100 = false := h
    rw [h']; rfl
  · refine XOut.int (ck4 hA hB (all_false (d := default) (i := k) (by omega) ?_)).symm
    rw [off_in] at h; simp only [Bool.not_eq_true'] at h
    have h' : inB (l.sacks.getD k default).o 0 5 = false := h
    rw [h', Bool.and_false]
  · rename_i hm
    refine XAgain.go (k + 1) ⟨by omega, fun j hj => ?_⟩ (by omega) rfl ⟨rfl, rfl, trivial⟩
    by_cases e : j = k
    · subst e
      rw [off_in, Bool.not_eq_false'] at h hm
      have h' : inB (l.sacks.getD j default).o 0 5 = true := h
      have hm' : inB (l.sacks.getD j default).m 1 100 = true := hm
      unfold skIn; rw [h', hm']; rfl
    · exact hks j (by omega)
  have hC : (l.sacks.all fun s => inB s.m 1 100 && inB s.o 0 5) = true := all_true (d := default) fun j hj => hks j (by omega)
  clear hks h
  apply Walk.drawX tab_ok mixed_ok [] [3, 6] (hsC [[], [.grow 118 false (l.apart.map prA)], [.grow 118 false (l.apart.map prA ++ l.wth.map prA)]]) [_, _, _, _, _, _, _, _] (by kernel_rfl) rfl
  · skip
    repeat' first | ((with_reducible refine XHold.mk ?_ ?_); (first | omega | rfl | decide | exact ⟨rfl, by decide, rfl⟩ | exact wideI _ | exact widePr _ | exact wideSk _ | (unfold Room; constructor <;> ((try simp) <;> omega)) | exact ⟨rfl, by simp only [List.length_map], by unfold Room; constructor <;> ((try simp) <;> omega)⟩ | exact ⟨by omega, by omega, by unfold Room; constructor <;> ((try simp) <;> omega)⟩); conv => whnf) | (with_reducible apply XAnd.mk) | ((first | (with_reducible apply Chk.go) | (with_reducible apply ChkA.go)); conv => whnf) | (exact XSame.mk rfl rfl) | (with_reducible exact trivial)
  · skip
    repeat' first | (with_reducible apply XAnd.mk) | ((first | (with_reducible apply Chk.go) | (with_reducible apply ChkF.go) | (with_reducible apply ChkB.go)); conv => whnf) | (exact XSame.mk rfl rfl) | (with_reducible exact trivial)
  conv => whnf
  skip
  have hpl : (l.apart ++ l.wth).length = l.apart.length + l.wth.length := List.length_append
  generalize hps : l.apart ++ l.wth = ps at hpl
  refine Walk.loop tab_ok [] (fun k : Nat => k ≤ ps.length ∧ ∀ j, j < k → prIn l (ps.getD j default) = true) (fun k => [(1, .pim (ldC l)), (4, .gr 0 ps.length), (5, natA k)]) (fun _ => [.grow 118 false (ps.map prA)]) (fun k => ps.length - k) 0 ⟨by omega, by omega⟩ (by rw [← hps, List.map_append]; rfl) ⟨rfl, ?_, rfl, trivial⟩ ?_
  · exact congrArg (fun n => some (AV.gr 0 n)) (by rw [List.length_map, List.length_map, hpl])
  clear hk k
  rintro k ⟨hk, hks⟩
  conv => whnf
  repeat' first | ((with_reducible apply XBr.dec) <;> (intro h; first | (exfalso; omega) | ((try simp only [List.length_map] at h); first | (exfalso; omega) | (conv => whnf)))) | ((refine XHold.mk (List.length_map _) ?_); conv => whnf)
  · by_cases hc : offB (ps.getD k default).1 0 (((l.sacks.map skA).length : Int) - 1) = true
    · apply Walk.drawX tab_ok mixed_ok [] [] (hsK _) [_, _, _, _, _, _, _, _, _, _, .bool true, _, _, _, _, _, _, _, _, _, _, .bool true] (by kernel_rfl) rfl
      · skip
        repeat' first | ((first | (with_reducible apply XBr.tt) | (with_reducible refine XInt.i64 (by omega) (by omega) ?_)); conv => whnf) | (with_reducible apply XAnd.mk) | ((first | (with_reducible apply Chk.go) | (with_reducible apply ChkA.go)); conv => whnf) | (exact XSame.mk rfl rfl) | (with_reducible exact trivial) | ((first | (refine XHold.mk ⟨List.length_map _, rfl, by omega, by omega⟩ ?_) | (refine XArr.gp (by decide) (by decide) ?_) | (refine XGet.map rfl (by omega) ?_)); conv => whnf) | (refine XCall.ret (off_c _ _ _) ?_; conv => whnf) | (exact XSame.mk (congrArg AV.bool hc) rfl)
      · skip
        repeat' first | (with_reducible apply XAnd.mk) | ((first | (with_reducible apply ChkF.go) | (with_reducible apply ChkB.go)); conv => whnf) | (with_reducible exact trivial)
      · conv => whnf
        repeat' first | ((with_reducible apply XBr.tt); conv => whnf)
        refine XOut.int (ck5 hA hB hC ?_).symm
        rw [hps]
        refine all_false (d := default) (i := k) (by omega) ?_
        rw [off_in, Bool.not_eq_true', e1] at hc
        unfold prIn; rw [hc]; rfl
    · rw [Bool.not_eq_true] at hc
      apply Walk.drawX tab_ok mixed_ok [] [] (hsK _) [_, _, _, _, _, _, _, _, _, _, .bool false, _, _, _, _, _, _, _, _, _, _, .bool (offB (ps.getD k default).2 0 (((l.sacks.map skA).length : Int) - 1))] (by kernel_rfl) rfl
      · skip
        repeat' first | ((first | (with_reducible apply XBr.ff) | (with_reducible refine XInt.i64 (by omega) (by omega) ?_)); conv => whnf) | (with_reducible apply XAnd.mk) | ((first | (with_reducible apply Chk.go) | (with_reducible apply ChkA.go)); conv => whnf) | (exact XSame.mk rfl rfl) | (with_reducible exact trivial) | ((first | (refine XHold.mk ⟨List.length_map _, rfl, by omega, by omega⟩ ?_) | (refine XArr.gp (by decide) (by decide) ?_) | (refine XGet.map rfl (by omega) ?_)); conv => whnf) | (refine XCall.ret (off_c _ _ _) ?_; conv => whnf) | (exact XSame.mk (congrArg AV.bool hc) rfl)
      · skip
        repeat' first | (with_reducible apply XAnd.mk) | ((first | (with_reducible apply ChkF.go) | (with_reducible apply ChkB.go)); conv => whnf) | (with_reducible exact trivial)
      · conv => whnf
        repeat' first | ((with_reducible refine XInt.i64 (by omega) (by omega) ?_); conv => whnf) | ((with_reducible apply XBr.mk') <;> (intro h; conv => whnf))
        · refine XOut.int (ck5 hA hB hC ?_).symm
          rw [hps]
          refine all_false (d := default) (i := k) (by omega) ?_
          rw [off_in, Bool.not_eq_true', e1] at h
          unfold prIn; rw [h, Bool.and_false]
        · refine XAgain.go (k + 1) ⟨by omega, fun j hj => ?_⟩ (by omega) rfl ⟨rfl, rfl, rfl, trivial⟩
          by_cases e : j = k
          · subst e
            rw [off_in, Bool.not_eq_false', e1] at h hc
            unfold prIn; rw [h, hc]; rfl
          · exact hks j (by omega)
  have hD : (l.apart ++ l.wth).all (prIn l) = true := by rw [hps]; exact all_true (d := default) fun j hj => hks j (by omega)
  clear hks
  refine Walk.loop tab_ok [] (fun k : Nat => k ≤ ps.length ∧ ∀ j, j < k → ((ps.getD j default).1 != (ps.getD j default).2) = true) (fun k => [(4, .gr 0 ps.length), (6, natA k)]) (fun _ => [.grow 118 false (ps.map prA)]) (fun k => ps.length - k) 0 ⟨by omega, by omega⟩ rfl ⟨rfl, rfl, trivial⟩ ?_
  clear hk
  rintro k ⟨hk, hks⟩
  conv => whnf
  repeat' first | ((with_reducible apply XBr.dec) <;> (intro h; first | (exfalso; omega) | ((try simp only [List.length_map] at h); first | (exfalso; omega) | (conv => whnf)))) | ((refine XHold.mk (List.length_map _) ?_); conv => whnf)
  · apply Walk.drawX tab_ok mixed_ok [] [] (hsK _) [_, _, _, _, _, _, _, _, _, _, .bool ((ps.getD k default).1 == (ps.getD k default).2)] (by kernel_rfl) rfl
    · skip
      repeat' first | (with_reducible apply XAnd.mk) | ((first | (with_reducible apply Chk.go) | (with_reducible apply ChkA.go)); conv => whnf) | (exact XSame.mk rfl rfl) | (with_reducible exact trivial) | ((first | (refine XHold.mk ⟨List.length_map _, rfl, by omega, by omega⟩ ?_) | (refine XArr.gp (by decide) (by decide) ?_) | (refine XGet.map rfl (by omega) ?_)); conv => whnf)
    · skip
      repeat' first | (with_reducible apply XAnd.mk) | ((first | (with_reducible apply ChkF.go) | (with_reducible apply ChkB.go)); conv => whnf) | (with_reducible exact trivial)
    · conv => whnf
      repeat' first | ((with_reducible apply XBr.beq) <;> (intro h; first | (exfalso; omega) | (conv => whnf))) | ((with_reducible refine XInt.i64 (by omega) (by omega) ?_); conv => whnf)
      · refine XOut.int (ck6 hA hB hC hD ?_).symm
        rw [hps]
        exact all_false (d := default) (i := k) (by omega) (by rw [bne_eq_false_iff_eq]; exact h)
      · refine XAgain.go (k + 1) ⟨by omega, fun j hj => ?_⟩ (by omega) rfl ⟨rfl, rfl, trivial⟩
        by_cases e : j = k
        · subst e; rw [bne_iff_ne]; exact h
        · exact hks j (by omega)
  · refine XOut.int (ck0 hA hB hC hD ?_).symm
    rw [hps]; exact all_true (d := default) fun j hj => hks j (by omega)
end GA
end

section
namespace GA
open Go Go.RowKit Go.Proofs
set_option maxRecDepth 8000
set_option linter.unusedVariables false
set_option linter.unusedSimpArgs false

structure Eqv (n : Nat) (b : List Nat) : Prop where
  self : ∀ i, i < n → (b.getD i 0).testBit i = true
  same : ∀ i j, (b.getD j 0).testBit i = true → b.getD i 0 = b.getD j 0
  lt : ∀ i j, (b.getD j 0).testBit i = true → i < n ∧ j < n
theorem Eqv.zero {n : Nat} (hn : n ≤ 9) : Eqv n (ndI n) := by
  have g : ∀ i j, ((ndI n).getD j 0).testBit i = true → i = j ∧ j < n := by
    intro i j h
    by_cases hj : j < 9
    · rw [ndI_get hj] at h
      split at h
      · rw [Nat.testBit_two_pow, decide_eq_true_eq] at h; exact ⟨h.symm, by assumption⟩
      · rw [Nat.zero_testBit] at h; cases h
    · rw [List.getD_eq_getElem?_getD, List.getElem?_eq_none (by rw [ndI_len]; omega), Option.getD_none, Nat.zero_testBit] at h; cases h
  refine ⟨fun i hi => ?_, fun i j h => by rw [(g i j h).1], fun i j h => ?_⟩
  · rw [ndI_get (by omega), if_pos hi, Nat.testBit_two_pow_self]
  · have := g i j h; omega
theorem Eqv.step {n : Nat} {b : List Nat} {p : Int × Int} (h : Eqv n b) (hn : n ≤ 9) (hb : b.length = 9) (h1 : p.1.toNat < n) (h2 : p.2.toNat < n) : Eqv n (joinStep b p) := by
  have ain : ∀ x, (allP b p).testBit x = true → (b.getD p.1.toNat 0).testBit x = true ∨ (b.getD p.2.toNat 0).testBit x = true := fun x hx => by
    unfold allP at hx; rw [Nat.testBit_or, Bool.or_eq_true] at hx; exact hx
  have sub : ∀ x, (allP b p).testBit x = true → Sub (b.getD x 0) (allP b p) := by
    intro x hx y hy
    unfold allP; rw [Nat.testBit_or, Bool.or_eq_true]
    rcases ain x hx with hx | hx
    · rw [h.same _ _ hx] at hy; exact .inl hy
    · rw [h.same _ _ hx] at hy; exact .inr hy
  have alt : ∀ x, (allP b p).testBit x = true → x < n := fun x hx => (ain x hx).elim (fun e => (h.lt _ _ e).1) (fun e => (h.lt _ _ e).1)
  have yes : ∀ x, (allP b p).testBit x = true → (joinStep b p).getD x 0 = allP b p := by
    intro x hx
    have := alt x hx
    rw [joinStep_get b p (by omega), if_pos hx]
    apply bit_ext; intro i; rw [Nat.testBit_or]
    cases hi : (b.getD x 0).testBit i
    · rfl
    · rw [sub x hx i hi]; rfl
  have no : ∀ x, x < 9 → (allP b p).testBit x = false → (joinStep b p).getD x 0 = b.getD x 0 := fun x hx ha => by
    rw [joinStep_get b p (by omega), if_neg (by rw [ha]; simp)]
  have big : ∀ x, ¬ x < 9 → (joinStep b p).getD x 0 = 0 := fun x hx => joinStep_none b p (by omega)
  refine ⟨fun i hi => joinStep_sub b p i i (h.self i hi), fun i j hij => ?_, fun i j hij => ?_⟩
  · by_cases hj : j < 9
    · cases ha : (allP b p).testBit j
      · rw [no j hj ha] at hij ⊢
        have hl := h.lt i j hij
        have hi : (allP b p).testBit i = false := by
          cases hb' : (allP b p).testBit i
          · rfl
          · have h3 := sub i hb'
            rw [h.same i j hij] at h3
            have := h3 j (h.self j hl.2)
            rw [ha] at this; cases this
        rw [no i (by omega) hi, h.same i j hij]
      · rw [yes j ha] at hij ⊢
        exact yes i hij
    · rw [big j hj, Nat.zero_testBit] at hij; cases hij
  · by_cases hj : j < 9
    · cases ha : (allP b p).testBit j
      · rw [no j hj ha] at hij; exact h.lt i j hij
      · rw [yes j ha] at hij; exact ⟨alt i hij, alt j ha⟩
    · rw [big j hj, Nat.zero_testBit] at hij; cases hij
theorem Eqv.fold {n : Nat} (hn : n ≤ 9) : ∀ (ps : List (Int × Int)) (b : List Nat), (∀ p ∈ ps, p.1.toNat < n ∧ p.2.toNat < n) → b.length = 9 → Eqv n b → Eqv n (ps.foldl joinStep b)
  | [], _, _, _, h => h
  | p :: ps, b, hp, hb, h => by
    rw [List.foldl_cons]
    have := hp p List.mem_cons_self
    exact Eqv.fold hn ps _ (fun q hq => hp q (List.mem_cons_of_mem _ hq)) (by rw [joinStep_len]; exact hb) (h.step hn hb this.1 this.2)
theorem Eqv.close {l : Ld} {n : Nat} (hn : n ≤ 9) (hp : ∀ p ∈ l.wth, p.1.toNat < n ∧ p.2.toNat < n) : ∀ (k : Nat) (b : List Nat), b.length = 9 → Eqv n b → Eqv n (closeF l k b)
  | 0, _, _, h => h
  | k + 1, b, hb, h => by
    show Eqv n (if joinR l b = b then b else closeF l k (joinR l b))
    split
    · exact h
    · exact Eqv.close hn hp k _ (by rw [joinR_len]; exact hb) (Eqv.fold hn _ _ hp hb h)
def ndS (l : Ld) (i : Nat) : Nat := (openD l).nd.getD i 0
theorem nd_eqv {l : Ld} (o : LdOk l) : Eqv l.sacks.length (openD l).nd :=
  Eqv.close o.n (fun p hp => by have := o.wp p hp; omega) 5000 _ (ndI_len _) (Eqv.zero o.n)
theorem nd_cl {l : Ld} (o : LdOk l) (i : Nat) : Cl l (ndS l i) := by
  have E := nd_eqv o
  intro p hp
  have b := o.wp p hp
  have hn := o.n
  have e := nd_fix o p hp
  have k1 := nd_self o (i := p.1.toNat) (by omega)
  have k2 := nd_self o (i := p.2.toNat) (by omega)
  have g1 : (allP (openD l).nd p).testBit p.1.toNat = true := by unfold allP; rw [Nat.testBit_or, k1]; rfl
  have g2 : (allP (openD l).nd p).testBit p.2.toNat = true := by unfold allP; rw [Nat.testBit_or, k2, Bool.or_true]
  have e1 := joinStep_get (openD l).nd p (i := p.1.toNat) (by rw [nd_len]; omega)
  have e2 := joinStep_get (openD l).nd p (i := p.2.toNat) (by rw [nd_len]; omega)
  rw [e, if_pos g1] at e1
  rw [e, if_pos g2] at e2
  have s1 : (ndS l i).testBit p.1.toNat = true → (ndS l i).testBit p.2.toNat = true := fun h => by
    have := E.same _ _ h
    show ((openD l).nd.getD i 0).testBit _ = true
    rw [← this, e1, Nat.testBit_or, g2, Bool.or_true]
  have s2 : (ndS l i).testBit p.2.toNat = true → (ndS l i).testBit p.1.toNat = true := fun h => by
    have := E.same _ _ h
    show ((openD l).nd.getD i 0).testBit _ = true
    rw [← this, e2, Nat.testBit_or, g1, Bool.or_true]
  cases h1 : (ndS l i).testBit p.1.toNat
  · cases h2 : (ndS l i).testBit p.2.toNat
    · rfl
    · rw [s2 h2] at h1; cases h1
  · rw [s1 h1]
theorem ndS_lt {l : Ld} (o : LdOk l) (i : Nat) : ndS l i < 2 ^ l.sacks.length := by
  apply Nat.lt_pow_two_of_testBit
  intro j hj
  cases h : (ndS l i).testBit j
  · rfl
  · have := (nd_eqv o).lt j i h; omega
def setN : List Bool → Nat
  | [] => 0
  | b :: bs => 2 * setN bs + b.toNat
theorem setN_bit : ∀ (bs : List Bool) (k : Nat), (setN bs).testBit k = bs.getD k false
  | [], k => by simp [setN]
  | b :: bs, 0 => by
    unfold setN; rw [Nat.testBit_zero]; cases b <;> simp <;> omega
  | b :: bs, k + 1 => by
    unfold setN; rw [Nat.testBit_succ, show (2 * setN bs + b.toNat) / 2 = setN bs by cases b <;> simp <;> omega, setN_bit bs k]; rfl
theorem setN_lt : ∀ (bs : List Bool), setN bs < 2 ^ bs.length
  | [] => by simp [setN]
  | b :: bs => by
    have := setN_lt bs
    unfold setN; rw [List.length_cons, Nat.pow_succ]; cases b <;> simp <;> omega
def boolN (n s : Nat) : List Bool := (List.range n).map fun k => s.testBit k
theorem boolN_len (n s : Nat) : (boolN n s).length = n := by simp [boolN]
theorem boolN_get {n s k : Nat} (hk : k < n) : (boolN n s).getD k false = s.testBit k := by
  unfold boolN; rw [List.getD_eq_getElem?_getD, List.getElem?_map, List.getElem?_range hk]; rfl
theorem setN_boolN {n s : Nat} (h : s < 2 ^ n) : setN (boolN n s) = s := bit_ext fun k => by
  rw [setN_bit]
  by_cases hk : k < n
  · exact boolN_get hk
  · rw [List.getD_eq_getElem?_getD, List.getElem?_eq_none (by rw [boolN_len]; omega)]
    exact (Nat.testBit_lt_two_pow (Nat.lt_of_lt_of_le h (Nat.pow_le_pow_right (by omega) (by omega)))).symm
theorem bool_ext {bs : List Bool} {n s : Nat} (hl : bs.length = n) (h : ∀ k, k < n → bs.getD k false = s.testBit k) : bs = boolN n s :=
  eq_of_getD (d := false) (by rw [boolN_len, hl]) fun j hj => by rw [h j (by omega), boolN_get (by omega)]
structure BunOk (l : Ld) (i : Nat) (bs : List Bool) : Prop where
  n : bs.length = l.sacks.length
  me : bs.getD i false = true
  sub : ∀ k, bs.getD k false = true → (ndS l i).testBit k = true
theorem BunOk.done {l : Ld} (o : LdOk l) {i : Nat} {bs : List Bool} (h : BunOk l i bs) (hi : i < l.sacks.length) (hc : ∀ p ∈ l.wth, bs.getD p.1.toNat false = bs.getD p.2.toNat false) : bs = boolN l.sacks.length (ndS l i) := by
  refine bool_ext h.n fun k hk => ?_
  have cl : Cl l (setN bs) := fun p hp => by rw [setN_bit, setN_bit]; exact hc p hp
  have hl := nd_least cl (i := i) (by rw [setN_bit]; exact h.me)
  cases hb : bs.getD k false
  · cases ht : (ndS l i).testBit k
    · rfl
    · have := hl k ht; rw [setN_bit, hb] at this; cases this
  · exact (h.sub k hb).symm
theorem getD_setB (xs : List Bool) (i j : Nat) (v : Bool) : (xs.set i v).getD j false = if i = j ∧ i < xs.length then v else xs.getD j false := getD_set xs i j v false
theorem BunOk.both {l : Ld} (o : LdOk l) {i : Nat} {bs : List Bool} (h : BunOk l i bs) {p : Int × Int} (hp : p ∈ l.wth) (hne : bs.getD p.1.toNat false ≠ bs.getD p.2.toNat false) : BunOk l i ((bs.set p.1.toNat true).set p.2.toNat true) := by
  have hcl := nd_cl o i p hp
  have hin : (ndS l i).testBit p.1.toNat = true ∧ (ndS l i).testBit p.2.toNat = true := by
    cases h1 : bs.getD p.1.toNat false
    · cases h2 : bs.getD p.2.toNat false
      · rw [h1, h2] at hne; exact absurd rfl hne
      · have := h.sub _ h2; exact ⟨by rw [hcl]; exact this, this⟩
    · have := h.sub _ h1; exact ⟨this, by rw [← hcl]; exact this⟩
  refine ⟨by rw [List.length_set, List.length_set]; exact h.n, ?_, fun k hk => ?_⟩
  · rw [getD_setB, getD_setB]; split
    · rfl
    · split
      · rfl
      · exact h.me
  · rw [getD_setB, getD_setB] at hk
    split at hk
    · rename_i e; rw [← e.1]; exact hin.2
    · split at hk
      · rename_i e; rw [← e.1]; exact hin.1
      · exact h.sub k hk
def cntF (bs : List Bool) : Nat := bs.countP (fun b => !b)
theorem cnt_set : ∀ (bs : List Bool) (i : Nat), cntF (bs.set i true) ≤ cntF bs ∧ (bs.getD i true = false → cntF (bs.set i true) < cntF bs)
  | [], i => by simp [cntF]
  | b :: bs, 0 => by cases b <;> simp [cntF]
  | b :: bs, i + 1 => by
    have := cnt_set bs i
    unfold cntF at this ⊢
    rw [List.set_cons_succ, List.countP_cons, List.countP_cons, List.getD_cons_succ]
    exact ⟨by omega, fun h => by have := this.2 h; omega⟩
theorem cnt_both {bs : List Bool} {a b : Nat} (ha : a < bs.length) (hb : b < bs.length) (hne : bs.getD a false ≠ bs.getD b false) : cntF ((bs.set a true).set b true) < cntF bs := by
  have h1 := cnt_set bs a
  have h2 := cnt_set (bs.set a true) b
  have e : ∀ (xs : List Bool) i, i < xs.length → xs.getD i true = xs.getD i false := fun xs i hi => by
    rw [List.getD_eq_getElem?_getD, List.getD_eq_getElem?_getD, List.getElem?_eq_getElem hi]; rfl
  cases hx : bs.getD a false
  · have := h1.2 (by rw [e _ _ ha, hx]); omega
  · cases hy : bs.getD b false
    · have := h2.2 (by
        rw [e _ _ (by rw [List.length_set]; exact hb), getD_setB]
        split
        · rename_i hh; rw [hh.1, hy] at hx; cases hx
        · exact hy)
      omega
    · rw [hx, hy] at hne; exact absurd rfl hne
end GA
end

section
namespace GA
open Go Go.RowKit Go.Proofs
set_option pp.deepTerms true
set_option maxRecDepth 8000
set_option linter.unusedVariables false
set_option linter.unusedSimpArgs false

abbrev bools (xs : List Bool) : List AV := xs.map .bool
theorem lowBo {n : Nat} (xs : List Bool) : lowL n (bools xs) = true := lowL_map (fun _ => rfl) xs
theorem wideBo (xs : List Bool) : wide 1 (bools xs) = true := wide_map (f := .bool) (n := 1) (fun _ => rfl) (fun _ => rfl) xs
theorem XPut.bools {els : List AV} {n e : Nat} {k : List AV → Prop} (xs : List Bool) (x : Bool) (hE : els = GA.bools xs) (h1 : n = xs.length) (h2 : e < n) (h : k (GA.bools (xs.set e x))) : XPut els n e (.bool x) k := by
  subst hE; exact XPut.map (f := .bool) x rfl h1 h2 h
theorem refWeight_c (l : Ld) (o : LdOk l) (i : Nat) (hi : i < l.sacks.length) : Comp Try.prog 48 [ldA l, natA i] (.int .i64 (weightR l (l.sacks.getD i default))) := by
  have hs := o.sk _ (getD_mem (d := default) hi)
  have h2 := o.s1
  have h3 := o.s2
  have e1 : 0 ≤ (l.sacks.getD i default).m * l.shrink := Int.mul_nonneg (by omega) h2
  have e2 : (l.sacks.getD i default).m * l.shrink ≤ 100 * 100 := Int.mul_le_mul hs.2.1 (by omega) h2 (by omega)
  have e3 : ((l.sacks.getD i default).m * l.shrink).tdiv 100 = ((l.sacks.getD i default).m * l.shrink) / 100 := Int.tdiv_eq_ediv_of_nonneg e1
  refine Comp.body (T := tab) (res := [.tmp 4]) tab_ok [] Try.func48 rfl (by kernel_rfl) Try.ntmps48 rfl (by simp only [List.length_cons, List.length_nil]; decide) (by simp only [lowL, AV.low, ldL]; rfl) ?_; conv => whnf
  repeat' first | ((with_reducible refine XInt.i64 (by omega) (by omega) ?_); conv => whnf) | ((with_reducible refine XHold.mk ?_ ?_); (first | omega | rfl | decide | exact ⟨rfl, by decide, rfl⟩ | exact wideI _ | exact widePr _ | exact wideSk _ | (unfold Room; constructor <;> ((try simp) <;> omega)) | exact ⟨rfl, by simp only [List.length_map], by unfold Room; constructor <;> ((try simp) <;> omega)⟩ | exact ⟨by omega, by omega, by unfold Room; constructor <;> ((try simp) <;> omega)⟩); conv => whnf) | (((with_reducible refine XIx.nat ?_ ?_ ?_); omega; (intro _; rfl)); conv => whnf)
  refine XOut.int ?_
  rw [e3]; rfl
set_option maxHeartbeats 1000000 in
theorem refBundle_c (l : Ld) (o : LdOk l) (i : Nat) (hi : i < l.sacks.length) : Comp Try.prog 49 [ldA l, natA i] (.sl false (bools (boolN l.sacks.length (ndS l i)))) := by
  have hn := o.n
  have e1 : ((l.sacks.map skA).length : Int) = l.sacks.length := by rw [List.length_map]
  have e3 : ((l.wth.map prA).length : Int) = l.wth.length := by rw [List.length_map]
  have hnw := o.nw
  refine Comp.body (T := tab) (res := [.tmp 4]) tab_ok [] Try.func49 rfl (by kernel_rfl) Try.ntmps49 rfl (by simp only [List.length_cons, List.length_nil]; decide) (by simp only [lowL, AV.low, ldL]; rfl) ?_; conv => whnf
  repeat' first | ((with_reducible refine XHold.mk ?_ ?_); (first | omega | rfl | decide | exact ⟨rfl, by decide, rfl⟩ | exact wideI _ | exact widePr _ | exact wideSk _ | (unfold Room; constructor <;> ((try simp) <;> omega)) | exact ⟨rfl, by simp only [List.length_map], by unfold Room; constructor <;> ((try simp) <;> omega)⟩ | exact ⟨by omega, by omega, by unfold Room; constructor <;> ((try simp) <;> omega)⟩); conv => whnf) | ((first | (refine XHold.mk ⟨List.length_replicate, rfl, by omega, by omega⟩ ?_) | (refine XPut.mk List.length_replicate.symm (by omega) ?_)); conv => whnf)
  have hB0 : BunOk l i ((List.replicate l.sacks.length false).set i true) := by
    refine ⟨by simp, ?_, fun k hk => ?_⟩
    · rw [getD_setB, if_pos ⟨rfl, by simpa using hi⟩]
    · rw [getD_setB] at hk
      split at hk
      · rename_i e; rw [← e.1]; exact nd_self o hi
      · rw [List.getD_eq_getElem?_getD, List.getElem?_replicate] at hk; split at hk <;> simp at hk
  refine Walk.loop tab_ok [] (fun g : List Bool × Bool => BunOk l i g.1 ∧ (g.2 = false → ∀ p ∈ l.wth, g.1.getD p.1.toNat false = g.1.getD p.2.toNat false)) (fun g => [(2, .pim (ldC l)), (4, .sl true []), (5, .gr 0 l.sacks.length), (6, .bool g.2)])
    (fun g => [.grow 4 false (bools g.1)]) (fun g => 2 * cntF g.1 + g.2.toNat) ((List.replicate l.sacks.length false).set i true, true) ⟨hB0, fun h => by cases h⟩ ?_ ⟨rfl, rfl, ?_, rfl, trivial⟩ ?_
  · show [Blk.grow 4 false (bools ((List.replicate l.sacks.length false).set i true))] = [Blk.grow 4 false ((List.replicate (((l.sacks.map skA).length : Int)).toNat (AV.bool false)).set i (.bool true))]
    rw [e1]; simp [bools, List.map_set]
  · exact congrArg (fun n => some (AV.gr 0 n)) (by rw [e1]; rfl)
  rintro ⟨bs, g⟩ ⟨hB, hg⟩
  dsimp only at hB hg ⊢
  have hbl := hB.n
  cases g with
  | false =>
    conv => whnf
    repeat' first | ((with_reducible apply XBr.ff); conv => whnf)
    rw [hB.done o hi (hg rfl)]
    exact ⟨Froz.grow rfl (by rw [List.length_map, boolN_len]) (lowBo _)⟩
  | true =>
    clear hg
    conv => whnf
    repeat' first | ((with_reducible apply XBr.tt); conv => whnf)
    refine Walk.loop tab_ok [] (fun q : Nat × List Bool × Bool => q.1 ≤ l.wth.length ∧ BunOk l i q.2.1 ∧ (q.2.2 = false → q.2.1 = bs ∧ ∀ j, j < q.1 → q.2.1.getD (l.wth.getD j default).1.toNat false = q.2.1.getD (l.wth.getD j default).2.toNat false) ∧ (q.2.2 = true → cntF q.2.1 < cntF bs))
      (fun q => [(2, .pim (ldC l)), (4, .sl true []), (5, .gr 0 l.sacks.length), (6, .bool q.2.2), (7, natA q.1)]) (fun q => [.grow 4 false (bools q.2.1)]) (fun q => l.wth.length - q.1) (0, bs, false) ⟨by omega, hB, fun _ => ⟨rfl, fun j hj => by omega⟩, fun h => by cases h⟩ rfl ⟨rfl, rfl, rfl, rfl, rfl, trivial⟩ ?_
    rintro ⟨k, cs, g⟩ ⟨hk, hC, hf, ht⟩
    dsimp only at hk hC hf ht ⊢
    have hcl := hC.n
    have hp : k < l.wth.length → l.wth.getD k default ∈ l.wth := fun h => getD_mem h
    have hpr : k < l.wth.length → 0 ≤ (l.wth.getD k default).1 ∧ (l.wth.getD k default).1 < l.sacks.length ∧ 0 ≤ (l.wth.getD k default).2 ∧ (l.wth.getD k default).2 < l.sacks.length ∧ (l.wth.getD k default).1 ≠ (l.wth.getD k default).2 := fun h => o.wp _ (hp h)
    conv => whnf
    repeat' first | ((with_reducible apply XBr.dec) <;> (intro h; first | (exfalso; omega) | ((try simp only [List.length_map] at h); first | (exfalso; omega) | (conv => whnf))))
    · have hpq := hpr (by omega)
      have hpm := hp (by omega)
      clear hpr hp
      apply Walk.drawX tab_ok mixed_ok [] [] (hsK _) [_, _, _, _, _, _, _, _, _, _, _, _, _, _] (by kernel_rfl) rfl
      · skip
        repeat' first | (((with_reducible refine XIx.nat ?_ ?_ ?_); omega; (intro _; rfl)); conv => whnf) | (with_reducible apply XAnd.mk) | ((first | (with_reducible apply Chk.go) | (with_reducible apply ChkA.go)); conv => whnf) | (exact XSame.mk rfl rfl) | (with_reducible exact trivial) | ((refine XArr.mk (by decide) (by decide) ?_); conv => whnf)
      · skip
        repeat' first | (with_reducible apply XAnd.mk) | ((first | (with_reducible apply ChkF.go) | (with_reducible apply ChkB.go)); conv => whnf) | (with_reducible exact trivial)
      conv => whnf
      apply Walk.drawX tab_ok mixed_ok [] [] (hsK _) [_, _, _, _, _, _, _, _, .bool (cs.getD (l.wth.getD k default).1.toNat default != cs.getD (l.wth.getD k default).2.toNat default)] (by kernel_rfl) rfl
      · skip
        repeat' first | (with_reducible apply XAnd.mk) | ((first | (with_reducible apply Chk.go) | (with_reducible apply ChkA.go)); conv => whnf) | (exact XSame.mk rfl rfl) | (with_reducible exact trivial) | ((first | (refine XHold.mk ⟨by rw [List.length_map]; exact hcl, rfl, by omega, by omega⟩ ?_) | (refine XGet.map hcl.symm (by omega) ?_)); conv => whnf)
      · skip
        repeat' first | (with_reducible apply XAnd.mk) | ((first | (with_reducible apply ChkF.go) | (with_reducible apply ChkB.go)); conv => whnf) | (with_reducible exact trivial)
      conv => whnf
      repeat' first | ((first | (with_reducible refine XInt.i64 (by omega) (by omega) ?_) | (refine XHold.mk ⟨by rw [List.length_map]; first | exact hcl | (rw [List.length_set]; exact hcl), rfl, by omega, by omega⟩ ?_) | (refine XPut.bools cs _ rfl hcl.symm (by omega) ?_) | (refine XPut.bools (cs.set (l.wth.getD k default).1.toNat true) _ rfl (by rw [List.length_set]; exact hcl.symm) (by omega) ?_)); conv => whnf) | ((with_reducible apply XBr.mk') <;> (intro h; conv => whnf))
      · have hne : cs.getD (l.wth.getD k default).1.toNat false ≠ cs.getD (l.wth.getD k default).2.toNat false := by rw [← bne_iff_ne]; exact h
        have hlt := cnt_both (a := (l.wth.getD k default).1.toNat) (b := (l.wth.getD k default).2.toNat) (by omega) (by omega) hne
        refine XAgain.go (k + 1, (cs.set (l.wth.getD k default).1.toNat true).set (l.wth.getD k default).2.toNat true, true) ⟨by omega, hC.both o hpm hne, nofun, fun _ => ?_⟩ (by omega) rfl ⟨rfl, rfl, rfl, rfl, rfl, trivial⟩
        cases g with
        | false => rw [(hf rfl).1] at hlt ⊢; exact hlt
        | true => have := ht rfl; dsimp only; omega
      · have he : cs.getD (l.wth.getD k default).1.toNat false = cs.getD (l.wth.getD k default).2.toNat false := by rw [← bne_eq_false_iff_eq]; exact h
        refine XAgain.go (k + 1, cs, g) ⟨by omega, hC, fun hg => ⟨(hf hg).1, fun j hj => ?_⟩, ht⟩ (by omega) rfl ⟨rfl, rfl, rfl, rfl, rfl, trivial⟩
        by_cases e : j = k
        · subst e; exact he
        · exact (hf hg).2 j (by omega)
    · refine XAgain.go (cs, g) ⟨hC, fun hg p hp => ?_⟩ ?_ rfl ⟨rfl, rfl, rfl, rfl, trivial⟩
      · obtain ⟨j, hj, rfl⟩ := List.mem_iff_getElem.1 hp
        have := (hf hg).2 j (by omega)
        rwa [List.getD_eq_getElem?_getD (l := l.wth), List.getElem?_eq_getElem hj] at this
      · cases g with
        | false => rw [(hf rfl).1]; dsimp only; simp
        | true => have := ht rfl; dsimp only; simp; omega
end GA
end

section
namespace GA
open Go Go.RowKit Go.Proofs
set_option pp.deepTerms true
set_option maxRecDepth 8000
set_option linter.unusedVariables false
set_option linter.unusedSimpArgs false

def lsK (bs : List Bool) (k : Nat) : List Int := ((List.range k).filter fun j => bs.getD j false).map fun j : Nat => (j : Int)
theorem lsK_next (bs : List Bool) (k : Nat) : lsK bs (k + 1) = if bs.getD k false = true then lsK bs k ++ [(k : Int)] else lsK bs k := by
  unfold lsK
  rw [List.range_succ, List.filter_append]
  by_cases h : bs.getD k false = true
  · rw [if_pos h, List.filter_cons_of_pos (p := fun j => bs.getD j false) h, List.filter_nil, List.map_append]; rfl
  · rw [if_neg h, List.filter_cons_of_neg (p := fun j => bs.getD j false) h, List.filter_nil, List.append_nil]
theorem lsK_len (bs : List Bool) (k : Nat) : (lsK bs k).length ≤ k := by
  unfold lsK
  rw [List.length_map]
  have := List.length_filter_le (fun j => bs.getD j false) (List.range k)
  rwa [List.length_range] at this
def lsN (bs : List Bool) : List Int := lsK bs bs.length
theorem refList_c (nl : Bool) (bs : List Bool) (hb : bs.length ≤ 1000) : Comp Try.prog 50 [.sl nl (bools bs)] (slA (lsN bs)) := by
  refine Comp.body (T := tab) (res := [.tmp 2]) tab_ok [] Try.func50 rfl (by kernel_rfl) Try.ntmps50 rfl (by simp only [List.length_cons, List.length_nil]; decide) (by simp only [lowL, AV.low, lowBo]; rfl) ?_; conv => whnf
  skip
  refine Walk.nilgr 3 3 rfl ?_
  refine Walk.loop tab_ok [] (fun k : Nat => k ≤ bs.length) (fun k => [(0, .sl nl (bools bs)), (2, .sl true []), (3, .gr 0 (lsK bs k).length), (4, natA k)]) (fun k => [.grow 3 (lsK bs k).isEmpty (ints (lsK bs k))]) (fun k => bs.length - k) 0 (Nat.zero_le _) rfl ⟨rfl, rfl, rfl, rfl, trivial⟩ ?_
  intro k hk
  have hl := lsK_len bs k
  have hnx := lsK_next bs k
  have hall : k = bs.length → lsK bs k = lsN bs := fun h => by rw [h]; rfl
  generalize lsK bs k = ls at hl hnx hall
  conv => whnf
  repeat' first | ((with_reducible apply XBr.dec) <;> (intro h; first | (exfalso; omega) | ((try simp only [List.length_map] at h); first | (exfalso; omega) | (conv => whnf)))) | ((with_reducible refine XInt.i64 (by omega) (by omega) ?_); conv => whnf) | ((with_reducible refine XHold.mk ?_ ?_); (first | omega | rfl | decide | exact ⟨rfl, by decide, rfl⟩ | exact wideI _ | exact widePr _ | exact wideSk _ | (unfold Room; constructor <;> ((try simp) <;> omega)) | exact ⟨rfl, by simp only [List.length_map], by unfold Room; constructor <;> ((try simp) <;> omega)⟩ | exact ⟨by omega, by omega, by unfold Room; constructor <;> ((try simp) <;> omega)⟩); conv => whnf) | (((with_reducible refine XIx.nat ?_ ?_ ?_); omega; (intro _; rfl)); conv => whnf) | ((with_reducible apply XBr.mk') <;> (intro h; conv => whnf))
  · refine XAgain.go (k + 1) (by omega) (by omega) ?_ ⟨rfl, rfl, ?_, rfl, trivial⟩
    · rw [hnx, if_pos (show bs.getD k false = true from h)]; simp only [List.map_append, isEmpty_app]; rfl
    · rw [hnx, if_pos (show bs.getD k false = true from h)]; simp only [List.length_append]; rfl
  · refine XAgain.go (k + 1) (by omega) (by omega) ?_ ⟨rfl, rfl, ?_, rfl, trivial⟩
    · rw [hnx, if_neg (by rw [show bs.getD k false = false from h]; simp)]
    · rw [hnx, if_neg (by rw [show bs.getD k false = false from h]; simp)]; rfl
  · rw [← hall (by omega)]
    exact ⟨by unfold slA; exact Froz.grow rfl (by rw [List.length_map]) (lowI _)⟩
theorem bitsF_ls : ∀ (f i s : Nat), s < 2 ^ f → bitsF f i s = ((List.range f).filter fun j => s.testBit j).map fun j => ((i + j : Nat) : Int)
  | 0, i, s, h => rfl
  | f + 1, i, s, h => by
    have ih := bitsF_ls f (i + 1) (s / 2) (by rw [Nat.pow_succ] at h; omega)
    have e : bitsF (f + 1) i s = if s = 0 then [] else if s % 2 = 1 then (i : Int) :: bitsF f (i + 1) (s / 2) else bitsF f (i + 1) (s / 2) := rfl
    have e2 : ((List.range (f + 1)).filter fun j => s.testBit j).map (fun j => ((i + j : Nat) : Int)) = (if s % 2 = 1 then [(i : Int)] else []) ++ ((List.range f).filter fun j => (s / 2).testBit j).map fun j => ((i + 1 + j : Nat) : Int) := by
      rw [List.range_succ_eq_map, List.filter_cons, List.filter_map]
      have h0 : s.testBit 0 = decide (s % 2 = 1) := Nat.testBit_zero s
      have hf : ((fun j => s.testBit j) ∘ Nat.succ) = fun j => (s / 2).testBit j := by funext j; exact Nat.testBit_succ ..
      rw [hf, h0]
      by_cases hs : s % 2 = 1
      · rw [if_pos hs, if_pos (by simp [hs]), List.map_cons, List.map_map]
        show _ :: _ = _ :: _
        congr 1
        apply List.map_congr_left; intro j _; show ((i + (j + 1) : Nat) : Int) = _; congr 1; omega
      · rw [if_neg hs, if_neg (by simp [hs]), List.map_map]
        show _ = _
        rw [List.nil_append]
        apply List.map_congr_left; intro j _; show ((i + (j + 1) : Nat) : Int) = _; congr 1; omega
    rw [e, e2]
    by_cases h0 : s = 0
    · subst h0
      rw [if_pos rfl]
      have : ((List.range f).filter fun j => (0 / 2).testBit j) = [] := by rw [List.filter_eq_nil_iff]; intro j _; simp
      rw [this]; rfl
    · rw [if_neg h0, ih]
      by_cases hs : s % 2 = 1
      · rw [if_pos hs, if_pos hs]; rfl
      · rw [if_neg hs, if_neg hs]; rfl
theorem bits_ls {n s : Nat} (hn : n ≤ 9) (h : s < 2 ^ n) : lsN (boolN n s) = bits s := by
  have hp := pow9 hn
  have e : bits s = ((List.range 62).filter fun j => s.testBit j).map fun j => ((0 + j : Nat) : Int) := bitsF_ls 62 0 s (by omega)
  rw [e]
  have hr : List.range 62 = List.range n ++ (List.range (62 - n)).map (n + ·) := by rw [← List.range_add]; congr 1; omega
  rw [hr, List.filter_append]
  have h2 : ((List.range (62 - n)).map (n + ·)).filter (fun j => s.testBit j) = [] := by
    rw [List.filter_eq_nil_iff]
    intro j hj
    obtain ⟨k, _, rfl⟩ := List.mem_map.1 hj
    rw [Nat.testBit_lt_two_pow (Nat.lt_of_lt_of_le h (Nat.pow_le_pow_right (by omega) (by omega)))]; simp
  rw [h2, List.append_nil]
  unfold lsN lsK
  rw [boolN_len]
  have h3 : ((List.range n).filter fun j => (boolN n s).getD j false) = (List.range n).filter fun j => s.testBit j := by
    apply List.filter_congr
    intro j hj
    exact boolN_get (List.mem_range.1 hj)
  rw [h3]
  apply List.map_congr_left; intro j _; congr 1; omega
end GA
end

section
namespace GA
open Go Go.RowKit Go.Proofs
set_option pp.deepTerms true
set_option maxRecDepth 8000
set_option linter.unusedVariables false
set_option linter.unusedSimpArgs false

theorem sumW_take : ∀ (ws : List Nat) (k s : Nat), k < ws.length → sumW (ws.take (k + 1)) s = sumW (ws.take k) s + if s.testBit k = true then ws.getD k 0 else 0
  | [], _, _, h => by simp at h
  | w :: ws, 0, s, h => by
    have e : sumW ((w :: ws).take 1) s = (if s % 2 = 1 then w else 0) + sumW [] (s / 2) := rfl
    have e2 : sumW ((w :: ws).take 0) s = 0 := rfl
    rw [e, e2, Nat.testBit_zero]
    show _ + 0 = 0 + _
    by_cases hs : s % 2 = 1
    · rw [if_pos hs, if_pos (by simp [hs])]; simp
    · rw [if_neg hs, if_neg (by simp [hs])]
  | w :: ws, k + 1, s, h => by
    have ih := sumW_take ws k (s / 2) (by simpa using h)
    have e : sumW ((w :: ws).take (k + 1 + 1)) s = (if s % 2 = 1 then w else 0) + sumW (ws.take (k + 1)) (s / 2) := rfl
    have e2 : sumW ((w :: ws).take (k + 1)) s = (if s % 2 = 1 then w else 0) + sumW (ws.take k) (s / 2) := rfl
    rw [e, e2, ih, Nat.testBit_succ, List.getD_cons_succ]; omega
theorem right_no {l : Ld} (o : LdOk l) {s : Nat} (h : s < 2 ^ l.sacks.length) (hn : ¬ RightP l s) : rightB (openD l) s = false := by
  cases e : rightB (openD l) s
  · rfl
  · exact absurd ((right_iff o h).1 e) hn
set_option maxHeartbeats 1000000 in
theorem refRight_c (l : Ld) (o : LdOk l) (nl : Bool) (bs : List Bool) (hb : bs.length = l.sacks.length) : Comp Try.prog 42 [ldA l, .sl nl (bools bs)] (.bool (rightB (openD l) (setN bs))) := by
  have hn := o.n
  have ha := o.na
  have e1 : ((bools bs).length : Int) = l.sacks.length := by rw [List.length_map, hb]
  have e2 : ((l.apart.map prA).length : Int) = l.apart.length := by rw [List.length_map]
  have hws := wts_le o
  have hwl : (wts l).length = l.sacks.length := List.length_map _
  have hbit := setN_bit bs
  have hSl : setN bs < 2 ^ l.sacks.length := by rw [← hb]; exact setN_lt bs
  generalize hS : setN bs = S at hbit hSl
  refine Comp.body (T := tab) (res := [.tmp 4]) tab_ok [] Try.func42 rfl (by kernel_rfl) Try.ntmps42 rfl (by simp only [List.length_cons, List.length_nil]; decide) (by simp only [lowL, AV.low, ldL, lowBo]; rfl) ?_; conv => whnf
  skip
  refine Walk.loop tab_ok [] (fun k : Nat => k ≤ l.sacks.length ∧ ∀ j, j < k → bs.getD j false = true → Sub (ndS l j) S) (fun k => [(1, .sl nl (bools bs)), (2, .pim (ldC l)), (5, natA (sumW ((wts l).take k) S)), (6, natA k)]) (fun _ => []) (fun k => l.sacks.length - k) 0 ⟨by omega, by omega⟩ rfl ⟨rfl, rfl, rfl, rfl, trivial⟩ ?_
  rintro k ⟨hk, hks⟩
  have sT := fun h => sumW_take (wts l) k S h
  have sB : sumW ((wts l).take k) S ≤ 900 := by
    have := sumW_le ((wts l).take k) S (fun w hw => hws w (List.mem_of_mem_take hw))
    have h2 : ((wts l).take k).length ≤ 9 := by rw [List.length_take]; omega
    omega
  have sA : k = l.sacks.length → sumW ((wts l).take k) S = sumW (wts l) S := fun h => by rw [List.take_of_length_le (by omega)]
  generalize sumW ((wts l).take k) S = sm at sT sB sA
  conv => whnf
  repeat' first | (with_reducible apply XBr.not) | ((with_reducible apply XBr.dec) <;> (intro h; first | (exfalso; omega) | ((try simp only [List.length_map] at h); first | (exfalso; omega) | (conv => whnf)))) | ((first | (with_reducible refine XInt.i64 (by omega) (by omega) ?_) | ((with_reducible refine XIx.nat ?_ ?_ ?_); omega; (intro _; rfl))); conv => whnf) | ((with_reducible apply XBr.mk') <;> (intro h; conv => whnf))
  · have hw := refWeight_c l o k (by omega)
    have hB := refBundle_c l o k (by omega)
    have hwt := wt_le o (getD_mem (d := default) (show k < l.sacks.length by omega))
    have hwg := wts_get l (show k < l.sacks.length by omega)
    rw [hwg] at sT
    rw [← hwt.1] at hw
    have hbk : bs.getD k false = true := h
    have hsn : sumW ((wts l).take (k + 1)) S = sm + wt l (l.sacks.getD k default) := by
      rw [sT (by omega), if_pos (by rw [hbit]; exact hbk)]
    generalize wt l (l.sacks.getD k default) = w at hw hwt hsn
    have hnd := ndS_lt o k
    have hng := fun j (hj : j < l.sacks.length) => boolN_get (s := ndS l k) hj
    have hnl := boolN_len l.sacks.length (ndS l k)
    generalize boolN l.sacks.length (ndS l k) = ns at hB hng hnl
    repeat' first | ((first | (with_reducible refine XInt.i64 (by omega) (by omega) ?_) | (refine XCall.ret hw ?_) | (refine XCall.ret hB ?_)); conv => whnf)
    refine Walk.loop tab_ok [] (fun q : Nat => q ≤ l.sacks.length ∧ ∀ j, j < q → ns.getD j false = true → bs.getD j false = true) (fun q => [(1, .sl nl (bools bs)), (2, .pim (ldC l)), (5, natA (sm + w)), (6, natA k), (7, .sl false (bools ns)), (8, natA q)]) (fun _ => []) (fun q => l.sacks.length - q) 0 ⟨by omega, by omega⟩ rfl ⟨rfl, rfl, rfl, rfl, rfl, rfl, trivial⟩ ?_
    rintro q ⟨hq, hqs⟩
    have e4 : ((bools ns).length : Int) = l.sacks.length := by rw [List.length_map, hnl]
    conv => whnf
    repeat' first | ((first | (with_reducible apply XBr.tt) | (with_reducible apply XBr.ff)); conv => whnf) | (with_reducible apply XBr.not) | ((with_reducible apply XBr.dec) <;> (intro h; first | (exfalso; omega) | ((try simp only [List.length_map] at h); first | (exfalso; omega) | (conv => whnf)))) | ((first | (with_reducible refine XInt.i64 (by omega) (by omega) ?_) | ((with_reducible refine XIx.nat ?_ ?_ ?_); omega; (intro _; rfl))); conv => whnf) | ((with_reducible apply XBr.mk') <;> (intro h; conv => whnf))
    · refine XAgain.go (q + 1) ⟨by omega, fun j hj hnj => ?_⟩ (by omega) rfl ⟨rfl, rfl, rfl, rfl, rfl, rfl, trivial⟩
      by_cases e : j = q
      · subst e; exact h
      · exact hqs j (by omega) hnj
    · refine XOut.bool (right_no o hSl fun hr => ?_).symm
      have hq1 : ns.getD q false = true := by assumption
      have hq2 : bs.getD q false = false := h
      have := nd_least hr.wp (i := k) (by rw [hbit]; exact hbk) q (by rw [← ndS, ← hng q (by omega)]; exact hq1)
      rw [hbit, hq2] at this; cases this
    · refine XAgain.go (q + 1) ⟨by omega, fun j hj hnj => ?_⟩ (by omega) rfl ⟨rfl, rfl, rfl, rfl, rfl, rfl, trivial⟩
      by_cases e : j = q
      · subst e; rw [show ns.getD j false = false from h] at hnj; cases hnj
      · exact hqs j (by omega) hnj
    · refine XAgain.go (k + 1) ⟨by omega, fun j hj hbj => ?_⟩ (by omega) rfl ⟨rfl, rfl, ?_, rfl, trivial⟩
      · by_cases e : j = k
        · subst e
          intro x hx
          have hxl := bit_lt hnd hx
          rw [hbit]
          exact hqs x (by omega) (by rw [hng x hxl]; exact hx)
        · exact hks j (by omega) hbj
      · rw [hsn]; rfl
  · refine XAgain.go (k + 1) ⟨by omega, fun j hj hbj => ?_⟩ (by omega) rfl ⟨rfl, rfl, ?_, rfl, trivial⟩
    · by_cases e : j = k
      · subst e; rw [show bs.getD j false = false from h] at hbj; cases hbj
      · exact hks j (by omega) hbj
    · rw [sT (by omega), if_neg (by rw [hbit, show bs.getD k false = false from h]; simp)]; rfl
  have hcl : Cl l S := by
    intro p hp
    have b := o.wp p hp
    have c1 : S.testBit p.1.toNat = true → S.testBit p.2.toNat = true := fun h1 => by
      refine hks p.1.toNat (by omega) (by rw [← hbit]; exact h1) _ ?_
      rw [← nd_cl o _ p hp]; exact nd_self o (by omega)
    have c2 : S.testBit p.2.toNat = true → S.testBit p.1.toNat = true := fun h1 => by
      refine hks p.2.toNat (by omega) (by rw [← hbit]; exact h1) _ ?_
      rw [nd_cl o _ p hp]; exact nd_self o (by omega)
    cases h1 : S.testBit p.1.toNat
    · cases h2 : S.testBit p.2.toNat
      · rfl
      · rw [c2 h2] at h1; cases h1
    · rw [c1 h1]
  obtain rfl : k = l.sacks.length := by omega
  have hsm := sA rfl
  clear sT sA hks
  refine Walk.loop tab_ok [] (fun j : Nat => j ≤ l.apart.length ∧ ∀ i, i < j → ¬ (S.testBit (l.apart.getD i default).1.toNat = true ∧ S.testBit (l.apart.getD i default).2.toNat = true)) (fun j => [(1, .sl nl (bools bs)), (2, .pim (ldC l)), (5, natA sm), (9, natA j)]) (fun _ => []) (fun j => l.apart.length - j) 0 ⟨by omega, by omega⟩ rfl ⟨rfl, rfl, rfl, rfl, trivial⟩ ?_
  rintro j ⟨hj, hjs⟩
  have hap : j < l.apart.length → l.apart.getD j default ∈ l.apart := fun h => getD_mem h
  have hapr : j < l.apart.length → 0 ≤ (l.apart.getD j default).1 ∧ (l.apart.getD j default).1 < l.sacks.length ∧ 0 ≤ (l.apart.getD j default).2 ∧ (l.apart.getD j default).2 < l.sacks.length ∧ (l.apart.getD j default).1 ≠ (l.apart.getD j default).2 := fun h => o.ap _ (hap h)
  conv => whnf
  repeat' first | ((first | (with_reducible apply XBr.tt) | (with_reducible apply XBr.ff)); conv => whnf) | ((with_reducible apply XBr.dec) <;> (intro h; first | (exfalso; omega) | ((try simp only [List.length_map] at h); first | (exfalso; omega) | (conv => whnf)))) | ((first | (with_reducible refine XInt.i64 (by omega) (by omega) ?_) | ((with_reducible refine XIx.nat ?_ ?_ ?_); omega; (intro _; rfl)) | ((with_reducible refine XIx.map ?_ ?_ ?_ ?_); omega; omega; (intro _; rfl)) | (refine XArr.mk (by decide) (by decide) ?_)); conv => whnf) | ((with_reducible apply XBr.mk') <;> (intro h; conv => whnf))
  · refine XOut.bool (right_no o hSl fun hr => ?_).symm
    have h1 : bs.getD (l.apart.getD j default).1.toNat false = true := by assumption
    have h2 : bs.getD (l.apart.getD j default).2.toNat false = true := h
    exact hr.ap _ (hap (by omega)) ⟨by rw [hbit]; exact h1, by rw [hbit]; exact h2⟩
  · refine XAgain.go (j + 1) ⟨by omega, fun i hi hh => ?_⟩ (by omega) rfl ⟨rfl, rfl, rfl, rfl, trivial⟩
    by_cases e : i = j
    · subst e
      have h2 : bs.getD (l.apart.getD i default).2.toNat false = false := h
      rw [hbit, hbit, h2] at hh; cases hh.2
    · exact hjs i (by omega) hh
  · refine XAgain.go (j + 1) ⟨by omega, fun i hi hh => ?_⟩ (by omega) rfl ⟨rfl, rfl, rfl, rfl, trivial⟩
    by_cases e : i = j
    · subst e
      have h2 : bs.getD (l.apart.getD i default).1.toNat false = false := h
      rw [hbit, hbit, h2] at hh; cases hh.1
    · exact hjs i (by omega) hh
  · refine XOut.bool ?_
    rw [Bool.eq_iff_iff, right_iff o hSl, decide_eq_true_eq]
    constructor
    · intro hw
      refine ⟨by rw [← hsm]; exact hw, hcl, fun p hp => ?_⟩
      obtain ⟨i, hi, rfl⟩ := List.mem_iff_getElem.1 hp
      have := hjs i (by omega)
      rwa [List.getD_eq_getElem?_getD (l := l.apart), List.getElem?_eq_getElem hi] at this
    · intro hr; have := hr.w; rw [← hsm] at this; exact this
end GA
end

section
namespace GA
open Go Go.RowKit Go.Proofs
set_option pp.deepTerms true
set_option maxRecDepth 8000
set_option linter.unusedVariables false
set_option linter.unusedSimpArgs false

theorem eqI (n1 n2 : Bool) (xs : List Int) (hx : xs.length ≤ 100000) : Comp Try.prog 30 [.sl n1 (ints xs), .sl n2 (ints xs)] (.bool true) := by
  have h := eq_int n1 n2 xs xs hx
  rwa [show (xs == xs) = true by simp] at h
def reL (l : Ld) (a b c : Bool) : Ld := ⟨l.bears, l.shrink, a, l.sacks, b, l.apart, c, l.wth⟩
theorem ownL_re (l : Ld) : ownL l = reL l false false false := rfl
theorem thL_re (l : Ld) : thL l = reL l l.sacks.isEmpty l.nla l.nlw := rfl
theorem closeF_re (l : Ld) (a b c : Bool) : ∀ (n : Nat) (x : List Nat), closeF (reL l a b c) n x = closeF l n x
  | 0, _ => rfl
  | n + 1, x => by
    show (if joinR l x = x then x else closeF (reL l a b c) n (joinR l x)) = if joinR l x = x then x else closeF l n (joinR l x)
    rw [closeF_re l a b c n]
theorem nd_re (l : Ld) (a b c : Bool) : (openD (reL l a b c)).nd = (openD l).nd := closeF_re l a b c 5000 _
theorem right_re (l : Ld) (a b c : Bool) (s : Nat) : rightB (openD (reL l a b c)) s = rightB (openD l) s := by
  unfold rightB wholeB
  rw [nd_re]; rfl
theorem reL_ok {l : Ld} (o : LdOk l) (a b c : Bool) : LdOk (reL l a b c) := ⟨o.n, o.na, o.nw, o.b1, o.b2, o.s1, o.s2, o.sk, o.ap, o.wp⟩
end GA
end

section
namespace GA
open Go Go.RowKit Go.Proofs
set_option pp.deepTerms true
set_option maxRecDepth 8000
set_option linter.unusedVariables false
set_option linter.unusedSimpArgs false

theorem drop_next {α : Type} [Inhabited α] {xs : List α} {k : Nat} (h : k < xs.length) : xs.drop k = xs.getD k default :: xs.drop (k + 1) := by
  rw [List.drop_eq_getElem_cons h, List.getD_eq_getElem?_getD, List.getElem?_eq_getElem h]; rfl
end GA
end

section
namespace GA
open Go Go.RowKit
set_option linter.unusedVariables false
section
variable {P : Program} {N : Nat} {ρ : Option Nat} {E : Env} {h h' : Nat → Option Obj} {β : Nat → Value} {H H' : List Blk} {w : World} {σ : St}

theorem gr_frz (s : SR P E h β H w) {i n : Nat} {t : TypeId} {nl : Bool} {els : List AV} (hi : H[i]? = some (.grow t nl els)) (hn : els.length = n) {v : Value} (hr : Rep P h β H (.gr i n) v) (X : Ext h β H h' β H')
    (hfz : ∀ b o, blkOf β H i = some b → w.heap[b]? = some o → h' b = some o) : Rep P h' β H' (.sl nl els) v := by
  cases hr with
  | gr ho hl hv =>
    obtain ⟨_, h2⟩ := hv _ _ _ hi
    have hβ := h2 hn
    subst hβ
    rcases s.blk i _ hi with ⟨rfl, rfl, h3⟩ | ⟨rfl, rfl, b, h3⟩ | ⟨rfl, b, cap, c, h3, h4, h5, h6, h7, h8, h9, h10, h11, us, h12, h13⟩
    · rw [h3]; exact .slnil
    · rw [h3]; exact .slemp
    · rw [h3]
      cases els with
      | nil => exact .slemp
      | cons e0 l0 =>
        have hbo : blkOf β H i = some b := by simp only [blkOf, hi, h3, anchor]; rw [if_neg (by omega)]
        exact .sl us rfl (by simp) (hfz b _ hbo h5) h10 h9 h11 h6 (fun j x e => by rw [Nat.zero_add]; exact h12 j x e) (fun j x e => X.rep (h13 j x e))

theorem Walk.freeze {c : Code} {Q : Post} {D : List Nat} (u i n : Nat) {t : TypeId} {nl : Bool} {els : List AV} (hu : σ u = some (.gr i n)) (hi : lget H i = some (.grow t nl els)) (hn : els.length = n) (x : Walk P N ρ c Q D (updX σ u (.sl nl els)) (H.set i .dead)) : Walk P N ρ c Q D σ H := by
  constructor
  intro E h β a w s
  rw [lget_eq] at hi
  obtain ⟨h', s1, X, hfz⟩ := s.sr.freeze hi
  refine wpIn_mono (x.o E h' _ a w ⟨s1, fun t' r e => ?_, s.size, s.df.ext X⟩) fun _ _ _ => Conc.ext X
  rw [updX_eq] at e; unfold upd at e
  split at e
  · rename_i hh; subst hh; cases e
    obtain ⟨v, h1, h2⟩ := s.fits _ _ hu
    exact ⟨v, h1, gr_frz s.sr hi hn h2 X hfz⟩
  · obtain ⟨v, h1, h2⟩ := s.fits t' r e
    exact ⟨v, h1, X.rep h2⟩
theorem Walk.freezeCell {c : Code} {Q : Post} {D : List Nat} (j o i n : Nat) {cs : List AV} {t : TypeId} {nl : Bool} {els : List AV} (hj : lget H j = some (.cells cs)) (hc : lget cs o = some (.gr i n)) (hi : lget H i = some (.grow t nl els)) (hn : els.length = n)
    (x : Walk P N ρ c Q D σ ((H.set i .dead).set j (.cells (cs.set o (.sl nl els))))) : Walk P N ρ c Q D σ H := by
  constructor
  intro E h β a w s
  rw [lget_eq] at hi hj hc
  have hlo := (List.getElem?_eq_some_iff.1 hc).1
  have hij : i ≠ j := by rintro rfl; rw [hi] at hj; cases hj
  obtain ⟨h', s1, X1, hfz⟩ := s.sr.freeze hi
  have hj1 : (H.set i .dead)[j]? = some (.cells cs) := by rw [List.getElem?_set_ne hij]; exact hj
  obtain ⟨s2, X2⟩ := s1.modify (β' := β) (w' := w) (x' := .cells (cs.set o (.sl nl els))) hj1 (fun _ _ => rfl) (.inr ⟨_, rfl, rfl⟩) s1.env (fun _ _ _ => rfl) (fun b e => .inl (by unfold blkOf; rw [hj1]; exact e)) (fun X => by
    obtain ⟨b, c, t, h1, h2, h3, h4, us, h5, h6⟩ := s.sr.blk j _ hj
    refine ⟨b, c, t, h1, h2, by rw [List.length_set]; exact h3, fun y hy => ?_, us, fun i y e => ?_, fun i y e => ?_⟩
    · rcases List.mem_or_eq_of_mem_set hy with hy | rfl
      · exact h4 y hy
      · rfl
    · by_cases hio : o = i
      · subst hio; exact h5 o _ hc
      · rw [List.getElem?_set_ne hio] at e; exact h5 i y e
    · by_cases hio : o = i
      · subst hio
        rw [List.getElem?_set_self hlo] at e; cases e
        exact gr_frz s.sr hi hn (h6 o _ hc) (X1.trans X) hfz
      · rw [List.getElem?_set_ne hio] at e; exact (X1.trans X).rep (h6 i y e))
  exact wpIn_mono (x.o E h' _ a w ⟨s2, fun u r e => let ⟨v, h1, h2⟩ := s.fits u r e; ⟨v, h1, (X1.trans X2).rep h2⟩, s.size, s.df.ext (X1.trans X2)⟩) fun _ _ _ => Conc.ext (X1.trans X2)

inductive FrzV (i n : Nat) (nl : Bool) (els : List AV) : AV → AV → Prop
  | same {x : AV} : FrzV i n nl els x x
  | gr : FrzV i n nl els (.gr i n) (.sl nl els)
  | agg {cs cs' : List AV} (hl : cs'.length = cs.length) (hone : ∀ x ∈ cs', x.one = true) (ho : ∀ (j : Nat) x', cs'[j]? = some x' → ∃ x, cs[j]? = some x ∧ (x' = x ∨ (x = .gr i n ∧ x' = .sl nl els))) : FrzV i n nl els (.agg cs) (.agg cs')
structure FrzL (i n : Nat) (nl : Bool) (els : List AV) (rs rs' : List AV) : Prop where
  l : rs'.length = rs.length
  o : ∀ (j : Nat) x', rs'[j]? = some x' → ∃ x, rs[j]? = some x ∧ FrzV i n nl els x x'
structure FrzC (i n : Nat) (nl : Bool) (els : List AV) (rs rs' : List AV) : Prop where
  l : rs'.length = rs.length
  o : ∀ (j : Nat) x', rs'[j]? = some x' → ∃ x, rs[j]? = some x ∧ (x' = x ∨ (x = .gr i n ∧ x' = .sl nl els))
section
variable {i n : Nat} {nl : Bool} {els : List AV}
theorem FrzC.nil : FrzC i n nl els [] [] := ⟨rfl, by simp⟩
theorem FrzC.cons {x y : AV} {rs rs' : List AV} (hx : y = x ∨ (x = .gr i n ∧ y = .sl nl els)) (h : FrzC i n nl els rs rs') : FrzC i n nl els (x :: rs) (y :: rs') := by
  refine ⟨by simp [h.l], fun j z e => ?_⟩
  cases j with
  | zero => simp at e; subst e; exact ⟨_, rfl, hx⟩
  | succ j => exact h.o j z (by simpa using e)
theorem FrzC.same {x : AV} {rs rs' : List AV} (h : FrzC i n nl els rs rs') : FrzC i n nl els (x :: rs) (x :: rs') := .cons (.inl rfl) h
theorem FrzC.gr {rs rs' : List AV} (h : FrzC i n nl els rs rs') : FrzC i n nl els (.gr i n :: rs) (.sl nl els :: rs') := .cons (.inr ⟨rfl, rfl⟩) h
theorem FrzL.nil : FrzL i n nl els [] [] := ⟨rfl, by simp⟩
theorem FrzL.cons {x y : AV} {rs rs' : List AV} (hx : FrzV i n nl els x y) (h : FrzL i n nl els rs rs') : FrzL i n nl els (x :: rs) (y :: rs') := by
  refine ⟨by simp [h.l], fun j z e => ?_⟩
  cases j with
  | zero => simp at e; subst e; exact ⟨_, rfl, hx⟩
  | succ j => exact h.o j z (by simpa using e)
theorem FrzL.same {x : AV} {rs rs' : List AV} (h : FrzL i n nl els rs rs') : FrzL i n nl els (x :: rs) (x :: rs') := .cons .same h
theorem FrzL.gr {rs rs' : List AV} (h : FrzL i n nl els rs rs') : FrzL i n nl els (.gr i n :: rs) (.sl nl els :: rs') := .cons .gr h
theorem FrzL.agg {cs cs' rs rs' : List AV} (hone : ∀ x ∈ cs', x.one = true) (hc : FrzC i n nl els cs cs') (h : FrzL i n nl els rs rs') : FrzL i n nl els (.agg cs :: rs) (.agg cs' :: rs') := .cons (.agg hc.l hone hc.o) h
theorem FrzV.rep (s : SR P E h β H w) {t : TypeId} (hi : H[i]? = some (.grow t nl els)) (hn : els.length = n) (X : Ext h β H h' β H') (hfz : ∀ b o, blkOf β H i = some b → w.heap[b]? = some o → h' b = some o) {x y : AV} (hv : FrzV i n nl els x y) {v : Value} (hr : Rep P h β H x v) : Rep P h' β H' y v := by
  cases hv with
  | same => exact X.rep hr
  | gr => exact gr_frz s hi hn hr X hfz
  | agg hl hone ho =>
    cases hr with
    | agg us h1 h2 h3 h4 =>
      refine .agg us (by rw [h1, hl]) hone (fun j x e => ?_) (fun j x e => ?_)
      · obtain ⟨z, e1, _⟩ := ho j x e; exact h3 j z e1
      · obtain ⟨z, e1, e2⟩ := ho j x e
        rcases e2 with rfl | ⟨rfl, rfl⟩
        · exact X.rep (h4 j _ e1)
        · exact gr_frz s hi hn (h4 j _ e1) X hfz
end
theorem XCall.frz {f : FuncId} {rs rs' : List AV} {k : AV → List Blk → Prop} (i n : Nat) {t : TypeId} {nl : Bool} {els : List AV} (hi : lget H i = some (.grow t nl els)) (hn : els.length = n) (hv : FrzL i n nl els rs rs')
    (H' : List Blk) (hH : ∀ E h β w, SR P E h β H w → ∀ h', SR P E h' β (H.set i .dead) w → Ext h β H h' β (H.set i .dead) → (∀ b o, blkOf β H i = some b → w.heap[b]? = some o → h' b = some o) → SR P E h' β H' w ∧ Ext h β H h' β H') (x : XCall P f rs' H' k) : XCall P f rs H k := by
  rw [lget_eq] at hi
  refine ⟨x.o.1, fun E h β w vs s hr => ?_⟩
  obtain ⟨h', s1, X, hfz⟩ := s.freeze hi
  obtain ⟨s2, X2⟩ := hH E h β w s h' s1 X hfz
  have hr' : RepL P h' β H' rs' vs := ⟨by rw [hv.l]; exact hr.1, fun j y e => by
    obtain ⟨z, e1, e2⟩ := hv.o j y e
    obtain ⟨v, e3, e4⟩ := hr.2 j z e1
    exact ⟨v, e3, e2.rep s hi hn X2 hfz e4⟩⟩
  refine (x.o.2 E h' β w vs s2 hr').mono ?_
  rintro e w' ⟨r, H'', h'', β'', v, e1, e2, e3, e4⟩
  exact ⟨r, H'', h'', β'', v, e1, e2, X2.trans e3, e4⟩
theorem XCall.freeze {f : FuncId} {rs rs' : List AV} {k : AV → List Blk → Prop} (i n : Nat) {t : TypeId} {nl : Bool} {els : List AV} (hi : lget H i = some (.grow t nl els)) (hn : els.length = n) (hv : FrzL i n nl els rs rs')
    (x : XCall P f rs' (H.set i .dead) k) : XCall P f rs H k :=
  .frz i n hi hn hv _ (fun _ _ _ _ _ _ s X _ => ⟨s, X⟩) x
theorem XCall.freezeCell {f : FuncId} {rs rs' : List AV} {k : AV → List Blk → Prop} (j o i n : Nat) {cs : List AV} {t : TypeId} {nl : Bool} {els : List AV} (hj : lget H j = some (.cells cs)) (hc : lget cs o = some (.gr i n)) (hi : lget H i = some (.grow t nl els)) (hn : els.length = n)
    (hv : FrzL i n nl els rs rs') (x : XCall P f rs' ((H.set i .dead).set j (.cells (cs.set o (.sl nl els)))) k) : XCall P f rs H k := by
  refine .frz i n hi hn hv _ (fun E h β w s h' s1 X1 hfz => ?_) x
  rw [lget_eq] at hi hj hc
  have hlo := (List.getElem?_eq_some_iff.1 hc).1
  have hij : i ≠ j := by rintro rfl; rw [hi] at hj; cases hj
  have hj1 : (H.set i .dead)[j]? = some (.cells cs) := by rw [List.getElem?_set_ne hij]; exact hj
  obtain ⟨s2, X2⟩ := s1.modify (β' := β) (w' := w) (x' := .cells (cs.set o (.sl nl els))) hj1 (fun _ _ => rfl) (.inr ⟨_, rfl, rfl⟩) s1.env (fun _ _ _ => rfl) (fun b e => .inl (by unfold blkOf; rw [hj1]; exact e)) (fun X => by
    obtain ⟨b, c, t, h1, h2, h3, h4, us, h5, h6⟩ := s.blk j _ hj
    refine ⟨b, c, t, h1, h2, by rw [List.length_set]; exact h3, fun y hy => ?_, us, fun i y e => ?_, fun i y e => ?_⟩
    · rcases List.mem_or_eq_of_mem_set hy with hy | rfl
      · exact h4 y hy
      · rfl
    · by_cases hio : o = i
      · subst hio; exact h5 o _ hc
      · rw [List.getElem?_set_ne hio] at e; exact h5 i y e
    · by_cases hio : o = i
      · subst hio
        rw [List.getElem?_set_self hlo] at e; cases e
        exact gr_frz s hi hn (h6 o _ hc) (X1.trans X) hfz
      · rw [List.getElem?_set_ne hio] at e; exact (X1.trans X).rep (h6 i y e))
  exact ⟨s2, X1.trans X2⟩
end
end GA
end

section
namespace GA
open Go Go.RowKit
set_option linter.unusedVariables false
section
variable {F : Fence} {n : Nat} {P : Program} {Q : Exit → Act → World → Prop} {a : Act} {w : World}
theorem stepR_scope {b : Frame} {k : List Item} {cs : List Frame} {c : Code} : step P (lone (b.atR a (.code (.scope c) :: k)) cs w) = .next (lone (b.atR a (.code c :: .inScope c :: k)) cs w) :=
  step_lone_go (by simp [stepG, stepG.exec, Frame.atR])
theorem stepR_inScope {b : Frame} {k : List Item} {cs : List Frame} {c : Code} : step P (lone (b.atR a (.inScope c :: k)) cs w) = .next (lone (b.atR a k) cs w) :=
  step_lone_go (by simp [stepG, stepG.exec, Frame.atR])
theorem wpIn_scope {c : Code} (h : c.wpIn F n P (Exit.noGoto Q) a w) : (Code.scope c).wpIn F n P Q a w := by
  intro b k cs hro hb hr
  have h0 : (lone (b.atR a (.code (.scope c) :: k)) cs w).fenced P F := fenced_calm hb hr rfl
  obtain ⟨e, a₁, w₁, hq, harr⟩ := h b (.inScope c :: k) cs hro hb hr
  cases e with
  | normal => exact ⟨.normal, a₁, w₁, hq, .head h0 stepR_scope (StepsIn.trans harr (.one (fenced_calm hb hr rfl) stepR_inScope))⟩
  | exit id =>
    have hx : exitTo id (.inScope c :: k) = exitTo id k := by simp [exitTo]
    exact ⟨.exit id, a₁, w₁, hq, fun k' hk => .head h0 stepR_scope (harr.1 k' (by rw [hx]; exact hk)),
      fun hr' hk => let ⟨k₁, h1, h2⟩ := harr.2 hr' (by rw [hx]; exact hk); ⟨k₁, h1, .head h0 stepR_scope h2⟩⟩
  | goto l => exact hq.elim
  | ret => exact ⟨_, a₁, w₁, hq, .of_steps (.one h0 stepR_scope) harr⟩
  | panic ch => exact ⟨_, a₁, w₁, hq, .of_steps (.one h0 stepR_scope) harr⟩
  | outgrown => exact ⟨_, a₁, w₁, hq, .of_steps (.one h0 stepR_scope) harr⟩
end
section
variable {P : Program} {T : Tab} {N : Nat} {ρ : Option Nat} {D : List Nat} {σ : St} {H : List Blk} {Q : Post} {own : List Nat}
def scopeX (Q : Post) : Post
  | .goto _, _, _, _ => False
  | e, D, σ, H => Q e D σ H
theorem Walk.scope {c : Code} (ok : TabOk P T) (own : List Nat) (x : XRun P T N ρ own c (scopeX Q) D σ H) : Walk P N ρ (.scope c) Q D σ H := by
  constructor
  intro E h β a w s
  refine wpIn_scope (wpIn_mono (XRun.sound ok x E h β a w s) ?_)
  rintro e a' w' ⟨D', σ', H', h', β', q, X, s'⟩
  cases e with
  | goto l => exact q.elim
  | _ => exact ⟨D', σ', H', h', β', q, X, s'⟩
theorem Walk.label {l : Nat} (x : Q .normal D σ H) : Walk P N ρ (.label l) Q D σ H :=
  ⟨fun E h β a w s => wpIn_label ⟨D, σ, H, h, β, x, Ext.refl _ _ _, s⟩⟩
end
end GA
end

section
namespace GA
open Go Go.RowKit
set_option linter.unusedVariables false

section
variable {P : Program} {T : Tab} {N : Nat} {ρ : Option Nat} {D : List Nat} {σ : St} {H : List Blk} {Q : Post}

def XKeep (P : Program) (n : Nat) (H : List Blk) (r r' : AV) : Prop := FrozN P n H r r' ∨ (r' = r ∧ r.low n = true)
theorem XKeep.same {n : Nat} {r : AV} (h : r.low n = true) : XKeep P n H r r := .inr ⟨rfl, h⟩
theorem XKeep.gr {n i m : Nat} {t : TypeId} {nl : Bool} {els : List AV} (hi : n ≤ i) (hb : lget H i = some (.grow t nl els)) (hn : els.length = m) (hl : lowL 0 els = true) : XKeep P n H (.gr i m) (.sl nl els) := .inl (.grow hi hb hn hl)
def SubF (P : Program) (n : Nat) (H : List Blk) : List (Nat × AV) → St → Prop
  | [], _ => True
  | (t, r') :: l, σ => (∃ r, σ t = some r ∧ XKeep P n H r r') ∧ SubF P n H l σ
theorem stX_subF {n : Nat} : ∀ {l : List (Nat × AV)} {σ : St}, SubF P n H l σ → ∀ t r, stX l t = some r → ∃ r0, σ t = some r0 ∧ XKeep P n H r0 r
  | [], _, _, _, _, e => by cases e
  | (u, x) :: l, σ, h, t, r, e => by
    simp only [stX, updX_eq, upd] at e
    split at e
    · rename_i h1; subst h1; cases e; exact h.1
    · exact stX_subF h.2 t r e

theorem AWp.loopF {c : Code} {G : Type} (st : G → St) (hp : G → List Blk) (μ : G → Nat) (g0 : G) (hσ : ∀ t r, st g0 t = some r → σ t = some r) (hH : hp g0 = H) (hD : D = [])
    (hlow : ∀ g, ∀ x ∈ hp g, x.low (hp g).length = true) (hlen : ∀ g, (hp g0).length ≤ (hp g).length)
    (round : ∀ g, AWp P N ρ c (thenQ (fun D' σ' H' => D' = D ∧ ∃ g' l, μ g' < μ g ∧ hp g' ++ l = H' ∧ ∀ t r, st g' t = some r → ∃ r0, σ' t = some r0 ∧ XKeep P (hp g').length H' r0 r) Q) D (st g) (hp g)) : AWp P N ρ (.loop c) Q D σ H := by
  intro E h β a w s
  subst hH; subst hD
  let I : G → Act → World → Prop := fun g a w => ∃ h' β', Ext h β (hp g0) h' β' (hp g) ∧ Stands P E N h' β' [] (st g) (hp g) a w
  have least : ∀ a w, (∃ g, I g a w) → ∃ n, (∃ g, I g a w ∧ μ g = n) ∧ ∀ m, m < n → ¬ ∃ g, I g a w ∧ μ g = m :=
    fun a w ⟨g, hg⟩ => exists_least ⟨μ g, g, hg, rfl⟩
  classical
  let M : Act → World → Nat := fun a w => if e : ∃ g, I g a w then Classical.choose (least a w e) else 0
  have hM : ∀ a w (e : ∃ g, I g a w), (∃ g, I g a w ∧ μ g = M a w) ∧ ∀ g, I g a w → M a w ≤ μ g := by
    intro a w e
    have hc := Classical.choose_spec (least a w e)
    have hm : M a w = Classical.choose (least a w e) := by simp only [M, dif_pos e]
    rw [hm]
    refine ⟨hc.1, fun g hg => ?_⟩
    rcases Nat.lt_or_ge (μ g) (Classical.choose (least a w e)) with hlt | hge
    · exact absurd ⟨g, hg, rfl⟩ (hc.2 _ hlt)
    · exact hge
  refine wpIn_loop (fun a w => ∃ g, I g a w) M ⟨g0, h, β, Ext.refl _ _ _, s.sr, fun t r e => s.fits t r (hσ t r e), s.size, s.df⟩ ?_
  intro a' w' hI
  obtain ⟨⟨g, hg, hmu⟩, _⟩ := hM a' w' hI
  obtain ⟨h', β', X, s'⟩ := hg
  refine wpIn_mono (round g E h' β' a' w' s') ?_
  rintro e a'' w'' ⟨D'', σ'', H'', h'', β'', q, X', s''⟩
  cases e with
  | normal =>
    obtain ⟨rfl, g', l, hlt, rfl, hsub⟩ := q
    have XA : Ext h'' β'' (hp g' ++ l) (hallN (hp g').length h'' β'' (hp g' ++ l) w'') β'' (hp g' ++ l) := ⟨fun b o e => hallN_imm s''.sr e, Nat.le_refl _, fun i x x' e e' => by rw [e] at e'; cases e'; exact Blk.to_refl _ _ _⟩
    have hI' : I g' a'' w'' := by
      refine ⟨hallN (hp g').length h'' β'' (hp g' ++ l) w'', β'', ((X.trans X').trans XA).cut (hlen g'), s''.sr.allN (hlow g'), fun t r e => ?_, s''.size, (s''.df.ext XA).any⟩
      obtain ⟨r0, e1, e2⟩ := hsub t r e
      obtain ⟨v, h1, h2⟩ := s''.fits t r0 e1
      rcases e2 with e2 | ⟨rfl, e2⟩
      · exact ⟨v, h1, e2 E h'' β'' w'' s''.sr v h2 (hp g')⟩
      · exact ⟨v, h1, (XA.rep h2).cut e2⟩
    refine ⟨⟨g', hI'⟩, ?_⟩
    have := (hM a'' w'' ⟨g', hI'⟩).2 g' hI'
    omega
  | _ => exact ⟨D'', σ'', H'', h'', β'', q, X.trans X', s''⟩

structure XAgainF {G : Type} (P : Program) (I : G → Prop) (L : G → List (Nat × AV)) (hp : G → List Blk) (μ : G → Nat) (g : G) (D' : List Nat) (σ' : St) (H' : List Blk) : Prop where
  d : D' = []
  o : ∃ g' l, I g' ∧ μ g' < μ g ∧ hp g' ++ l = H' ∧ SubF P (hp g').length H' (L g') σ'
theorem Walk.loopF {c : Code} {G : Type} (ok : TabOk P T) (own : List Nat) (I : G → Prop) (L : G → List (Nat × AV)) (hp : G → List Blk) (μ : G → Nat) (g0 : G) (h0 : I g0) (hH : hp g0 = H) (hs : SubX (L g0) σ)
    (hlow : ∀ g, I g → ∀ x ∈ hp g, x.low (hp g).length = true) (hlen : ∀ g, I g → (hp g0).length ≤ (hp g).length)
    (round : ∀ g, I g → XRun P T N ρ own c (thenQ (XAgainF P I L hp μ g) Q) [] (stX (L g)) (hp g)) : Walk P N ρ (.loop c) Q [] σ H := by
  constructor
  refine AWp.loopF (G := {g : G // I g}) (fun g => stX (L g.1)) (fun g => hp g.1) (fun g => μ g.1) ⟨g0, h0⟩ (stX_sub hs) hH rfl (fun g => hlow g.1 g.2) (fun g => hlen g.1 g.2) fun g => ?_
  refine (XRun.sound ok (round g.1 g.2)).mono fun e D' σ' H' q => ?_
  cases e with
  | normal => obtain ⟨h1, g', l, h2, h3, h4, h5⟩ := q; exact ⟨h1, ⟨g', h2⟩, l, h3, h4, stX_subF h5⟩
  | _ => exact q
theorem XAgainF.go {G : Type} {I : G → Prop} {L : G → List (Nat × AV)} {hp : G → List Blk} {μ : G → Nat} {g : G} (g' : G) (l : List Blk) (h1 : I g') (h2 : μ g' < μ g) (h3 : hp g' ++ l = H) (h4 : SubF P (hp g').length H (L g') σ) : XAgainF P I L hp μ g [] σ H := ⟨rfl, g', l, h1, h2, h3, h4⟩
theorem Walk.keep {c : Code} (ok : TabOk P T) (own : List Nat) (H1 l : List Blk) (L : List (Nat × AV)) (hH : H1 ++ l = H) (hlow : ∀ x ∈ H1, x.low H1.length = true) (hs : SubF P H1.length H L σ) (hD : D = []) (x : XRun P T N ρ own c Q D (stX L) (H1 ++ l.map fun _ => .dead)) : Walk P N ρ c Q D σ H := by
  subst hH; subst hD
  constructor
  intro E h β a w s
  have hd : ∀ (l : List Blk) (i : Nat) x, (l.map fun _ => Blk.dead)[i]? = some x → x = .dead := fun l i x e => by
    rw [List.getElem?_map] at e
    cases hx : l[i]? with
    | none => rw [hx] at e; cases e
    | some y => rw [hx] at e; cases e; rfl
  have hlen : (l.map fun _ => Blk.dead).length = l.length := List.length_map _
  have X : Ext h β (H1 ++ l) (hallN H1.length h β (H1 ++ l) w) β (H1 ++ l.map fun _ => .dead) := by
    refine ⟨fun b o e => hallN_imm s.sr e, by simp, fun i x x' e e' => ?_⟩
    by_cases hi : i < H1.length
    · rw [List.getElem?_append_left hi] at e e'
      rw [e] at e'; cases e'; exact Blk.to_refl _ _ _
    · rw [List.getElem?_append_right (by omega)] at e'
      have := hd _ _ _ e'
      subst this
      cases x <;> first | rfl | trivial | exact .inl rfl
  have s1 := s.sr.allN hlow
  have X1 : Ext (hallN H1.length h β (H1 ++ l) w) β H1 (hallN H1.length h β (H1 ++ l) w) β (H1 ++ l.map fun _ => .dead) :=
    ⟨fun _ _ e => e, by simp, fun i x x' e e' => by rw [List.getElem?_append_left (List.getElem?_eq_some_iff.1 e).1, e] at e'; cases e'; exact Blk.to_refl _ _ _⟩
  have hbo : ∀ i b, blkOf β (H1 ++ l.map fun _ => .dead) i = some b → blkOf β H1 i = some b := fun i b e => by
    have hlt := (blkOf_some e).1
    by_cases hi : i < H1.length
    · rw [← e]; exact (blkOf_congr rfl (List.getElem?_append_left hi)).symm
    · exfalso
      unfold blkOf at e
      cases hx : (H1 ++ l.map fun _ => Blk.dead)[i]? with
      | none => rw [hx] at e; cases e
      | some x =>
        rw [hx] at e
        rw [List.getElem?_append_right (by omega)] at hx
        have := hd _ _ _ hx
        subst this; cases e
  have s2 : SR P E (hallN H1.length h β (H1 ++ l) w) β (H1 ++ l.map fun _ => .dead) w := by
    refine s1.grown X1 s1.env s1.imm (fun i x e => ?_) (fun i j b e1 e2 => s1.own i j b (hbo _ _ e1) (hbo _ _ e2)) (fun i b e => s1.fresh i b (hbo _ _ e)) s1.frm (fun i b e => s1.fro i b (hbo _ _ e))
    by_cases hi : i < H1.length
    · rw [List.getElem?_append_left hi] at e; exact .inl ⟨e, rfl, fun _ _ => rfl⟩
    · rw [List.getElem?_append_right (by omega)] at e
      have := hd _ _ _ e
      subst this; exact .inr trivial
  refine wpIn_mono (XRun.sound ok x E _ β a w ⟨s2, fun t r e => ?_, s.size, s.df.ext X⟩) fun _ _ _ => Conc.ext X
  obtain ⟨r0, e1, e2⟩ := stX_subF hs t r e
  obtain ⟨v, h1, h2⟩ := s.fits t r0 e1
  rcases e2 with e2 | ⟨rfl, e2⟩
  · exact ⟨v, h1, e2 E h β w s.sr v h2 _⟩
  · refine ⟨v, h1, X1.rep (Rep.cut (l := l) ?_ e2)⟩
    have XA : Ext h β (H1 ++ l) (hallN H1.length h β (H1 ++ l) w) β (H1 ++ l) := ⟨fun b o e => hallN_imm s.sr e, Nat.le_refl _, fun i x x' e e' => by rw [e] at e'; cases e'; exact Blk.to_refl _ _ _⟩
    exact XA.rep h2
end
end GA
end

section
namespace GA
open Go Go.RowKit Go.Proofs
set_option pp.deepTerms true
set_option maxRecDepth 8000
set_option linter.unusedVariables false
set_option linter.unusedSimpArgs false

def cmpI (a b : Int) : Int := if a < b then -1 else if b < a then 1 else 0
def cmpL : List Int → List Int → Int
  | [], [] => 0
  | [], _ :: _ => -1
  | _ :: _, [] => 1
  | x :: xs, y :: ys => if x < y then -1 else if y < x then 1 else cmpL xs ys
theorem isNaN_c (a : Int) : Comp Try.prog 149 [.int .i64 a] (.bool false) := by
  refine Comp.body (T := tab) (res := [.tmp 2]) tab_ok [] Try.func149 rfl (by kernel_rfl) Try.ntmps149 rfl (by simp only [List.length_cons, List.length_nil]; decide) (by rfl) ?_; conv => whnf
  exact XOut.bool (by simp)
theorem cmpCompare_c (a b : Int) : Comp Try.prog 146 [.int .i64 a, .int .i64 b] (.int .i64 (cmpI a b)) := by
  refine Comp.body (T := tab) (res := [.tmp 4]) tab_ok [] Try.func146 rfl (by kernel_rfl) Try.ntmps146 rfl (by simp only [List.length_cons, List.length_nil]; decide) (by rfl) ?_; conv => whnf
  repeat' first | ((with_reducible first | apply XBr.tt | apply XBr.ff | apply Chk.go | apply ChkA.go | apply ChkF.go | apply ChkB.go | apply XArr.pim0 | apply XArr.pim1); conv => whnf) | (with_reducible apply XBr.not) | ((with_reducible apply XBr.dec) <;> (intro h; first | (exfalso; omega) | ((try simp only [List.length_map] at h); first | (exfalso; omega) | (conv => whnf)))) | ((with_reducible first | apply XBr.beq | apply XBr.bne) <;> (intro h; first | (exfalso; omega) | (conv => whnf))) | ((with_reducible refine XInt.i64 (by omega) (by omega) ?_); conv => whnf) | ((with_reducible refine XHold.mk ?_ ?_); (first | omega | rfl | decide | exact ⟨rfl, by decide, rfl⟩ | exact wideI _ | exact widePr _ | exact wideSk _ | (unfold Room; constructor <;> ((try simp) <;> omega)) | exact ⟨rfl, by simp only [List.length_map], by unfold Room; constructor <;> ((try simp) <;> omega)⟩ | exact ⟨by omega, by omega, by unfold Room; constructor <;> ((try simp) <;> omega)⟩); conv => whnf) | ((first | ((with_reducible refine XIx.nat ?_ ?_ ?_); omega; (intro _; rfl)) | ((with_reducible refine XIx.map ?_ ?_ ?_ ?_); omega; omega; (intro _; rfl))); conv => whnf) | (with_reducible apply XAnd.mk) | (exact XSame.mk rfl rfl) | (exact XSame.mk (by first | rfl | (simp only [List.map_append, List.length_append, List.length_map]; done) | (simp only [List.map_append, List.length_append, List.length_map]; rfl)) (by first | rfl | (simp only [List.map_append]; done) | (simp only [List.map_append]; rfl))) | (with_reducible exact trivial) | ((first | (with_reducible refine xdrop_app (by rw [List.length_map]; omega) ?_) | (with_reducible refine XDrop.desk (by assumption) ?_) | (with_reducible first | refine XArr.ints (by omega) (by omega) (by omega) ?_ | refine XArr.intsA (by omega) (by omega) (by omega) ?_) | ((with_reducible first | refine XArr.nats ?_ ?_ ?_ | refine XArr.natsA ?_ ?_ ?_ | refine XArr.ptr ?_ ?_ ?_); omega; omega) | (refine XCall.ret (isNaN_c _) ?_)); conv => whnf) | ((with_reducible apply XBr.mk') <;> (intro h; conv => whnf))
  all_goals refine XOut.int ?_; unfold cmpI; split <;> first | rfl | omega | (split <;> first | rfl | omega)
theorem cmpL_next {xs ys : List Int} {k : Nat} (hx : k < xs.length) (hy : k < ys.length) : cmpL (xs.drop k) (ys.drop k) = if xs.getD k default < ys.getD k default then -1 else if ys.getD k default < xs.getD k default then 1 else cmpL (xs.drop (k + 1)) (ys.drop (k + 1)) := by
  rw [drop_next hx, drop_next hy]; rfl
theorem cmpL_long {xs ys : List Int} {k : Nat} (hx : k < xs.length) (hy : ys.length ≤ k) : cmpL (xs.drop k) (ys.drop k) = 1 := by
  rw [drop_next hx, List.drop_of_length_le hy]; rfl
theorem cmpL_short {xs ys : List Int} {k : Nat} (hx : xs.length ≤ k) (hy : k < ys.length) : cmpL (xs.drop k) (ys.drop k) = -1 := by
  rw [drop_next hy, List.drop_of_length_le hx]; rfl
theorem cmpL_both {xs ys : List Int} {k : Nat} (hx : xs.length ≤ k) (hy : ys.length ≤ k) : cmpL (xs.drop k) (ys.drop k) = 0 := by
  rw [List.drop_of_length_le hy, List.drop_of_length_le hx]; rfl
theorem compare_c (n1 n2 : Bool) (xs ys : List Int) (hx : xs.length ≤ 100000) (hy : ys.length ≤ 100000) : Comp Try.prog 118 [.sl n1 (ints xs), .sl n2 (ints ys)] (.int .i64 (cmpL xs ys)) := by
  have e1 : ((ints xs).length : Int) = xs.length := by rw [List.length_map]
  have e2 : ((ints ys).length : Int) = ys.length := by rw [List.length_map]
  refine Comp.body (T := tab) (res := [.tmp 4]) tab_ok [] Try.func118 rfl (by kernel_rfl) Try.ntmps118 rfl (by simp only [List.length_cons, List.length_nil]; decide) (by simp only [lowL, AV.low, lowI]; rfl) ?_; conv => whnf
  repeat' first | ((with_reducible first | apply XBr.tt | apply XBr.ff | apply Chk.go | apply ChkA.go | apply ChkF.go | apply ChkB.go | apply XArr.pim0 | apply XArr.pim1); conv => whnf) | (with_reducible apply XBr.not) | ((with_reducible apply XBr.dec) <;> (intro h; first | (exfalso; omega) | ((try simp only [List.length_map] at h); first | (exfalso; omega) | (conv => whnf)))) | ((with_reducible first | apply XBr.beq | apply XBr.bne) <;> (intro h; first | (exfalso; omega) | (conv => whnf))) | ((with_reducible refine XInt.i64 (by omega) (by omega) ?_); conv => whnf) | ((with_reducible refine XHold.mk ?_ ?_); (first | omega | rfl | decide | exact ⟨rfl, by decide, rfl⟩ | exact wideI _ | exact widePr _ | exact wideSk _ | (unfold Room; constructor <;> ((try simp) <;> omega)) | exact ⟨rfl, by simp only [List.length_map], by unfold Room; constructor <;> ((try simp) <;> omega)⟩ | exact ⟨by omega, by omega, by unfold Room; constructor <;> ((try simp) <;> omega)⟩); conv => whnf) | ((first | ((with_reducible refine XIx.nat ?_ ?_ ?_); omega; (intro _; rfl)) | ((with_reducible refine XIx.map ?_ ?_ ?_ ?_); omega; omega; (intro _; rfl))); conv => whnf) | (with_reducible apply XAnd.mk) | (exact XSame.mk rfl rfl) | (exact XSame.mk (by first | rfl | (simp only [List.map_append, List.length_append, List.length_map]; done) | (simp only [List.map_append, List.length_append, List.length_map]; rfl)) (by first | rfl | (simp only [List.map_append]; done) | (simp only [List.map_append]; rfl))) | (with_reducible exact trivial) | ((first | (with_reducible refine xdrop_app (by rw [List.length_map]; omega) ?_) | (with_reducible refine XDrop.desk (by assumption) ?_) | (with_reducible first | refine XArr.ints (by omega) (by omega) (by omega) ?_ | refine XArr.intsA (by omega) (by omega) (by omega) ?_) | ((with_reducible first | refine XArr.nats ?_ ?_ ?_ | refine XArr.natsA ?_ ?_ ?_ | refine XArr.ptr ?_ ?_ ?_); omega; omega)); conv => whnf) | ((with_reducible apply XBr.mk') <;> (intro h; conv => whnf))
  refine Walk.loop tab_ok [] (fun k : Nat => k ≤ xs.length ∧ k ≤ ys.length ∧ cmpL xs ys = cmpL (xs.drop k) (ys.drop k)) (fun k => [(0, .sl n1 (ints xs)), (1, .sl n2 (ints ys)), (9, .sl n1 (ints xs)), (10, natA xs.length), (11, natA k)]) (fun _ => []) (fun k => xs.length - k) 0 ⟨Nat.zero_le _, Nat.zero_le _, by rw [List.drop_zero, List.drop_zero]⟩ rfl ⟨rfl, rfl, rfl, congrArg (fun n => some (AV.int .i64 n)) e1, rfl, trivial⟩ ?_
  rintro k ⟨hk, hk2, he⟩
  have q1 := fun h h' => cmpL_next (xs := xs) (ys := ys) (k := k) h h'
  have q2 := fun h h' => cmpL_long (xs := xs) (ys := ys) (k := k) h h'
  have q3 := fun h h' => cmpL_short (xs := xs) (ys := ys) (k := k) h h'
  have q4 := fun h h' => cmpL_both (xs := xs) (ys := ys) (k := k) h h'
  conv => whnf
  repeat' first | ((with_reducible first | apply XBr.tt | apply XBr.ff | apply Chk.go | apply ChkA.go | apply ChkF.go | apply ChkB.go | apply XArr.pim0 | apply XArr.pim1); conv => whnf) | (with_reducible apply XBr.not) | ((with_reducible apply XBr.dec) <;> (intro h; first | (exfalso; omega) | ((try simp only [List.length_map] at h); first | (exfalso; omega) | (conv => whnf)))) | ((with_reducible first | apply XBr.beq | apply XBr.bne) <;> (intro h; first | (exfalso; omega) | (conv => whnf))) | ((with_reducible refine XInt.i64 (by omega) (by omega) ?_); conv => whnf) | ((with_reducible refine XHold.mk ?_ ?_); (first | omega | rfl | decide | exact ⟨rfl, by decide, rfl⟩ | exact wideI _ | exact widePr _ | exact wideSk _ | (unfold Room; constructor <;> ((try simp) <;> omega)) | exact ⟨rfl, by simp only [List.length_map], by unfold Room; constructor <;> ((try simp) <;> omega)⟩ | exact ⟨by omega, by omega, by unfold Room; constructor <;> ((try simp) <;> omega)⟩); conv => whnf) | ((first | ((with_reducible refine XIx.nat ?_ ?_ ?_); omega; (intro _; rfl)) | ((with_reducible refine XIx.map ?_ ?_ ?_ ?_); omega; omega; (intro _; rfl))); conv => whnf) | (with_reducible apply XAnd.mk) | (exact XSame.mk rfl rfl) | (exact XSame.mk (by first | rfl | (simp only [List.map_append, List.length_append, List.length_map]; done) | (simp only [List.map_append, List.length_append, List.length_map]; rfl)) (by first | rfl | (simp only [List.map_append]; done) | (simp only [List.map_append]; rfl))) | (with_reducible exact trivial) | ((first | (with_reducible refine xdrop_app (by rw [List.length_map]; omega) ?_) | (with_reducible refine XDrop.desk (by assumption) ?_) | (with_reducible first | refine XArr.ints (by omega) (by omega) (by omega) ?_ | refine XArr.intsA (by omega) (by omega) (by omega) ?_) | ((with_reducible first | refine XArr.nats ?_ ?_ ?_ | refine XArr.natsA ?_ ?_ ?_ | refine XArr.ptr ?_ ?_ ?_); omega; omega) | (refine XCall.ret (cmpCompare_c _ _) ?_)); conv => whnf) | ((with_reducible apply XBr.mk') <;> (intro h; conv => whnf))
  · rw [he, q2 (by omega) (by omega)]; exact XOut.int rfl
  · have h' : cmpI (xs.getD k default) (ys.getD k default) ≠ 0 := h
    refine XOut.int ?_
    rw [he, q1 (by omega) (by omega)]
    show cmpI (xs.getD k default) (ys.getD k default) = _
    generalize xs.getD k default = a at h' ⊢
    generalize ys.getD k default = b at h' ⊢
    unfold cmpI at h' ⊢
    split
    · rfl
    · split
      · rfl
      · rename_i h1 h2; rw [if_neg h1, if_neg h2] at h'; exact absurd rfl h'
  · have h' : cmpI (xs.getD k default) (ys.getD k default) = 0 := h
    have h2 : ¬ xs.getD k default < ys.getD k default ∧ ¬ ys.getD k default < xs.getD k default := by
      generalize xs.getD k default = a at h' ⊢
      generalize ys.getD k default = b at h' ⊢
      unfold cmpI at h'
      split at h'
      · cases h'
      · split at h'
        · cases h'
        · omega
    rw [q1 (by omega) (by omega), if_neg h2.1, if_neg h2.2] at he
    exact XAgain.go (k + 1) ⟨by omega, by omega, he⟩ (by omega) rfl ⟨rfl, rfl, rfl, rfl, rfl, trivial⟩
  · rw [he, q3 (by omega) (by omega)]; exact XOut.int rfl
  · rw [he, q4 (by omega) (by omega)]; exact XOut.int rfl
theorem before_c (n1 n2 : Bool) (xs ys : List Int) (hx : xs.length ≤ 100000) (hy : ys.length ≤ 100000) : Comp Try.prog 117 [.sl n1 (ints xs), .sl n2 (ints ys)] (.bool (decide (cmpL xs ys < 0))) := by
  have e1 : ((ints xs).length : Int) = xs.length := by rw [List.length_map]
  have e2 : ((ints ys).length : Int) = ys.length := by rw [List.length_map]
  refine Comp.body (T := tab) (res := [.tmp 4]) tab_ok [] Try.func117 rfl (by kernel_rfl) Try.ntmps117 rfl (by simp only [List.length_cons, List.length_nil]; decide) (by simp only [lowL, AV.low, lowI]; rfl) ?_; conv => whnf
  repeat' first | ((with_reducible first | apply XBr.tt | apply XBr.ff | apply Chk.go | apply ChkA.go | apply ChkF.go | apply ChkB.go | apply XArr.pim0 | apply XArr.pim1); conv => whnf) | (with_reducible apply XBr.not) | ((with_reducible apply XBr.dec) <;> (intro h; first | (exfalso; omega) | ((try simp only [List.length_map] at h); first | (exfalso; omega) | (conv => whnf)))) | ((with_reducible first | apply XBr.beq | apply XBr.bne) <;> (intro h; first | (exfalso; omega) | (conv => whnf))) | ((with_reducible refine XInt.i64 (by omega) (by omega) ?_); conv => whnf) | ((with_reducible refine XHold.mk ?_ ?_); (first | omega | rfl | decide | exact ⟨rfl, by decide, rfl⟩ | exact wideI _ | exact widePr _ | exact wideSk _ | (unfold Room; constructor <;> ((try simp) <;> omega)) | exact ⟨rfl, by simp only [List.length_map], by unfold Room; constructor <;> ((try simp) <;> omega)⟩ | exact ⟨by omega, by omega, by unfold Room; constructor <;> ((try simp) <;> omega)⟩); conv => whnf) | ((first | ((with_reducible refine XIx.nat ?_ ?_ ?_); omega; (intro _; rfl)) | ((with_reducible refine XIx.map ?_ ?_ ?_ ?_); omega; omega; (intro _; rfl))); conv => whnf) | (with_reducible apply XAnd.mk) | (exact XSame.mk rfl rfl) | (exact XSame.mk (by first | rfl | (simp only [List.map_append, List.length_append, List.length_map]; done) | (simp only [List.map_append, List.length_append, List.length_map]; rfl)) (by first | rfl | (simp only [List.map_append]; done) | (simp only [List.map_append]; rfl))) | (with_reducible exact trivial) | ((first | (with_reducible refine xdrop_app (by rw [List.length_map]; omega) ?_) | (with_reducible refine XDrop.desk (by assumption) ?_) | (with_reducible first | refine XArr.ints (by omega) (by omega) (by omega) ?_ | refine XArr.intsA (by omega) (by omega) (by omega) ?_) | ((with_reducible first | refine XArr.nats ?_ ?_ ?_ | refine XArr.natsA ?_ ?_ ?_ | refine XArr.ptr ?_ ?_ ?_); omega; omega)); conv => whnf) | ((with_reducible apply XBr.mk') <;> (intro h; conv => whnf))
  refine Walk.loop tab_ok [] (fun k : Nat => k ≤ xs.length ∧ k ≤ ys.length ∧ cmpL xs ys = cmpL (xs.drop k) (ys.drop k)) (fun k => [(0, .sl n1 (ints xs)), (1, .sl n2 (ints ys)), (5, natA k)]) (fun _ => []) (fun k => xs.length - k) 0 ⟨Nat.zero_le _, Nat.zero_le _, by rw [List.drop_zero, List.drop_zero]⟩ rfl ⟨rfl, rfl, rfl, trivial⟩ ?_
  rintro k ⟨hk, hk2, he⟩
  have q1 := fun h h' => cmpL_next (xs := xs) (ys := ys) (k := k) h h'
  have q2 := fun h h' => cmpL_long (xs := xs) (ys := ys) (k := k) h h'
  have q3 := fun h h' => cmpL_short (xs := xs) (ys := ys) (k := k) h h'
  have q4 := fun h h' => cmpL_both (xs := xs) (ys := ys) (k := k) h h'
  conv => whnf
  repeat' first | ((with_reducible first | apply XBr.tt | apply XBr.ff | apply Chk.go | apply ChkA.go | apply ChkF.go | apply ChkB.go | apply XArr.pim0 | apply XArr.pim1); conv => whnf) | (with_reducible apply XBr.not) | ((with_reducible apply XBr.dec) <;> (intro h; first | (exfalso; omega) | ((try simp only [List.length_map] at h); first | (exfalso; omega) | (conv => whnf)))) | ((with_reducible first | apply XBr.beq | apply XBr.bne) <;> (intro h; first | (exfalso; omega) | (conv => whnf))) | ((with_reducible refine XInt.i64 (by omega) (by omega) ?_); conv => whnf) | ((with_reducible refine XHold.mk ?_ ?_); (first | omega | rfl | decide | exact ⟨rfl, by decide, rfl⟩ | exact wideI _ | exact widePr _ | exact wideSk _ | (unfold Room; constructor <;> ((try simp) <;> omega)) | exact ⟨rfl, by simp only [List.length_map], by unfold Room; constructor <;> ((try simp) <;> omega)⟩ | exact ⟨by omega, by omega, by unfold Room; constructor <;> ((try simp) <;> omega)⟩); conv => whnf) | ((first | ((with_reducible refine XIx.nat ?_ ?_ ?_); omega; (intro _; rfl)) | ((with_reducible refine XIx.map ?_ ?_ ?_ ?_); omega; omega; (intro _; rfl))); conv => whnf) | (with_reducible apply XAnd.mk) | (exact XSame.mk rfl rfl) | (exact XSame.mk (by first | rfl | (simp only [List.map_append, List.length_append, List.length_map]; done) | (simp only [List.map_append, List.length_append, List.length_map]; rfl)) (by first | rfl | (simp only [List.map_append]; done) | (simp only [List.map_append]; rfl))) | (with_reducible exact trivial) | ((first | (with_reducible refine xdrop_app (by rw [List.length_map]; omega) ?_) | (with_reducible refine XDrop.desk (by assumption) ?_) | (with_reducible first | refine XArr.ints (by omega) (by omega) (by omega) ?_ | refine XArr.intsA (by omega) (by omega) (by omega) ?_) | ((with_reducible first | refine XArr.nats ?_ ?_ ?_ | refine XArr.natsA ?_ ?_ ?_ | refine XArr.ptr ?_ ?_ ?_); omega; omega)); conv => whnf) | ((with_reducible apply XBr.mk') <;> (intro h; conv => whnf))
  · apply Walk.drawX tab_ok mixed_ok [] [] (hsK _) [_, _, _, _, _, _, _, _, _] (by kernel_rfl) rfl
    · skip
      repeat' first | ((with_reducible first | apply XBr.tt | apply XBr.ff | apply Chk.go | apply ChkA.go | apply ChkF.go | apply ChkB.go | apply XArr.pim0 | apply XArr.pim1); conv => whnf) | (with_reducible apply XBr.not) | ((with_reducible apply XBr.dec) <;> (intro h; first | (exfalso; omega) | ((try simp only [List.length_map] at h); first | (exfalso; omega) | (conv => whnf)))) | ((with_reducible first | apply XBr.beq | apply XBr.bne) <;> (intro h; first | (exfalso; omega) | (conv => whnf))) | ((with_reducible refine XInt.i64 (by omega) (by omega) ?_); conv => whnf) | ((with_reducible refine XHold.mk ?_ ?_); (first | omega | rfl | decide | exact ⟨rfl, by decide, rfl⟩ | exact wideI _ | exact widePr _ | exact wideSk _ | (unfold Room; constructor <;> ((try simp) <;> omega)) | exact ⟨rfl, by simp only [List.length_map], by unfold Room; constructor <;> ((try simp) <;> omega)⟩ | exact ⟨by omega, by omega, by unfold Room; constructor <;> ((try simp) <;> omega)⟩); conv => whnf) | ((first | ((with_reducible refine XIx.nat ?_ ?_ ?_); omega; (intro _; rfl)) | ((with_reducible refine XIx.map ?_ ?_ ?_ ?_); omega; omega; (intro _; rfl))); conv => whnf) | (with_reducible apply XAnd.mk) | (exact XSame.mk rfl rfl) | (exact XSame.mk (by first | rfl | (simp only [List.map_append, List.length_append, List.length_map]; done) | (simp only [List.map_append, List.length_append, List.length_map]; rfl)) (by first | rfl | (simp only [List.map_append]; done) | (simp only [List.map_append]; rfl))) | (with_reducible exact trivial) | ((first | (with_reducible refine xdrop_app (by rw [List.length_map]; omega) ?_) | (with_reducible refine XDrop.desk (by assumption) ?_) | (with_reducible first | refine XArr.ints (by omega) (by omega) (by omega) ?_ | refine XArr.intsA (by omega) (by omega) (by omega) ?_) | ((with_reducible first | refine XArr.nats ?_ ?_ ?_ | refine XArr.natsA ?_ ?_ ?_ | refine XArr.ptr ?_ ?_ ?_); omega; omega)); conv => whnf) | ((with_reducible apply XBr.mk') <;> (intro h; conv => whnf))
    · skip
      repeat' first | ((with_reducible first | apply XBr.tt | apply XBr.ff | apply Chk.go | apply ChkA.go | apply ChkF.go | apply ChkB.go | apply XArr.pim0 | apply XArr.pim1); conv => whnf) | (with_reducible apply XBr.not) | ((with_reducible apply XBr.dec) <;> (intro h; first | (exfalso; omega) | ((try simp only [List.length_map] at h); first | (exfalso; omega) | (conv => whnf)))) | ((with_reducible first | apply XBr.beq | apply XBr.bne) <;> (intro h; first | (exfalso; omega) | (conv => whnf))) | ((with_reducible refine XInt.i64 (by omega) (by omega) ?_); conv => whnf) | ((with_reducible refine XHold.mk ?_ ?_); (first | omega | rfl | decide | exact ⟨rfl, by decide, rfl⟩ | exact wideI _ | exact widePr _ | exact wideSk _ | (unfold Room; constructor <;> ((try simp) <;> omega)) | exact ⟨rfl, by simp only [List.length_map], by unfold Room; constructor <;> ((try simp) <;> omega)⟩ | exact ⟨by omega, by omega, by unfold Room; constructor <;> ((try simp) <;> omega)⟩); conv => whnf) | ((first | ((with_reducible refine XIx.nat ?_ ?_ ?_); omega; (intro _; rfl)) | ((with_reducible refine XIx.map ?_ ?_ ?_ ?_); omega; omega; (intro _; rfl))); conv => whnf) | (with_reducible apply XAnd.mk) | (exact XSame.mk rfl rfl) | (exact XSame.mk (by first | rfl | (simp only [List.map_append, List.length_append, List.length_map]; done) | (simp only [List.map_append, List.length_append, List.length_map]; rfl)) (by first | rfl | (simp only [List.map_append]; done) | (simp only [List.map_append]; rfl))) | (with_reducible exact trivial) | ((first | (with_reducible refine xdrop_app (by rw [List.length_map]; omega) ?_) | (with_reducible refine XDrop.desk (by assumption) ?_) | (with_reducible first | refine XArr.ints (by omega) (by omega) (by omega) ?_ | refine XArr.intsA (by omega) (by omega) (by omega) ?_) | ((with_reducible first | refine XArr.nats ?_ ?_ ?_ | refine XArr.natsA ?_ ?_ ?_ | refine XArr.ptr ?_ ?_ ?_); omega; omega)); conv => whnf) | ((with_reducible apply XBr.mk') <;> (intro h; conv => whnf))
    conv => whnf
    repeat' first | ((with_reducible first | apply XBr.tt | apply XBr.ff | apply Chk.go | apply ChkA.go | apply ChkF.go | apply ChkB.go | apply XArr.pim0 | apply XArr.pim1); conv => whnf) | (with_reducible apply XBr.not) | ((with_reducible apply XBr.dec) <;> (intro h; first | (exfalso; omega) | ((try simp only [List.length_map] at h); first | (exfalso; omega) | (conv => whnf)))) | ((with_reducible first | apply XBr.beq | apply XBr.bne) <;> (intro h; first | (exfalso; omega) | (conv => whnf))) | ((with_reducible refine XInt.i64 (by omega) (by omega) ?_); conv => whnf) | ((with_reducible refine XHold.mk ?_ ?_); (first | omega | rfl | decide | exact ⟨rfl, by decide, rfl⟩ | exact wideI _ | exact widePr _ | exact wideSk _ | (unfold Room; constructor <;> ((try simp) <;> omega)) | exact ⟨rfl, by simp only [List.length_map], by unfold Room; constructor <;> ((try simp) <;> omega)⟩ | exact ⟨by omega, by omega, by unfold Room; constructor <;> ((try simp) <;> omega)⟩); conv => whnf) | ((first | ((with_reducible refine XIx.nat ?_ ?_ ?_); omega; (intro _; rfl)) | ((with_reducible refine XIx.map ?_ ?_ ?_ ?_); omega; omega; (intro _; rfl))); conv => whnf) | (with_reducible apply XAnd.mk) | (exact XSame.mk rfl rfl) | (exact XSame.mk (by first | rfl | (simp only [List.map_append, List.length_append, List.length_map]; done) | (simp only [List.map_append, List.length_append, List.length_map]; rfl)) (by first | rfl | (simp only [List.map_append]; done) | (simp only [List.map_append]; rfl))) | (with_reducible exact trivial) | ((first | (with_reducible refine xdrop_app (by rw [List.length_map]; omega) ?_) | (with_reducible refine XDrop.desk (by assumption) ?_) | (with_reducible first | refine XArr.ints (by omega) (by omega) (by omega) ?_ | refine XArr.intsA (by omega) (by omega) (by omega) ?_) | ((with_reducible first | refine XArr.nats ?_ ?_ ?_ | refine XArr.natsA ?_ ?_ ?_ | refine XArr.ptr ?_ ?_ ?_); omega; omega)); conv => whnf) | ((with_reducible apply XBr.mk') <;> (intro h; conv => whnf))
    · have hne : xs.getD k default ≠ ys.getD k default := h
      apply Walk.drawX tab_ok mixed_ok [] [] (hsK _) [_, _, _, _, _, _, _, _, _, _] (by kernel_rfl) rfl
      · skip
        repeat' first | ((with_reducible first | apply XBr.tt | apply XBr.ff | apply Chk.go | apply ChkA.go | apply ChkF.go | apply ChkB.go | apply XArr.pim0 | apply XArr.pim1); conv => whnf) | (with_reducible apply XBr.not) | ((with_reducible apply XBr.dec) <;> (intro h; first | (exfalso; omega) | ((try simp only [List.length_map] at h); first | (exfalso; omega) | (conv => whnf)))) | ((with_reducible first | apply XBr.beq | apply XBr.bne) <;> (intro h; first | (exfalso; omega) | (conv => whnf))) | ((with_reducible refine XInt.i64 (by omega) (by omega) ?_); conv => whnf) | ((with_reducible refine XHold.mk ?_ ?_); (first | omega | rfl | decide | exact ⟨rfl, by decide, rfl⟩ | exact wideI _ | exact widePr _ | exact wideSk _ | (unfold Room; constructor <;> ((try simp) <;> omega)) | exact ⟨rfl, by simp only [List.length_map], by unfold Room; constructor <;> ((try simp) <;> omega)⟩ | exact ⟨by omega, by omega, by unfold Room; constructor <;> ((try simp) <;> omega)⟩); conv => whnf) | ((first | ((with_reducible refine XIx.nat ?_ ?_ ?_); omega; (intro _; rfl)) | ((with_reducible refine XIx.map ?_ ?_ ?_ ?_); omega; omega; (intro _; rfl))); conv => whnf) | (with_reducible apply XAnd.mk) | (exact XSame.mk rfl rfl) | (exact XSame.mk (by first | rfl | (simp only [List.map_append, List.length_append, List.length_map]; done) | (simp only [List.map_append, List.length_append, List.length_map]; rfl)) (by first | rfl | (simp only [List.map_append]; done) | (simp only [List.map_append]; rfl))) | (with_reducible exact trivial) | ((first | (with_reducible refine xdrop_app (by rw [List.length_map]; omega) ?_) | (with_reducible refine XDrop.desk (by assumption) ?_) | (with_reducible first | refine XArr.ints (by omega) (by omega) (by omega) ?_ | refine XArr.intsA (by omega) (by omega) (by omega) ?_) | ((with_reducible first | refine XArr.nats ?_ ?_ ?_ | refine XArr.natsA ?_ ?_ ?_ | refine XArr.ptr ?_ ?_ ?_); omega; omega)); conv => whnf) | ((with_reducible apply XBr.mk') <;> (intro h; conv => whnf))
      · skip
        repeat' first | ((with_reducible first | apply XBr.tt | apply XBr.ff | apply Chk.go | apply ChkA.go | apply ChkF.go | apply ChkB.go | apply XArr.pim0 | apply XArr.pim1); conv => whnf) | (with_reducible apply XBr.not) | ((with_reducible apply XBr.dec) <;> (intro h; first | (exfalso; omega) | ((try simp only [List.length_map] at h); first | (exfalso; omega) | (conv => whnf)))) | ((with_reducible first | apply XBr.beq | apply XBr.bne) <;> (intro h; first | (exfalso; omega) | (conv => whnf))) | ((with_reducible refine XInt.i64 (by omega) (by omega) ?_); conv => whnf) | ((with_reducible refine XHold.mk ?_ ?_); (first | omega | rfl | decide | exact ⟨rfl, by decide, rfl⟩ | exact wideI _ | exact widePr _ | exact wideSk _ | (unfold Room; constructor <;> ((try simp) <;> omega)) | exact ⟨rfl, by simp only [List.length_map], by unfold Room; constructor <;> ((try simp) <;> omega)⟩ | exact ⟨by omega, by omega, by unfold Room; constructor <;> ((try simp) <;> omega)⟩); conv => whnf) | ((first | ((with_reducible refine XIx.nat ?_ ?_ ?_); omega; (intro _; rfl)) | ((with_reducible refine XIx.map ?_ ?_ ?_ ?_); omega; omega; (intro _; rfl))); conv => whnf) | (with_reducible apply XAnd.mk) | (exact XSame.mk rfl rfl) | (exact XSame.mk (by first | rfl | (simp only [List.map_append, List.length_append, List.length_map]; done) | (simp only [List.map_append, List.length_append, List.length_map]; rfl)) (by first | rfl | (simp only [List.map_append]; done) | (simp only [List.map_append]; rfl))) | (with_reducible exact trivial) | ((first | (with_reducible refine xdrop_app (by rw [List.length_map]; omega) ?_) | (with_reducible refine XDrop.desk (by assumption) ?_) | (with_reducible first | refine XArr.ints (by omega) (by omega) (by omega) ?_ | refine XArr.intsA (by omega) (by omega) (by omega) ?_) | ((with_reducible first | refine XArr.nats ?_ ?_ ?_ | refine XArr.natsA ?_ ?_ ?_ | refine XArr.ptr ?_ ?_ ?_); omega; omega)); conv => whnf) | ((with_reducible apply XBr.mk') <;> (intro h; conv => whnf))
      conv => whnf
      repeat' first | ((with_reducible first | apply XBr.tt | apply XBr.ff | apply Chk.go | apply ChkA.go | apply ChkF.go | apply ChkB.go | apply XArr.pim0 | apply XArr.pim1); conv => whnf) | (with_reducible apply XBr.not) | ((with_reducible apply XBr.dec) <;> (intro h; first | (exfalso; omega) | ((try simp only [List.length_map] at h); first | (exfalso; omega) | (conv => whnf)))) | ((with_reducible first | apply XBr.beq | apply XBr.bne) <;> (intro h; first | (exfalso; omega) | (conv => whnf))) | ((with_reducible refine XInt.i64 (by omega) (by omega) ?_); conv => whnf) | ((with_reducible refine XHold.mk ?_ ?_); (first | omega | rfl | decide | exact ⟨rfl, by decide, rfl⟩ | exact wideI _ | exact widePr _ | exact wideSk _ | (unfold Room; constructor <;> ((try simp) <;> omega)) | exact ⟨rfl, by simp only [List.length_map], by unfold Room; constructor <;> ((try simp) <;> omega)⟩ | exact ⟨by omega, by omega, by unfold Room; constructor <;> ((try simp) <;> omega)⟩); conv => whnf) | ((first | ((with_reducible refine XIx.nat ?_ ?_ ?_); omega; (intro _; rfl)) | ((with_reducible refine XIx.map ?_ ?_ ?_ ?_); omega; omega; (intro _; rfl))); conv => whnf) | (with_reducible apply XAnd.mk) | (exact XSame.mk rfl rfl) | (exact XSame.mk (by first | rfl | (simp only [List.map_append, List.length_append, List.length_map]; done) | (simp only [List.map_append, List.length_append, List.length_map]; rfl)) (by first | rfl | (simp only [List.map_append]; done) | (simp only [List.map_append]; rfl))) | (with_reducible exact trivial) | ((first | (with_reducible refine xdrop_app (by rw [List.length_map]; omega) ?_) | (with_reducible refine XDrop.desk (by assumption) ?_) | (with_reducible first | refine XArr.ints (by omega) (by omega) (by omega) ?_ | refine XArr.intsA (by omega) (by omega) (by omega) ?_) | ((with_reducible first | refine XArr.nats ?_ ?_ ?_ | refine XArr.natsA ?_ ?_ ?_ | refine XArr.ptr ?_ ?_ ?_); omega; omega)); conv => whnf) | ((with_reducible apply XBr.mk') <;> (intro h; conv => whnf))
      refine XOut.bool ?_
      rw [he, q1 (by omega) (by omega)]
      show decide (xs.getD k default < ys.getD k default) = _
      generalize xs.getD k default = a at hne ⊢
      generalize ys.getD k default = b at hne ⊢
      by_cases hab : a < b
      · rw [if_pos hab]; simp [hab]
      · rw [if_neg hab, if_pos (by omega)]; simp [hab]
    · have hne : xs.getD k default = ys.getD k default := h
      rw [q1 (by omega) (by omega), if_neg (by omega), if_neg (by omega)] at he
      exact XAgain.go (k + 1) ⟨by omega, by omega, he⟩ (by omega) rfl ⟨rfl, rfl, rfl, trivial⟩
  · refine XOut.bool ?_
    rw [he, q2 (by omega) (by omega)]; simp; omega
  · refine XOut.bool ?_
    by_cases hl : xs.length < ys.length
    · rw [he, q3 (by omega) (by omega)]; simp; omega
    · rw [he, q4 (by omega) (by omega)]; simp; omega

def tabK (m : Nat) (f : Nat → Bool) (k : Nat) : List Bool := (List.range m).map fun i => decide (i < k) && f i
theorem tabK_len (m : Nat) (f : Nat → Bool) (k : Nat) : (tabK m f k).length = m := by simp [tabK]
theorem tabK_zero (m : Nat) (f : Nat → Bool) : tabK m f 0 = List.replicate m false := by
  apply List.ext_getElem (by simp [tabK]); intro i h1 h2; simp [tabK]
theorem tabK_get {m : Nat} {f : Nat → Bool} {k i : Nat} (h : i < m) : (tabK m f k).getD i default = (decide (i < k) && f i) := by
  unfold tabK; rw [List.getD_eq_getElem?_getD, List.getElem?_map, List.getElem?_range h]; rfl
theorem tabK_set {m : Nat} {f : Nat → Bool} {k : Nat} (h : k < m) {b : Bool} (hb : b = f k) : (tabK m f k).set k b = tabK m f (k + 1) := by
  refine eq_of_getD (d := default) (by rw [List.length_set, tabK_len, tabK_len]) fun j hj => ?_
  rw [List.length_set, tabK_len] at hj
  rw [tabK_get hj, List.getD_eq_getElem?_getD, List.getElem?_set]
  by_cases e : k = j
  · subst e; rw [if_pos rfl, if_pos (by rw [tabK_len]; exact h), hb]; simp
  · rw [if_neg e, ← List.getD_eq_getElem?_getD, tabK_get hj]
    congr 1
    rw [Bool.eq_iff_iff]; simp; omega
theorem tabK_all (m : Nat) (f : Nat → Bool) {k : Nat} (h : m ≤ k) : tabK m f k = (List.range m).map f := by
  apply List.ext_getElem (by simp [tabK]); intro i h1 h2; simp [tabK] at h1 ⊢; omega
theorem refSet_c (l : Ld) (s : Nat) (h1 : l.sacks.length ≤ 62) (hs : s < 4611686018427387904) : Comp Try.prog 116 [ldA l, natA s] (.sl false (bools (boolN l.sacks.length s))) := by
  have e2 : ((l.sacks.map skA).length : Int) = l.sacks.length := by rw [List.length_map]
  refine Comp.body (T := tab) (res := [.tmp 4]) tab_ok [] Try.func116 rfl (by kernel_rfl) Try.ntmps116 rfl (by simp only [List.length_cons, List.length_nil]; decide) (by simp only [lowL, AV.low, ldL]; rfl) ?_; conv => whnf
  repeat' first | ((with_reducible first | apply XBr.tt | apply XBr.ff | apply Chk.go | apply ChkA.go | apply ChkF.go | apply ChkB.go | apply XArr.pim0 | apply XArr.pim1); conv => whnf) | (with_reducible apply XBr.not) | ((with_reducible apply XBr.dec) <;> (intro h; first | (exfalso; omega) | ((try simp only [List.length_map] at h); first | (exfalso; omega) | (conv => whnf)))) | ((with_reducible first | apply XBr.beq | apply XBr.bne) <;> (intro h; first | (exfalso; omega) | (conv => whnf))) | ((with_reducible refine XInt.i64 (by omega) (by omega) ?_); conv => whnf) | ((with_reducible refine XHold.mk ?_ ?_); (first | omega | rfl | decide | exact ⟨rfl, by decide, rfl⟩ | exact wideI _ | exact widePr _ | exact wideSk _ | (unfold Room; constructor <;> ((try simp) <;> omega)) | exact ⟨rfl, by simp only [List.length_map], by unfold Room; constructor <;> ((try simp) <;> omega)⟩ | exact ⟨by omega, by omega, by unfold Room; constructor <;> ((try simp) <;> omega)⟩); conv => whnf) | ((first | ((with_reducible refine XIx.nat ?_ ?_ ?_); omega; (intro _; rfl)) | ((with_reducible refine XIx.map ?_ ?_ ?_ ?_); omega; omega; (intro _; rfl))); conv => whnf) | (with_reducible apply XAnd.mk) | (exact XSame.mk rfl rfl) | (exact XSame.mk (by first | rfl | (simp only [List.map_append, List.length_append, List.length_map]; done) | (simp only [List.map_append, List.length_append, List.length_map]; rfl)) (by first | rfl | (simp only [List.map_append]; done) | (simp only [List.map_append]; rfl))) | (with_reducible exact trivial) | ((first | (with_reducible refine xdrop_app (by rw [List.length_map]; omega) ?_) | (with_reducible refine XDrop.desk (by assumption) ?_) | (with_reducible first | refine XArr.ints (by omega) (by omega) (by omega) ?_ | refine XArr.intsA (by omega) (by omega) (by omega) ?_) | ((with_reducible first | refine XArr.nats ?_ ?_ ?_ | refine XArr.natsA ?_ ?_ ?_ | refine XArr.ptr ?_ ?_ ?_); omega; omega)); conv => whnf) | ((with_reducible apply XBr.mk') <;> (intro h; conv => whnf))
  refine Walk.loop tab_ok [] (fun k : Nat => k ≤ l.sacks.length) (fun k => [(4, .sl true []), (5, .gr 0 l.sacks.length), (1, natA (s / 2 ^ k)), (6, natA k)]) (fun k => [.grow 4 false (bools (tabK l.sacks.length (fun i => s.testBit i) k))]) (fun k => l.sacks.length - k) 0 (Nat.zero_le _) ?_ ⟨rfl, ?_, ?_, rfl, trivial⟩ ?_
  · rw [tabK_zero, show l.sacks.length = (((l.sacks.map skA).length : Int)).toNat by omega]
    congr 4; simp
  · exact congrArg (fun n => some (AV.gr 0 n)) (by omega)
  · show some (natA s) = some (natA (s / 2 ^ 0)); rw [Nat.pow_zero, Nat.div_one]
  intro k hk
  have hl := tabK_len l.sacks.length (fun i => s.testBit i) k
  have hst := fun h b hb => tabK_set (m := l.sacks.length) (f := fun i => s.testBit i) (k := k) h (b := b) hb
  have hal := fun h => tabK_all l.sacks.length (fun i => s.testBit i) (k := k) h
  have hle : s / 2 ^ k ≤ s := Nat.div_le_self ..
  have hsucc : s / 2 ^ (k + 1) = s / 2 ^ k / 2 := by rw [Nat.pow_succ, Nat.div_div_eq_div_mul]
  have htb : s.testBit k = decide (s / 2 ^ k % 2 = 1) := Nat.testBit_eq_decide_div_mod_eq
  generalize tabK l.sacks.length (fun i => s.testBit i) k = bs at hl hst hal
  generalize s / 2 ^ k = r at hle hsucc htb
  have hm : (r : Int).tmod 2 = ((r % 2 : Nat) : Int) := by rw [Int.tmod_eq_emod_of_nonneg (by omega)]; omega
  have hd : (r : Int).tdiv 2 = ((r / 2 : Nat) : Int) := by rw [Int.tdiv_eq_ediv_of_nonneg (by omega)]; omega
  conv => whnf
  repeat' first | ((with_reducible first | apply XBr.tt | apply XBr.ff | apply Chk.go | apply ChkA.go | apply ChkF.go | apply ChkB.go | apply XArr.pim0 | apply XArr.pim1); conv => whnf) | (with_reducible apply XBr.not) | ((with_reducible apply XBr.dec) <;> (intro h; first | (exfalso; omega) | ((try simp only [List.length_map] at h); first | (exfalso; omega) | (conv => whnf)))) | ((with_reducible first | apply XBr.beq | apply XBr.bne) <;> (intro h; first | (exfalso; omega) | (conv => whnf))) | ((with_reducible refine XInt.i64 (by omega) (by omega) ?_); conv => whnf) | ((with_reducible refine XHold.mk ?_ ?_); (first | omega | rfl | decide | exact ⟨rfl, by decide, rfl⟩ | exact wideI _ | exact widePr _ | exact wideSk _ | (unfold Room; constructor <;> ((try simp) <;> omega)) | exact ⟨rfl, by simp only [List.length_map], by unfold Room; constructor <;> ((try simp) <;> omega)⟩ | exact ⟨by omega, by omega, by unfold Room; constructor <;> ((try simp) <;> omega)⟩); conv => whnf) | ((first | ((with_reducible refine XIx.nat ?_ ?_ ?_); omega; (intro _; rfl)) | ((with_reducible refine XIx.map ?_ ?_ ?_ ?_); omega; omega; (intro _; rfl))); conv => whnf) | (with_reducible apply XAnd.mk) | (exact XSame.mk rfl rfl) | (exact XSame.mk (by first | rfl | (simp only [List.map_append, List.length_append, List.length_map]; done) | (simp only [List.map_append, List.length_append, List.length_map]; rfl)) (by first | rfl | (simp only [List.map_append]; done) | (simp only [List.map_append]; rfl))) | (with_reducible exact trivial) | ((first | (with_reducible refine xdrop_app (by rw [List.length_map]; omega) ?_) | (with_reducible refine XDrop.desk (by assumption) ?_) | (with_reducible first | refine XArr.ints (by omega) (by omega) (by omega) ?_ | refine XArr.intsA (by omega) (by omega) (by omega) ?_) | ((with_reducible first | refine XArr.nats ?_ ?_ ?_ | refine XArr.natsA ?_ ?_ ?_ | refine XArr.ptr ?_ ?_ ?_); omega; omega) | (refine XHold.mk (by rw [List.length_map]; exact hl) ?_) | (refine XHold.mk ⟨by rw [List.length_map]; exact hl, rfl, by omega, by omega⟩ ?_) | (refine XPut.bools bs _ rfl hl.symm (by omega) ?_) | (refine XInt.eq hd (by omega) (by omega) ?_)); conv => whnf) | ((with_reducible apply XBr.mk') <;> (intro h; conv => whnf))
  · refine XAgain.go (k + 1) (by omega) (by omega) ?_ ⟨rfl, rfl, ?_, rfl, trivial⟩
    · rw [← hst (by omega) ((r : Int).tmod 2 == 1) (by rw [hm, htb, Bool.eq_iff_iff]; simp; omega)]; rfl
    · rw [hsucc]; rfl
  · rw [hal (by omega)] at hl ⊢
    exact ⟨Froz.grow rfl (by rw [List.length_map]; exact hl) (lowBo _)⟩
end GA
end
