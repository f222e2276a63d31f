/- Part 5 of a proof: S20, S23, S25, S27, S28, Abs32, Abs34, AbsS, Abs35, AbsI, S73, S36, S37, S38, S30b, S45, S46, S47, S48, S50, S60, S66, S75, S40, S42, S68, S74, S76. -/
import Derived.Test.YtlbdomhfcghjdaaP4
import Derived.Test.YtlbdomhfcghjdaaRows
import Derived.Shelf.Spec.SlicesInsert
import Derived.Shelf.Spec.SlicesInsertGrow
section
namespace GA
open Go Go.RowKit Go.Proofs
set_option pp.deepTerms true
set_option maxRecDepth 8000
set_option linter.unusedVariables false
set_option linter.unusedSimpArgs false

def five : Ld := ⟨50, 10, false, [⟨30, 0⟩, ⟨20, 1⟩, ⟨25, 0⟩, ⟨20, 2⟩, ⟨10, 1⟩], true, [], true, []⟩
def fiveP : Ld := { five with nla := false, apart := [(0, 2)], nlw := false, wth := [(1, 3)] }
def fivePr : Pr := ⟨50, false, [27, 18, 23, 18, 9]⟩
theorem five_ok : checkR five = 0 ∧ checkR fiveP = 0 := by decide +kernel
theorem five_many : manyD (openD five) = 2 := by decide +kernel
theorem five_out : (loadI (openD five) 2 2).out = [0, 0, 1, 1, 1] := by decide +kernel
theorem fiveP_many : manyD (openD fiveP) = 3 := by decide +kernel
theorem fiveP_out : (loadI (openD fiveP) 3 3).out = [0, 1, 2, 1, 0] := by decide +kernel
theorem five_pr : priceE five fivePr = 0 ∧ fairB (openD five) fivePr = true ∧ (fivePr.ps.sum + fivePr.unit - 1) / fivePr.unit = 2 := by decide +kernel
theorem five_share : shareE five 10 = 0 ∧ shareI (partsR five) 10 = [5, 3, 2, 0, 0, 0] := by decide +kernel
theorem five_riddle : riddledR [12, 20, 19, 25] 20 = 0 ∧ keptL [12, 20, 19, 25] 20 = [20, 25] := by decide +kernel
theorem five_w : LdW five := ⟨fun _ => rfl, by decide, by decide, by decide⟩
theorem fiveP_w : LdW fiveP := ⟨(fun h => by cases h), by decide, by decide, by decide⟩
theorem five_c : Comp Try.prog 82 [] (ldA five) := by
  refine Comp.body' (T := tab) (res := [.cell 0 26]) tab_ok [] Try.func82 rfl (by kernel_rfl) Try.ntmps82 rfl (by simp only [List.length_cons, List.length_nil]; decide) (by rfl) ?_; conv => whnf
  repeat' first | ((with_reducible refine XHold.mk ?_ ?_); (first | omega | rfl | decide | exact ⟨rfl, by decide, rfl⟩ | exact wideI _ | exact widePr _ | exact wideSk _ | (unfold Room; constructor <;> ((try simp) <;> omega)) | exact ⟨rfl, by simp only [List.length_map], by unfold Room; constructor <;> ((try simp) <;> omega)⟩ | exact ⟨by omega, by omega, by unfold Room; constructor <;> ((try simp) <;> omega)⟩); conv => whnf)
  exact ⟨Froz.low rfl⟩
theorem five_fewest : fewestR five = .tup [.sl false (ints [0, 0, 1, 1, 1]), .int .i64 2, .int .i64 0] := by
  unfold fewestR; rw [if_pos five_ok.1]; unfold fewestD; rw [five_many, if_neg (by decide), five_out]; rfl
theorem fiveP_fewest : fewestR fiveP = .tup [.sl false (ints [0, 1, 2, 1, 0]), .int .i64 3, .int .i64 0] := by
  unfold fewestR; rw [if_pos five_ok.2]; unfold fewestD; rw [fiveP_many, if_neg (by decide), fiveP_out]; rfl
theorem five_proves : provesR five fivePr = .tup [.int .i64 2, .int .i64 0] := by
  unfold provesR; rw [if_pos five_ok.1, if_pos five_pr.1, if_pos five_pr.2.1, five_pr.2.2]
theorem five_shareR : shareR five 10 = .tup [.sl false (ints [5, 3, 2, 0, 0, 0]), .int .i64 0] := by
  unfold shareR; rw [if_pos five_share.1, show (10 : Int).toNat = 10 from rfl, five_share.2]
theorem five_riddleR : riddleR [12, 20, 19, 25] 20 = .tup [.sl false (ints [20, 25]), slA (thruL [12, 20, 19, 25] 20), .int .i64 0] := by
  unfold riddleR; rw [if_pos five_riddle.1]; unfold riddleA; rw [five_riddle.2]; rfl
theorem cFive : Comp Try.prog 18 [ldA five] (.tup [.sl false (ints [0, 0, 1, 1, 1]), .int .i64 2, .int .i64 0]) := five_fewest ▸ fewest_c five five_w.w five_w.h1 five_w.h2 five_w.h3
theorem cFiveP : Comp Try.prog 18 [ldA fiveP] (.tup [.sl false (ints [0, 1, 2, 1, 0]), .int .i64 3, .int .i64 0]) := fiveP_fewest ▸ fewest_c fiveP fiveP_w.w fiveP_w.h1 fiveP_w.h2 fiveP_w.h3
theorem cRid : Comp Try.prog 27 [.sl false (ints [12, 20, 19, 25]), .int .i64 20] (.tup [.sl false (ints [20, 25]), slA (thruL [12, 20, 19, 25] 20), .int .i64 0]) := five_riddleR ▸ riddle_c false [12, 20, 19, 25] 20 (by decide)
theorem cShare : Comp Try.prog 33 [ldA five, .int .i64 10] (.tup [.sl false (ints [5, 3, 2, 0, 0, 0]), .int .i64 0]) := five_shareR ▸ share_c five 10 five_w
theorem cProves : Comp Try.prog 25 [ldA five, pcA fivePr] (.tup [.int .i64 2, .int .i64 0]) := five_proves ▸ proves_c five fivePr five_w (by decide)
theorem cEq (xs : List Int) (h : xs.length ≤ 100000) : Comp Try.prog 30 [.sl false (ints xs), .sl false (ints xs)] (.bool true) := by
  have := eq_int false false xs xs h
  rwa [show (xs == xs) = true from beq_self_eq_true xs] at this
theorem cEq1 : Comp Try.prog 30 [.sl false (ints [0, 0, 1, 1, 1]), .sl false [.int .i64 0, .int .i64 0, .int .i64 1, .int .i64 1, .int .i64 1]] (.bool true) := cEq [0, 0, 1, 1, 1] (by decide)
theorem cEq2 : Comp Try.prog 30 [.sl false (ints [20, 25]), .sl false [.int .i64 20, .int .i64 25]] (.bool true) := cEq [20, 25] (by decide)
theorem cEq3 : Comp Try.prog 30 [.sl false (ints [5, 3, 2, 0, 0, 0]), .sl false [.int .i64 5, .int .i64 3, .int .i64 2, .int .i64 0, .int .i64 0, .int .i64 0]] (.bool true) := cEq [5, 3, 2, 0, 0, 0] (by decide)
theorem cEq4 : Comp Try.prog 30 [.sl false (ints [0, 1, 2, 1, 0]), .sl false [.int .i64 0, .int .i64 1, .int .i64 2, .int .i64 1, .int .i64 0]] (.bool true) := cEq [0, 1, 2, 1, 0] (by decide)
theorem awake_c : Comp Try.prog 19 [] (.bool true) := by
  refine Comp.body' (T := tab) (res := [.tmp 0]) tab_ok [] Try.func19 rfl (by kernel_rfl) Try.ntmps19 rfl (by simp only [List.length_cons, List.length_nil]; decide) (by rfl) ?_; conv => whnf
  refine XCall.ret five_c ?_
  conv => whnf
  refine XCall.ret cFive ?_
  conv => whnf
  repeat' first | ((with_reducible refine XHold.mk ?_ ?_); (first | omega | rfl | decide | exact ⟨rfl, by decide, rfl⟩ | exact wideI _ | exact widePr _ | exact wideSk _ | (unfold Room; constructor <;> ((try simp) <;> omega)) | exact ⟨rfl, by simp only [List.length_map], by unfold Room; constructor <;> ((try simp) <;> omega)⟩ | exact ⟨by omega, by omega, by unfold Room; constructor <;> ((try simp) <;> omega)⟩); conv => whnf)
  refine XCall.ret cRid ?_
  conv => whnf
  refine XCall.ret five_c ?_
  conv => whnf
  refine XCall.ret cShare ?_
  conv => whnf
  refine XCall.ret five_c ?_
  conv => whnf
  repeat' first | ((with_reducible refine XHold.mk ?_ ?_); (first | omega | rfl | decide | exact ⟨rfl, by decide, rfl⟩ | exact wideI _ | exact widePr _ | exact wideSk _ | (unfold Room; constructor <;> ((try simp) <;> omega)) | exact ⟨rfl, by simp only [List.length_map], by unfold Room; constructor <;> ((try simp) <;> omega)⟩ | exact ⟨by omega, by omega, by unfold Room; constructor <;> ((try simp) <;> omega)⟩); conv => whnf)
  refine XCall.ret cFiveP ?_
  conv => whnf
  refine XCall.ret five_c ?_
  conv => whnf
  repeat' first | ((with_reducible refine XHold.mk ?_ ?_); (first | omega | rfl | decide | exact ⟨rfl, by decide, rfl⟩ | exact wideI _ | exact widePr _ | exact wideSk _ | (unfold Room; constructor <;> ((try simp) <;> omega)) | exact ⟨rfl, by simp only [List.length_map], by unfold Room; constructor <;> ((try simp) <;> omega)⟩ | exact ⟨by omega, by omega, by unfold Room; constructor <;> ((try simp) <;> omega)⟩); conv => whnf)
  refine XCall.ret cProves ?_
  conv => whnf
  refine Walk.norm tab_ok [] [(3, .int .i64 0), (6, .int .i64 0), (8, .int .i64 0), (12, .int .i64 0), (14, .int .i64 0), (1, .sl false (ints [0, 0, 1, 1, 1])), (2, .int .i64 2), (4, .sl false (ints [20, 25])), (7, .sl false (ints [5, 3, 2, 0, 0, 0])), (10, .sl false (ints [0, 1, 2, 1, 0])), (11, .int .i64 3), (13, .int .i64 2)] ⟨rfl, rfl, rfl, rfl, rfl, rfl, rfl, rfl, rfl, rfl, rfl, rfl, trivial⟩ ?_
  conv => whnf
  repeat' first | ((with_reducible apply XBr.tt); conv => whnf) | ((with_reducible apply XBr.beq) <;> (intro h; first | (exfalso; omega) | (conv => whnf))) | ((with_reducible refine XHold.mk ?_ ?_); (first | omega | rfl | decide | exact ⟨rfl, by decide, rfl⟩ | exact wideI _ | exact widePr _ | exact wideSk _ | (unfold Room; constructor <;> ((try simp) <;> omega)) | exact ⟨rfl, by simp only [List.length_map], by unfold Room; constructor <;> ((try simp) <;> omega)⟩ | exact ⟨by omega, by omega, by unfold Room; constructor <;> ((try simp) <;> omega)⟩); conv => whnf)
  refine XCall.ret cEq1 ?_
  conv => whnf
  repeat' first | ((with_reducible apply XBr.tt); conv => whnf) | ((with_reducible apply XBr.beq) <;> (intro h; first | (exfalso; omega) | (conv => whnf))) | ((with_reducible refine XHold.mk ?_ ?_); (first | omega | rfl | decide | exact ⟨rfl, by decide, rfl⟩ | exact wideI _ | exact widePr _ | exact wideSk _ | (unfold Room; constructor <;> ((try simp) <;> omega)) | exact ⟨rfl, by simp only [List.length_map], by unfold Room; constructor <;> ((try simp) <;> omega)⟩ | exact ⟨by omega, by omega, by unfold Room; constructor <;> ((try simp) <;> omega)⟩); conv => whnf)
  refine XCall.ret cEq2 ?_
  conv => whnf
  repeat' first | ((with_reducible apply XBr.tt); conv => whnf) | ((with_reducible refine XHold.mk ?_ ?_); (first | omega | rfl | decide | exact ⟨rfl, by decide, rfl⟩ | exact wideI _ | exact widePr _ | exact wideSk _ | (unfold Room; constructor <;> ((try simp) <;> omega)) | exact ⟨rfl, by simp only [List.length_map], by unfold Room; constructor <;> ((try simp) <;> omega)⟩ | exact ⟨by omega, by omega, by unfold Room; constructor <;> ((try simp) <;> omega)⟩); conv => whnf)
  refine XCall.ret cEq3 ?_
  conv => whnf
  repeat' first | ((with_reducible apply XBr.tt); conv => whnf) | ((with_reducible refine XHold.mk ?_ ?_); (first | omega | rfl | decide | exact ⟨rfl, by decide, rfl⟩ | exact wideI _ | exact widePr _ | exact wideSk _ | (unfold Room; constructor <;> ((try simp) <;> omega)) | exact ⟨rfl, by simp only [List.length_map], by unfold Room; constructor <;> ((try simp) <;> omega)⟩ | exact ⟨by omega, by omega, by unfold Room; constructor <;> ((try simp) <;> omega)⟩); conv => whnf)
  refine XCall.ret cEq4 ?_
  conv => whnf
  repeat' first | ((with_reducible apply XBr.tt); conv => whnf) | ((with_reducible apply XBr.beq) <;> (intro h; first | (exfalso; omega) | (conv => whnf)))
  exact ⟨Froz.low rfl⟩
end GA
end

section
namespace GA
open Go Go.RowKit Go.Proofs
set_option pp.deepTerms true
set_option maxRecDepth 8000
set_option linter.unusedVariables false

abbrev bytes (xs : List Int) : List AV := xs.map (.int .u8)
theorem lowBy {n : Nat} (xs : List Int) : lowL n (bytes xs) = true := lowL_map (fun _ => rfl) xs
structure Hp where
  nl : Bool
  bs : List Int
  nx : Nat
  rd : Int
  deriving Inhabited
def hpC (h : Hp) : Blk := .cells [.sl h.nl (bytes h.bs), .int .i64 h.nx, .int .u32 h.rd]
structure Hp.Ok (h : Hp) : Prop where
  l : h.bs.length < 9223372036854775808
  n : h.nx < h.bs.length ∨ h.nx = 0
def hpN (h : Hp) : Int := IntKind.u32.wrap (40503 * IntKind.u32.wrap (h.rd + 1))
def hpM (h : Hp) : Int := if h.nx < h.bs.length then IntKind.u32.wrap (hpN h + IntKind.u32.wrap (331 * IntKind.u32.wrap (h.bs.getD h.nx default))) else hpN h
def hpV' (n : Int) : Int := iand .u32 (ixor .u32 n (n.fdiv (2 ^ (min (9 : Int).toNat IntKind.u32.bits)))) 32767
def hpV (h : Hp) : Int := hpV' (hpM h)
def hpS (h : Hp) : Hp := if h.bs.length ≤ h.nx + 1 then ⟨h.nl, h.bs, 0, IntKind.u32.wrap (h.rd + 1)⟩ else ⟨h.nl, h.bs, h.nx + 1, h.rd⟩
theorem hpV_bound (n : Int) : 0 ≤ hpV' n ∧ hpV' n ≤ 32767 := by
  unfold hpV' iand
  have h1 : (BitVec.ofInt IntKind.u32.bits (ixor .u32 n (n.fdiv (2 ^ (min (9 : Int).toNat IntKind.u32.bits)))) &&& BitVec.ofInt IntKind.u32.bits 32767).toNat ≤ 32767 := by
    rw [BitVec.toNat_and]
    exact Nat.le_trans Nat.and_le_right (by decide)
  generalize (BitVec.ofInt IntKind.u32.bits (ixor .u32 n (n.fdiv (2 ^ (min (9 : Int).toNat IntKind.u32.bits)))) &&& BitVec.ofInt IntKind.u32.bits 32767).toNat = m at h1 ⊢
  simp only [IntKind.wrap, IntKind.bits, IntKind.signed]
  constructor <;> simp <;> omega
theorem hpS_ok {h : Hp} (o : h.Ok) : (hpS h).Ok := by
  unfold hpS; split
  · exact ⟨o.l, .inr rfl⟩
  · exact ⟨o.l, .inl (by dsimp only; omega)⟩
theorem hpC_low {n : Nat} (h : Hp) : (hpC h).low n = true := by simp only [hpC, Blk.low, lowL, AV.low, lowBy]; rfl
theorem hpC_ren (f : Nat → Nat) (h : Hp) : (hpC h).ren f = hpC h := Blk.ren_low (n := 0) (fun i hi => by omega) (hpC_low h)

theorem XInt.w {q : IntKind} {x : Int} {k : AV → Prop} (h : k (.int q (q.wrap x))) : XInt q x k := ⟨h⟩

def HpOk (f : FuncId) (qs : List AV) (h : Hp) (r : AV) (h' : Hp) : Prop :=
  lowL 0 qs = true ∧ ACall Try.prog f (.ptr 0 0 :: qs) [hpC h] fun r' H' => r' = r ∧ H' = [hpC h']
theorem XCall.hp {f : FuncId} {qs : List AV} {h h' : Hp} {r : AV} (x : HpOk f qs h r h') (hr : r.low 0 = true) {H : List Blk} {k : AV → List Blk → Prop} {j : Nat} (h0 : lget H j = some (hpC h))
    (hk : k r (H.set j (hpC h'))) : XCall Try.prog f (.ptr j 0 :: qs) H k := by
  constructor
  have e := ACall.frame (ρ := fun i => j + i) (H := H) (k := k) x.2 (fun a b _ _ h => by have : j + a = j + b := h; omega) ?_ (fun y hy => by simp at hy; subst hy; exact hpC_low h) ?_ ?_
  · have hd : renL (fun i => j + i) qs = qs := renL_low0 x.1
    rw [List.map_cons, ← renL_eq, hd] at e
    exact e
  · intro i x1 hi
    rw [lget_eq] at h0
    rcases i with _ | i
    · simp only [List.getElem?_cons_zero, Option.some.injEq] at hi; subst hi
      rw [hpC_ren]; exact h0
    · simp at hi
  · simp only [lowL, AV.low, lowL_mono (Nat.zero_le _) x.1]; rfl
  · rintro r1 H1' ⟨rfl, rfl⟩
    rw [lget_eq] at h0
    have hj := (List.getElem?_eq_some_iff.1 h0).1
    refine ⟨rfl, H.set j (hpC h'), by simp, fun i x1 hi => ?_, fun q hq => ?_, ?_⟩
    · rcases i with _ | i
      · simp only [List.getElem?_cons_zero, Option.some.injEq] at hi; subst hi
        rw [hpC_ren]; simp [hj]
      · simp at hi
    · exact List.getElem?_set_ne (by have := hq 0 (by simp); simpa using this)
    · rw [AV.ren_low (n := 0) (fun i hi => by omega) hr]; exact hk

theorem hpM_lt {u : Hp} (h : (u.nx : Int) < u.bs.length) : hpM u = IntKind.u32.wrap (hpN u + IntKind.u32.wrap (331 * IntKind.u32.wrap (u.bs.getD u.nx default))) := if_pos (by omega)
theorem hpM_ge {u : Hp} (h : ¬ (u.nx : Int) < u.bs.length) : hpM u = hpN u := if_neg (by omega)
theorem hpS_end {u : Hp} (h : (u.bs.length : Int) ≤ u.nx + 1) : [hpC (hpS u)] = [Blk.cells [AV.sl u.nl (bytes u.bs), AV.int IntKind.i64 0, AV.int IntKind.u32 (IntKind.u32.wrap (u.rd + 1))]] := by
  unfold hpS; rw [if_pos (by omega)]; rfl
theorem hpS_on {u : Hp} (h : ¬ (u.bs.length : Int) ≤ u.nx + 1) : [hpC (hpS u)] = [Blk.cells [AV.sl u.nl (bytes u.bs), AV.int IntKind.i64 (u.nx + 1), AV.int IntKind.u32 u.rd]] := by
  unfold hpS; rw [if_neg (by omega)]; rfl
theorem i64_small {n : Int} (h1 : 0 ≤ n) (h2 : n ≤ 32767) : IntKind.i64.wrap n = n := by
  simp only [IntKind.wrap, IntKind.bits, IntKind.signed]; simp; omega
theorem pick_end {u : Hp} {n : Int} {H1 : List Blk} (hn : hpM u = n) (hS : [hpC (hpS u)] = H1) : XCut [hpC u].length [] H1 (.int .i64 (IntKind.i64.wrap (hpV' n))) fun r' H' => r' = .int .i64 (hpV u) ∧ H' = [hpC (hpS u)] := by
  subst hn; subst hS
  obtain ⟨h1, h2⟩ := hpV_bound (hpM u)
  rw [i64_small h1 h2]
  exact XCut.mk' [hpC (hpS u)] [] rfl rfl (fun x hx => by simp only [List.mem_cons, List.not_mem_nil, or_false] at hx; subst hx; exact hpC_low _) rfl ⟨rfl, rfl⟩
theorem pick_c (u : Hp) (o : u.Ok) : HpOk 86 [] u (.int .i64 (hpV u)) (hpS u) := by
  have hl := o.l
  have hn := o.n
  refine ⟨rfl, ?_⟩
  refine ACall.bodyK (T := tab) (res := [.tmp 2]) tab_ok [] Try.func86 rfl (by kernel_rfl) Try.ntmps86 rfl (by simp only [List.length_cons, List.length_nil]; decide) ?_; conv => whnf
  repeat' first | ((refine XInt.w ?_); conv => whnf)
  apply Walk.drawX tab_ok mixed_ok [] [] (hsK _) [_, _, _, _, _, _, _, _, _, _] (by kernel_rfl) rfl
  · skip
    repeat' first | (with_reducible apply XAnd.mk) | ((first | (with_reducible apply Chk.go) | (with_reducible apply ChkA.go)); conv => whnf) | (exact XSame.mk rfl rfl) | (with_reducible exact trivial)
  · skip
    repeat' first | (with_reducible apply XAnd.mk) | ((first | (with_reducible apply ChkF.go) | (with_reducible apply ChkB.go)); conv => whnf) | (with_reducible exact trivial)
  · conv => whnf
    repeat' first | ((with_reducible apply XBr.dec) <;> (intro h; first | (exfalso; omega) | ((try simp only [List.length_map] at h); first | (exfalso; omega) | (conv => whnf)))) | ((with_reducible refine XInt.i64 (by omega) (by omega) ?_); conv => whnf)
    · apply Walk.drawX tab_ok mixed_ok [] [] (hsK _) [_, _, _, _, _, _, _, _, _, _, _, _, _, _, _] (by kernel_rfl) rfl
      · skip
        repeat' first | (((with_reducible refine XIx.nat ?_ ?_ ?_); omega; (intro _; rfl)); conv => whnf) | (with_reducible apply XAnd.mk) | ((first | (with_reducible apply Chk.go) | (with_reducible apply ChkA.go)); conv => whnf) | (exact XSame.mk rfl rfl) | (with_reducible exact trivial) | ((refine XInt.w ?_); conv => whnf)
      · skip
        repeat' first | (with_reducible apply XAnd.mk) | ((first | (with_reducible apply ChkF.go) | (with_reducible apply ChkB.go)); conv => whnf) | (with_reducible exact trivial)
      · conv => whnf
        repeat' first | ((with_reducible refine XInt.i64 (by omega) (by omega) ?_); conv => whnf)
        apply Walk.drawX tab_ok mixed_ok [] [] (hsK _) [_, _, _, _, _, _, _, _, _, _] (by kernel_rfl) rfl
        · skip
          repeat' first | (with_reducible apply XAnd.mk) | ((first | (with_reducible apply Chk.go) | (with_reducible apply ChkA.go)); conv => whnf) | (exact XSame.mk rfl rfl) | (with_reducible exact trivial)
        · skip
          repeat' first | (with_reducible apply XAnd.mk) | ((first | (with_reducible apply ChkF.go) | (with_reducible apply ChkB.go)); conv => whnf) | (with_reducible exact trivial)
        · conv => whnf
          repeat' first | ((with_reducible apply XBr.dec) <;> (intro h; first | (exfalso; omega) | ((try simp only [List.length_map] at h); first | (exfalso; omega) | (conv => whnf)))) | ((with_reducible refine XHold.mk ?_ ?_); (first | omega | rfl | decide | exact ⟨rfl, by decide, rfl⟩ | exact wideI _ | exact widePr _ | exact wideSk _ | (unfold Room; constructor <;> ((try simp) <;> omega)) | exact ⟨rfl, by simp only [List.length_map], by unfold Room; constructor <;> ((try simp) <;> omega)⟩ | exact ⟨by omega, by omega, by unfold Room; constructor <;> ((try simp) <;> omega)⟩); conv => whnf) | ((refine XInt.w ?_); conv => whnf)
          · exact pick_end (hpM_lt (by assumption)) (hpS_end h)
          · exact pick_end (hpM_lt (by assumption)) (hpS_on h)
    · skip
      apply Walk.drawX tab_ok mixed_ok [] [] (hsK _) [_, _, _, _, _, _, _, _, _, _] (by kernel_rfl) rfl
      · skip
        repeat' first | (with_reducible apply XAnd.mk) | ((first | (with_reducible apply Chk.go) | (with_reducible apply ChkA.go)); conv => whnf) | (exact XSame.mk rfl rfl) | (with_reducible exact trivial)
      · skip
        repeat' first | (with_reducible apply XAnd.mk) | ((first | (with_reducible apply ChkF.go) | (with_reducible apply ChkB.go)); conv => whnf) | (with_reducible exact trivial)
      · conv => whnf
        repeat' first | ((with_reducible apply XBr.dec) <;> (intro h; first | (exfalso; omega) | ((try simp only [List.length_map] at h); first | (exfalso; omega) | (conv => whnf)))) | ((with_reducible refine XHold.mk ?_ ?_); (first | omega | rfl | decide | exact ⟨rfl, by decide, rfl⟩ | exact wideI _ | exact widePr _ | exact wideSk _ | (unfold Room; constructor <;> ((try simp) <;> omega)) | exact ⟨rfl, by simp only [List.length_map], by unfold Room; constructor <;> ((try simp) <;> omega)⟩ | exact ⟨by omega, by omega, by unfold Room; constructor <;> ((try simp) <;> omega)⟩); conv => whnf) | ((refine XInt.w ?_); conv => whnf)
        · exact pick_end (hpM_ge (by assumption)) (hpS_end h)

def modV (h : Hp) (n : Int) : Int := (hpV h).tmod (max 1 (n + 1))
theorem modV_bound (h : Hp) (n : Int) : 0 ≤ modV h n ∧ modV h n ≤ max 0 n := by
  have hb := hpV_bound (hpM h)
  have h1 : 0 ≤ hpV h := hb.1
  unfold modV
  rw [Int.tmod_eq_emod_of_nonneg h1]
  have h2 := Int.emod_nonneg (hpV h) (show max 1 (n + 1) ≠ 0 by omega)
  have h3 := Int.emod_lt_of_pos (hpV h) (show 0 < max 1 (n + 1) by omega)
  omega
theorem hp_end {u u' : Hp} {r : AV} (hr : r.low 1 = true) : XCut [hpC u].length [] [hpC u'] r fun r' H' => r' = r ∧ H' = [hpC u'] :=
  XCut.mk' [hpC u'] [] rfl rfl (fun x hx => by simp only [List.mem_cons, List.not_mem_nil, or_false] at hx; subst hx; exact hpC_low _) hr ⟨rfl, rfl⟩
theorem upto_c (u : Hp) (n : Int) (o : u.Ok) (h1 : -100000 ≤ n) (h2 : n ≤ 100000) : HpOk 23 [.int .i64 n] u (.int .i64 (modV u n)) (hpS u) := by
  refine ⟨rfl, ?_⟩
  refine ACall.bodyK (T := tab) (res := [.tmp 4]) tab_ok [] Try.func23 rfl (by kernel_rfl) Try.ntmps23 rfl (by simp only [List.length_cons, List.length_nil]; decide) ?_; conv => whnf
  refine XCall.hp (j := 0) (pick_c u o) rfl rfl ?_
  conv => whnf
  repeat' first | ((with_reducible refine XInt.i64 (by omega) (by omega) ?_); conv => whnf) | ((with_reducible refine XHold.mk ?_ ?_); (first | omega | rfl | decide | exact ⟨rfl, by decide, rfl⟩ | exact wideI _ | exact widePr _ | exact wideSk _ | (unfold Room; constructor <;> ((try simp) <;> omega)) | exact ⟨rfl, by simp only [List.length_map], by unfold Room; constructor <;> ((try simp) <;> omega)⟩ | exact ⟨by omega, by omega, by unfold Room; constructor <;> ((try simp) <;> omega)⟩); conv => whnf)
  exact hp_end rfl
theorem from_c (u : Hp) (lo hi : Int) (o : u.Ok) (h1 : -10000 ≤ lo) (h2 : lo ≤ 10000) (h3 : -10000 ≤ hi) (h4 : hi ≤ 10000) : HpOk 22 [.int .i64 lo, .int .i64 hi] u (.int .i64 (lo + modV u (hi - lo))) (hpS u) := by
  have hb := modV_bound u (hi - lo)
  refine ⟨rfl, ?_⟩
  refine ACall.bodyK (T := tab) (res := [.tmp 6]) tab_ok [] Try.func22 rfl (by kernel_rfl) Try.ntmps22 rfl (by simp only [List.length_cons, List.length_nil]; decide) ?_; conv => whnf
  repeat' first | ((first | (with_reducible refine XInt.i64 (by omega) (by omega) ?_) | (refine XCall.hp (j := 0) (upto_c u (hi - lo) o (by omega) (by omega)) rfl rfl ?_)); conv => whnf)
  exact hp_end rfl
theorem once_c (u : Hp) (n : Int) (o : u.Ok) (h1 : -10000 ≤ n) (h2 : n ≤ 10000) : HpOk 74 [.int .i64 n] u (.bool (modV u (n - 1) == 0)) (hpS u) := by
  have hb := modV_bound u (n - 1)
  refine ⟨rfl, ?_⟩
  refine ACall.bodyK (T := tab) (res := [.tmp 4]) tab_ok [] Try.func74 rfl (by kernel_rfl) Try.ntmps74 rfl (by simp only [List.length_cons, List.length_nil]; decide) ?_; conv => whnf
  repeat' first | ((first | (with_reducible refine XInt.i64 (by omega) (by omega) ?_) | (refine XCall.hp (j := 0) (upto_c u (n - 1) o (by omega) (by omega)) rfl rfl ?_)); conv => whnf)
  exact hp_end rfl
end GA
end

section
namespace GA
open Go Go.RowKit Go.Proofs
set_option pp.deepTerms true
set_option maxRecDepth 8000
set_option linter.unusedVariables false
set_option linter.unusedSimpArgs false

def mdK (u : Hp) : Nat → List Sk × Hp
  | 0 => ([], u)
  | k + 1 => ((mdK u k).1 ++ [⟨1 + modV (mdK u k).2 59, modV (hpS (mdK u k).2) 5⟩], hpS (hpS (mdK u k).2))
theorem mdK_ok {u : Hp} (o : u.Ok) : ∀ k, (mdK u k).2.Ok ∧ (mdK u k).1.length = k
  | 0 => ⟨o, rfl⟩
  | k + 1 => by
    obtain ⟨h1, h2⟩ := mdK_ok o k
    exact ⟨hpS_ok (hpS_ok h1), by simp [mdK, h2]⟩
theorem mdK_sk {u : Hp} : ∀ k, ∀ s ∈ (mdK u k).1, 1 ≤ s.m ∧ s.m ≤ 60 ∧ 0 ≤ s.o ∧ s.o ≤ 5
  | 0, s, h => by simp [mdK] at h
  | k + 1, s, h => by
    rw [mdK, List.mem_append] at h
    rcases h with h | h
    · exact mdK_sk k s h
    · simp only [List.mem_singleton] at h; subst h
      have h1 := modV_bound (mdK u k).2 59
      have h2 := modV_bound (hpS (mdK u k).2) 5
      dsimp only; omega
structure Prs where
  ap : List (Int × Int)
  wt : List (Int × Int)
  u : Hp
def prA1 (n : Int) (u : Hp) : Int := modV u (n - 1)
def prB1 (n : Int) (u : Hp) : Int := (prA1 n u + (1 + modV (hpS u) (n - 1 - 1))).tmod n
def prS (n : Int) (s : Prs) : Prs :=
  if (modV (hpS (hpS s.u)) (2 - 1) == 0) = true then ⟨s.ap ++ [(prA1 n s.u, prB1 n s.u)], s.wt, hpS (hpS (hpS s.u))⟩ else ⟨s.ap, s.wt ++ [(prA1 n s.u, prB1 n s.u)], hpS (hpS (hpS s.u))⟩
def prK (n : Int) (u : Hp) : Nat → Prs
  | 0 => ⟨[], [], u⟩
  | k + 1 => prS n (prK n u k)
theorem prK_ok {n : Int} {u : Hp} (o : u.Ok) : ∀ k, (prK n u k).u.Ok ∧ (prK n u k).ap.length + (prK n u k).wt.length = k
  | 0 => ⟨o, rfl⟩
  | k + 1 => by
    obtain ⟨h1, h2⟩ := prK_ok (n := n) o k
    unfold prK prS
    split
    · exact ⟨hpS_ok (hpS_ok (hpS_ok h1)), by simp; omega⟩
    · exact ⟨hpS_ok (hpS_ok (hpS_ok h1)), by simp; omega⟩
theorem prAB {n : Int} (u : Hp) (hn : 1 < n) : 0 ≤ prA1 n u ∧ prA1 n u < n ∧ 0 ≤ prB1 n u ∧ prB1 n u < n ∧ prA1 n u ≠ prB1 n u := by
  have h1 := modV_bound u (n - 1)
  have h2 := modV_bound (hpS u) (n - 1 - 1)
  unfold prB1 prA1
  generalize modV u (n - 1) = a at h1 ⊢
  generalize modV (hpS u) (n - 1 - 1) = b at h2 ⊢
  rw [Int.tmod_eq_emod_of_nonneg (by omega)]
  have h3 := Int.emod_nonneg (a + (1 + b)) (show n ≠ 0 by omega)
  have h4 := Int.emod_lt_of_pos (a + (1 + b)) (show 0 < n by omega)
  refine ⟨by omega, by omega, h3, h4, fun e => ?_⟩
  have h5 := Int.emod_add_mul_ediv (a + (1 + b)) n
  rcases Int.lt_or_le (a + (1 + b)) n with hlt | hle
  · rw [Int.emod_eq_of_lt (by omega) hlt] at e; omega
  · have : (a + (1 + b)) / n = 1 := by
      rw [Int.ediv_eq_iff_of_pos (by omega)]; omega
    rw [this] at h5; omega
theorem prK_in {n : Int} {u : Hp} (hn : 1 < n) : ∀ k, (∀ p ∈ (prK n u k).ap, 0 ≤ p.1 ∧ p.1 < n ∧ 0 ≤ p.2 ∧ p.2 < n ∧ p.1 ≠ p.2) ∧ ∀ p ∈ (prK n u k).wt, 0 ≤ p.1 ∧ p.1 < n ∧ 0 ≤ p.2 ∧ p.2 < n ∧ p.1 ≠ p.2
  | 0 => by simp [prK]
  | k + 1 => by
    obtain ⟨h1, h2⟩ := prK_in (u := u) hn k
    have h3 := prAB (prK n u k).u hn
    unfold prK prS
    split
    · refine ⟨fun p hp => ?_, h2⟩
      rcases List.mem_append.1 hp with hp | hp
      · exact h1 p hp
      · simp only [List.mem_singleton] at hp; subst hp; exact h3
    · refine ⟨h1, fun p hp => ?_⟩
      rcases List.mem_append.1 hp with hp | hp
      · exact h2 p hp
      · simp only [List.mem_singleton] at hp; subst hp; exact h3
def mdSk (u : Hp) (sacks : Int) : List Sk × Hp := mdK (hpS (hpS (hpS u))) (modV (hpS (hpS u)) sacks).toNat
def mdPr (u : Hp) (sacks pairs : Int) : Prs := if 1 < (mdSk u sacks).1.length then prK (mdSk u sacks).1.length (hpS (mdSk u sacks).2) (modV (mdSk u sacks).2 pairs).toNat else ⟨[], [], (mdSk u sacks).2⟩
def madeL (u : Hp) (sacks pairs : Int) : Ld := ⟨20 + modV u 80, modV (hpS u) 6 * 10, (mdSk u sacks).1.isEmpty, (mdSk u sacks).1, (mdPr u sacks pairs).ap.isEmpty, (mdPr u sacks pairs).ap, (mdPr u sacks pairs).wt.isEmpty, (mdPr u sacks pairs).wt⟩
def madeH (u : Hp) (sacks pairs : Int) : Hp := (mdPr u sacks pairs).u
theorem madeL_ok (u : Hp) (sacks pairs : Int) (h1 : 0 ≤ sacks) (h2 : sacks ≤ 9) (h3 : 0 ≤ pairs) (h4 : pairs ≤ 8) (o : u.Ok) : LdOk (madeL u sacks pairs) := by
  have g1 := modV_bound u 80
  have g2 := modV_bound (hpS u) 6
  have g3 := modV_bound (hpS (hpS u)) sacks
  have g4 := modV_bound (mdSk u sacks).2 pairs
  have k1 := mdK_ok (hpS_ok (hpS_ok (hpS_ok o))) (modV (hpS (hpS u)) sacks).toNat
  have hl : (mdSk u sacks).1.length ≤ 9 := by show (mdK _ _).1.length ≤ 9; omega
  have hp : (mdPr u sacks pairs).ap.length + (mdPr u sacks pairs).wt.length ≤ 8 := by
    unfold mdPr
    split
    · have := (prK_ok (n := (mdSk u sacks).1.length) (u := hpS (mdSk u sacks).2) (hpS_ok k1.1) (modV (mdSk u sacks).2 pairs).toNat).2
      omega
    · simp
  have hin : (∀ p ∈ (mdPr u sacks pairs).ap, 0 ≤ p.1 ∧ p.1 < (mdSk u sacks).1.length ∧ 0 ≤ p.2 ∧ p.2 < (mdSk u sacks).1.length ∧ p.1 ≠ p.2) ∧ ∀ p ∈ (mdPr u sacks pairs).wt, 0 ≤ p.1 ∧ p.1 < (mdSk u sacks).1.length ∧ 0 ≤ p.2 ∧ p.2 < (mdSk u sacks).1.length ∧ p.1 ≠ p.2 := by
    unfold mdPr
    split
    · exact prK_in (by omega) _
    · simp
  exact ⟨hl, by show (mdPr u sacks pairs).ap.length ≤ 8; omega, by show (mdPr u sacks pairs).wt.length ≤ 8; omega, by show 1 ≤ 20 + modV u 80; omega, by show 20 + modV u 80 ≤ 100; omega, by show 0 ≤ modV (hpS u) 6 * 10; omega, by show modV (hpS u) 6 * 10 ≤ 90; omega,
    fun s hs => by have := mdK_sk _ s hs; omega, hin.1, hin.2⟩

theorem isEmpty_app {α : Type} (l : List α) (x : α) : (l ++ [x]).isEmpty = (l.isEmpty && false) := by cases l <;> rfl
theorem made_end {H : List Blk} {r' : AV} (b s : Int) (ss : List Sk) (ap wt : List (Int × Int)) (x : Hp) {C : Blk} {C2 : Blk} (hH : H = [hpC x, C, C2, .grow 113 ss.isEmpty (ss.map skA), .grow 118 ap.isEmpty (ap.map prA), .grow 118 wt.isEmpty (wt.map prA)])
    (hr : r' = .agg [.int .i64 b, .int .i64 s, .gr 3 ss.length, .gr 4 ap.length, .gr 5 wt.length]) {n : Nat} (hn : n = 1) : XEnd Try.prog n H r' (ldA ⟨b, s, ss.isEmpty, ss, ap.isEmpty, ap, wt.isEmpty, wt⟩) [hpC x] := by
  subst hH; subst hr; subst hn
  refine ⟨rfl, rfl, fun y hy => by simp only [List.mem_cons, List.not_mem_nil, or_false] at hy; subst hy; exact hpC_low _, ?_⟩
  refine FrozN.agg ?_ (.cons (.low rfl) (.cons (.low rfl) (.cons (.grow (by decide) rfl (List.length_map _) (lowSk _)) (.cons (.grow (by decide) rfl (List.length_map _) (lowPr _)) (.cons (.grow (by decide) rfl (List.length_map _) (lowPr _)) .nil)))))
  intro y hy
  simp only [ldC, List.mem_cons, List.not_mem_nil, or_false] at hy
  rcases hy with rfl | rfl | rfl | rfl | rfl <;> rfl
theorem made_c (u : Hp) (sacks pairs : Int) (o : u.Ok) (h1 : 0 ≤ sacks) (h2 : sacks ≤ 9) (h3 : 0 ≤ pairs) (h4 : pairs ≤ 8) : HpOk 16 [.int .i64 sacks, .int .i64 pairs] u (ldA (madeL u sacks pairs)) (madeH u sacks pairs) := by
  have g1 := modV_bound u 80
  have g2 := modV_bound (hpS u) 6
  have g3 := modV_bound (hpS (hpS u)) sacks
  have k1 := mdK_ok (hpS_ok (hpS_ok (hpS_ok o)))
  refine ⟨rfl, ?_⟩
  refine ACall.bodyN (T := tab) (res := [.cell 6 26]) tab_ok [] Try.func16 rfl (by kernel_rfl) Try.ntmps16 rfl (by simp only [List.length_cons, List.length_nil]; decide) ⟨rfl, rfl⟩ ?_; conv => whnf
  repeat' first | ((first | (with_reducible refine XInt.i64 (by omega) (by omega) ?_) | (refine XCall.hp (j := 0) (from_c u 20 100 o (by omega) (by omega) (by omega) (by omega)) rfl rfl ?_) | (refine XCall.hp (j := 0) (upto_c (hpS u) 6 (hpS_ok o) (by omega) (by omega)) rfl rfl ?_) | (refine XCall.hp (j := 0) (upto_c (hpS (hpS u)) sacks (hpS_ok (hpS_ok o)) (by omega) (by omega)) rfl rfl ?_)); conv => whnf)
  refine Walk.nilcell 2 2 113 rfl rfl ?_
  refine Walk.nilcell 2 3 118 rfl rfl ?_
  refine Walk.nilcell 2 4 118 rfl rfl ?_
  have hm : ((modV (hpS (hpS u)) sacks).toNat : Int) = modV (hpS (hpS u)) sacks := by omega
  refine Walk.loop tab_ok [] (fun k : Nat => k ≤ (modV (hpS (hpS u)) sacks).toNat) (fun k => [(0, .ptr 0 0), (2, .int .i64 pairs), (6, .ptr 1 0), (7, .ptr 2 0), (19, .int .i64 (modV (hpS (hpS u)) sacks)), (20, natA k)])
    (fun k => [hpC (mdK (hpS (hpS (hpS u))) k).2, .cells [.int .i64 0, .int .i64 0, .sl true [], .sl true [], .sl true []],
      .cells [.int .i64 (20 + modV u (100 - 20)), .int .i64 (modV (hpS u) 6 * 10), .gr 3 (mdK (hpS (hpS (hpS u))) k).1.length, .gr 4 0, .gr 5 0], .grow 113 (mdK (hpS (hpS (hpS u))) k).1.isEmpty ((mdK (hpS (hpS (hpS u))) k).1.map skA), .grow 118 true [], .grow 118 true []])
    (fun k => (modV (hpS (hpS u)) sacks).toNat - k) 0 (by omega) rfl ⟨rfl, rfl, rfl, rfl, rfl, rfl, trivial⟩ ?_
  intro k hk
  have k2 := k1 k
  have hnx : mdK (hpS (hpS (hpS u))) (k + 1) = ((mdK (hpS (hpS (hpS u))) k).1 ++ [⟨1 + modV (mdK (hpS (hpS (hpS u))) k).2 59, modV (hpS (mdK (hpS (hpS (hpS u))) k).2) 5⟩], hpS (hpS (mdK (hpS (hpS (hpS u))) k).2)) := rfl
  have hfin : k = (modV (hpS (hpS u)) sacks).toNat → mdSk u sacks = mdK (hpS (hpS (hpS u))) k := fun h => by rw [h]; rfl
  generalize mdK (hpS (hpS (hpS u))) k = q at k2 hnx hfin
  obtain ⟨ss, v⟩ := q
  obtain ⟨vo, vl⟩ := k2
  dsimp only at vo vl hnx hfin
  have b1 := modV_bound v 59
  have b2 := modV_bound (hpS v) 5
  conv => whnf
  repeat' first | ((with_reducible apply XBr.dec) <;> (intro h; first | (exfalso; omega) | ((try simp only [List.length_map] at h); first | (exfalso; omega) | (conv => whnf))))
  · apply Walk.drawX tab_ok mixed_ok [] [3, 5, 8, 10] (hsV _ [id, fun H => H.set 0 (hpC (hpS v)), fun H => H.set 0 (hpC (hpS (hpS v))), fun H => (H.set 0 (hpC (hpS (hpS v)))).set 3 (.grow 113 (ss.isEmpty && false) (ss.map skA ++ [skA (Sk.mk (1 + modV v (60 - 1)) (modV (hpS v) 5))])),
      fun H => ((H.set 0 (hpC (hpS (hpS v)))).set 3 (.grow 113 (ss.isEmpty && false) (ss.map skA ++ [skA (Sk.mk (1 + modV v (60 - 1)) (modV (hpS v) 5))]))).set 2 (.cells [.int .i64 (20 + modV u (100 - 20)), .int .i64 (modV (hpS u) 6 * 10), .gr 3 (ss.length + 1), .gr 4 0, .gr 5 0])]) [_, _, _, _, _, _, _, _, _, _, _] (by kernel_rfl) rfl
    · skip
      repeat' first | ((with_reducible refine XHold.mk ?_ ?_); (first | omega | rfl | decide | exact ⟨rfl, by decide, rfl⟩ | exact wideI _ | exact widePr _ | exact wideSk _ | (unfold Room; constructor <;> ((try simp) <;> omega)) | exact ⟨rfl, by simp only [List.length_map], by unfold Room; constructor <;> ((try simp) <;> omega)⟩ | exact ⟨by omega, by omega, by unfold Room; constructor <;> ((try simp) <;> omega)⟩); conv => whnf) | (with_reducible apply XAnd.mk) | ((first | (with_reducible apply Chk.go) | (with_reducible apply ChkA.go)); conv => whnf) | (exact XSame.mk rfl rfl) | (with_reducible exact trivial) | ((first | (refine XCall.hp (j := 0) (from_c v 1 60 vo (by omega) (by omega) (by omega) (by omega)) rfl rfl ?_) | (refine XCall.hp (j := 0) (upto_c (hpS v) 5 (hpS_ok vo) (by omega) (by omega)) rfl rfl ?_)); conv => whnf)
    · skip
      repeat' first | ((with_reducible refine XHold.mk ?_ ?_); (first | omega | rfl | decide | exact ⟨rfl, by decide, rfl⟩ | exact wideI _ | exact widePr _ | exact wideSk _ | (unfold Room; constructor <;> ((try simp) <;> omega)) | exact ⟨rfl, by simp only [List.length_map], by unfold Room; constructor <;> ((try simp) <;> omega)⟩ | exact ⟨by omega, by omega, by unfold Room; constructor <;> ((try simp) <;> omega)⟩); conv => whnf) | (with_reducible apply XAnd.mk) | ((first | (with_reducible apply Chk.go) | (with_reducible apply ChkF.go) | (with_reducible apply ChkB.go)); conv => whnf) | (exact XSame.mk rfl rfl) | (with_reducible exact trivial)
    · conv => whnf
      repeat' first | ((with_reducible refine XInt.i64 (by omega) (by omega) ?_); conv => whnf)
      refine XAgain.go (k + 1) (by omega) (by omega) ?_ ⟨rfl, rfl, rfl, rfl, rfl, rfl, trivial⟩
      rw [hnx]; simp only [List.length_append, List.map_append, isEmpty_app]; rfl
  · have hq := hfin (by omega)
    have hL : madeL u sacks pairs = ⟨20 + modV u 80, modV (hpS u) 6 * 10, ss.isEmpty, ss, (mdPr u sacks pairs).ap.isEmpty, (mdPr u sacks pairs).ap, (mdPr u sacks pairs).wt.isEmpty, (mdPr u sacks pairs).wt⟩ := by unfold madeL; rw [hq]
    have hP : mdPr u sacks pairs = if 1 < ss.length then prK ss.length (hpS v) (modV v pairs).toNat else ⟨[], [], v⟩ := by unfold mdPr; rw [hq]
    unfold madeH
    rw [hL]
    generalize mdPr u sacks pairs = pq at hP
    have b3 := modV_bound v pairs
    have hmp : ((modV v pairs).toNat : Int) = modV v pairs := by omega
    repeat' first | ((with_reducible apply XBr.dec) <;> (intro h; first | (exfalso; omega) | ((try simp only [List.length_map] at h); first | (exfalso; omega) | (conv => whnf)))) | ((first | (refine XCall.hp (j := 0) (upto_c v pairs vo (by omega) (by omega)) rfl rfl ?_) | (refine XHold.mk (List.length_map _) ?_)); conv => whnf)
    · rw [if_pos (by omega)] at hP
      have hn1 : 1 < (ss.length : Int) := by omega
      have pk := prK_ok (n := ss.length) (hpS_ok vo)
      refine Walk.loopG tab_ok [] (fun j : Nat => j ≤ (modV v pairs).toNat) (fun j => [(0, .ptr 0 0), (6, .ptr 1 0), (7, .ptr 2 0), (8, .int .i64 ss.length), (40, .int .i64 (modV v pairs)), (41, natA j)])
        (fun j => [hpC (prK ss.length (hpS v) j).u, .cells [.int .i64 0, .int .i64 0, .sl true [], .sl true [], .sl true []],
          .cells [.int .i64 (20 + modV u (100 - 20)), .int .i64 (modV (hpS u) 6 * 10), .gr 3 ss.length, .gr 4 (prK ss.length (hpS v) j).ap.length, .gr 5 (prK ss.length (hpS v) j).wt.length], .grow 113 ss.isEmpty (ss.map skA),
          .grow 118 (prK ss.length (hpS v) j).ap.isEmpty ((prK ss.length (hpS v) j).ap.map prA), .grow 118 (prK ss.length (hpS v) j).wt.isEmpty ((prK ss.length (hpS v) j).wt.map prA)])
        (fun j => (modV v pairs).toNat - j) 0 (by omega) rfl ⟨rfl, rfl, rfl, rfl, rfl, rfl, trivial⟩ ?_ ?_ ?_
      · intro j _
        constructor
        · intro x hx; simp only [List.mem_cons, List.not_mem_nil, or_false] at hx
          rcases hx with rfl | rfl | rfl | rfl | rfl | rfl <;> first | exact hpC_low _ | exact lowSk _ | exact lowPr _ | rfl
        · intro p hp; simp only [List.mem_cons, List.not_mem_nil, or_false] at hp; rcases hp with rfl | rfl | rfl | rfl | rfl | rfl <;> rfl
      · intro j _; exact Nat.le_refl _
      intro j hj
      have pj := pk j
      have hnxt : prK ss.length (hpS v) (j + 1) = prS ss.length (prK ss.length (hpS v) j) := rfl
      have hfin2 : j = (modV v pairs).toNat → pq = prK ss.length (hpS v) j := fun h => by rw [hP, h]
      generalize prK ss.length (hpS v) j = st at pj hnxt hfin2
      obtain ⟨ap, wt, x⟩ := st
      dsimp only at pj hnxt hfin2 ⊢
      have xo := pj.1
      have ab := prAB x hn1
      unfold prB1 prA1 at ab
      have c1 := modV_bound x (ss.length - 1)
      have c2 := modV_bound (hpS x) (ss.length - 1 - 1)
      have hss : ss.length ≤ 9 := by omega
      conv => whnf
      repeat' first | ((with_reducible apply XBr.dec) <;> (intro h; first | (exfalso; omega) | ((try simp only [List.length_map] at h); first | (exfalso; omega) | (conv => whnf)))) | ((with_reducible apply XBr.beq) <;> (intro h; first | (exfalso; omega) | (conv => whnf))) | ((with_reducible refine XInt.i64 (by omega) (by omega) ?_); conv => whnf) | ((with_reducible refine XHold.mk ?_ ?_); (first | omega | rfl | decide | exact ⟨rfl, by decide, rfl⟩ | exact wideI _ | exact widePr _ | exact wideSk _ | (unfold Room; constructor <;> ((try simp) <;> omega)) | exact ⟨rfl, by simp only [List.length_map], by unfold Room; constructor <;> ((try simp) <;> omega)⟩ | exact ⟨by omega, by omega, by unfold Room; constructor <;> ((try simp) <;> omega)⟩); conv => whnf) | ((first | (refine XCall.hp (j := 0) (upto_c x (ss.length - 1) xo (by omega) (by omega)) rfl rfl ?_) | (refine XCall.hp (j := 0) (from_c (hpS x) 1 (ss.length - 1) (hpS_ok xo) (by omega) (by omega) (by omega) (by omega)) rfl rfl ?_) | (refine XCall.hp (j := 0) (once_c (hpS (hpS x)) 2 (hpS_ok (hpS_ok xo)) (by omega) (by omega)) rfl rfl ?_)); conv => whnf)
      · refine XAgainG.go (j + 1) [.cells [.int .i64 (prA1 ss.length x), .int .i64 (prB1 ss.length x)]] (by omega) (by omega) ?_ ⟨rfl, rfl, rfl, rfl, rfl, rfl, trivial⟩
        rw [hnxt]; unfold prS; rw [if_pos (by simpa using h)]; simp only [List.length_append, List.map_append, isEmpty_app]; rfl
      · refine XAgainG.go (j + 1) [.cells [.int .i64 (prA1 ss.length x), .int .i64 (prB1 ss.length x)]] (by omega) (by omega) ?_ ⟨rfl, rfl, rfl, rfl, rfl, rfl, trivial⟩
        rw [hnxt]; unfold prS; rw [if_neg (by simpa using h)]; simp only [List.length_append, List.map_append, isEmpty_app]; rfl
      · rw [hfin2 (by omega)]
        exact made_end _ _ _ _ _ _ rfl rfl rfl
    · rw [if_neg (by omega)] at hP
      subst hP
      exact made_end (20 + modV u 80) (modV (hpS u) 6 * 10) ss [] [] v rfl rfl rfl
end GA
end

section
namespace GA
open Go Go.RowKit Go.Proofs
set_option pp.deepTerms true
set_option maxRecDepth 8000
set_option linter.unusedVariables false
set_option linter.unusedSimpArgs false

def hp0 (nl : Bool) (bs : List Int) : Hp := ⟨nl, bs, 0, 0⟩
theorem hp0_ok {nl : Bool} {bs : List Int} (h : bs.length < 9223372036854775808) : (hp0 nl bs).Ok := ⟨h, .inr rfl⟩
theorem ldW {l : Ld} (o : LdOk l) (hn : l.nla = true → l.apart = []) : LdW l := ⟨hn, by have := o.n; omega, by have := o.na; omega, by have := o.nw; omega⟩
end GA
end

section
namespace GA
open Go Go.RowKit Go.ChangeShapes Go.WideShapes Go.ChangeAt Go.Proofs Go.Proofs.Ytlbdomhfcghjdaa
set_option linter.unusedVariables false
set_option linter.unusedSimpArgs false

section
variable {P : Program} {w : World} {r : Reach} {base : Nat} {t : TypeId} {v : Value}
theorem okWide_len {e : TypeId} (ht : P.underlying t = some (.slice e)) (h : Value.okWide P w r base t v) : ∃ a len cap, v = .slice a len cap ∧ len < 9223372036854775808 := by
  simp only [Value.okWide, ht, Cell.okWide] at h
  cases v with
  | slice a len cap =>
    refine ⟨a, len, cap, rfl, ?_⟩
    cases a with
    | none =>
      cases len with
      | zero => omega
      | succ n => simp [Cell.ok, ht] at h
    | some a =>
      simp only [Cell.ok, ht] at h
      have h1 : IntKind.i64.max = 9223372036854775807 := by decide
      omega
  | _ => simp_all [Cell.ok]
end
theorem rep_len {P : Program} {h : Nat → Option Obj} {β : Nat → Value} {H : List Blk} {nl : Bool} {els : List AV} {a : Option Addr} {len cap : Nat} (x : Rep P h β H (.sl nl els) (.slice a len cap)) : els.length = len := by
  cases x with
  | slnil => rfl
  | slemp => rfl
  | sl us h1 => exact h1.symm
theorem ownK : ownKnob Try.prog.godebug = none := by kernel_rfl
theorem oByte : Opens Try.prog 5 1 (fun a : {n : Int // IntKind.u8.min ≤ n ∧ n ≤ IntKind.u8.max} => [AV.int .u8 a.1]) := .int (by kernel_rfl) (by kernel_rfl)
theorem oBytes : Opens Try.prog 22 1 (fun p : Bool × List Int => [AV.sl p.1 (bytes p.2)]) :=
  (Opens.slice (t := 22) (by kernel_rfl) (by kernel_rfl) oByte (by decide) (fun a => .int .u8 a.1) (fun _ => rfl)).as (fun p => ⟨(p.1.1, p.1.2.map (·.1)), by simp [bytes]⟩) (fun _ => rfl)
end GA
end

section
namespace GA
open Go Go.RowKit
set_option linter.unusedVariables false

section
variable {P : Program} {T : Tab} {N : Nat} {ρ : Option Nat} {H : List Blk} {σ : St} {D : List Nat}
theorem Walk.place {c : Code} {Q : Post} (x : Walk P N ρ c Q D σ (H ++ [.free])) : Walk P N ρ c Q D σ H := by
  constructor
  intro E h β a w s
  obtain ⟨s', X⟩ := s.sr.push (w' := w) s.sr.env (fun _ _ => rfl) (.pointer none) .free (by intro b hb; simp [anchor] at hb) (fun _ => trivial)
  exact wpIn_mono (x.o E h _ a w ⟨s', fun u r e => let ⟨v, h1, h2⟩ := s.fits u r e; ⟨v, h1, X.rep h2⟩, s.size, s.df.ext X⟩) fun _ _ _ => Conc.ext X
theorem XFree.at {H : List Blk} {b : Blk} {k : Nat → List Blk → Prop} (i : Nat) (h1 : lget H i = some .free) (h2 : hset H i b fun H' => k i H') : XFree H b k := ⟨i, h1, h2⟩
end
end GA
end

section
namespace GA
open Go Go.RowKit
set_option linter.unusedVariables false
section
variable {P : Program} {N : Nat} {ρ : Option Nat} {E : Env} {h h' : Nat → Option Obj} {β : Nat → Value} {H H' : List Blk} {w : World} {σ : St}

theorem gr_frz (s : SR P E h β H w) {i n : Nat} {t : TypeId} {nl : Bool} {els : List AV} (hi : H[i]? = some (.grow t nl els)) (hn : els.length = n) {v : Value} (hr : Rep P h β H (.gr i n) v) (X : Ext h β H h' β H')
    (hfz : ∀ b o, blkOf β H i = some b → w.heap[b]? = some o → h' b = some o) : Rep P h' β H' (.sl nl els) v := by
  cases hr with
  | gr ho hl hv =>
    obtain ⟨_, h2⟩ := hv _ _ _ hi
    have hβ := h2 hn
    subst hβ
    rcases s.blk i _ hi with ⟨rfl, rfl, h3⟩ | ⟨rfl, rfl, b, h3⟩ | ⟨rfl, b, cap, c, h3, h4, h5, h6, h7, h8, h9, h10, h11, us, h12, h13⟩
    · rw [h3]; exact .slnil
    · rw [h3]; exact .slemp
    · rw [h3]
      cases els with
      | nil => exact .slemp
      | cons e0 l0 =>
        have hbo : blkOf β H i = some b := by simp only [blkOf, hi, h3, anchor]; rw [if_neg (by omega)]
        exact .sl us rfl (by simp) (hfz b _ hbo h5) h10 h9 h11 h6 (fun j x e => by rw [Nat.zero_add]; exact h12 j x e) (fun j x e => X.rep (h13 j x e))

theorem Walk.freeze {c : Code} {Q : Post} {D : List Nat} (u i n : Nat) {t : TypeId} {nl : Bool} {els : List AV} (hu : σ u = some (.gr i n)) (hi : lget H i = some (.grow t nl els)) (hn : els.length = n) (x : Walk P N ρ c Q D (updX σ u (.sl nl els)) (H.set i .dead)) : Walk P N ρ c Q D σ H := by
  constructor
  intro E h β a w s
  rw [lget_eq] at hi
  obtain ⟨h', s1, X, hfz⟩ := s.sr.freeze hi
  refine wpIn_mono (x.o E h' _ a w ⟨s1, fun t' r e => ?_, s.size, s.df.ext X⟩) fun _ _ _ => Conc.ext X
  rw [updX_eq] at e; unfold upd at e
  split at e
  · rename_i hh; subst hh; cases e
    obtain ⟨v, h1, h2⟩ := s.fits _ _ hu
    exact ⟨v, h1, gr_frz s.sr hi hn h2 X hfz⟩
  · obtain ⟨v, h1, h2⟩ := s.fits t' r e
    exact ⟨v, h1, X.rep h2⟩
inductive FrzV (i n : Nat) (nl : Bool) (els : List AV) : AV → AV → Prop
  | same {x : AV} : FrzV i n nl els x x
  | gr : FrzV i n nl els (.gr i n) (.sl nl els)
  | agg {cs cs' : List AV} (hl : cs'.length = cs.length) (hone : ∀ x ∈ cs', x.one = true) (ho : ∀ (j : Nat) x', cs'[j]? = some x' → ∃ x, cs[j]? = some x ∧ (x' = x ∨ (x = .gr i n ∧ x' = .sl nl els))) : FrzV i n nl els (.agg cs) (.agg cs')
structure FrzL (i n : Nat) (nl : Bool) (els : List AV) (rs rs' : List AV) : Prop where
  l : rs'.length = rs.length
  o : ∀ (j : Nat) x', rs'[j]? = some x' → ∃ x, rs[j]? = some x ∧ FrzV i n nl els x x'
structure FrzC (i n : Nat) (nl : Bool) (els : List AV) (rs rs' : List AV) : Prop where
  l : rs'.length = rs.length
  o : ∀ (j : Nat) x', rs'[j]? = some x' → ∃ x, rs[j]? = some x ∧ (x' = x ∨ (x = .gr i n ∧ x' = .sl nl els))
section
variable {i n : Nat} {nl : Bool} {els : List AV}
theorem FrzC.nil : FrzC i n nl els [] [] := ⟨rfl, by simp⟩
theorem FrzC.cons {x y : AV} {rs rs' : List AV} (hx : y = x ∨ (x = .gr i n ∧ y = .sl nl els)) (h : FrzC i n nl els rs rs') : FrzC i n nl els (x :: rs) (y :: rs') := by
  refine ⟨by simp [h.l], fun j z e => ?_⟩
  cases j with
  | zero => simp at e; subst e; exact ⟨_, rfl, hx⟩
  | succ j => exact h.o j z (by simpa using e)
theorem FrzC.same {x : AV} {rs rs' : List AV} (h : FrzC i n nl els rs rs') : FrzC i n nl els (x :: rs) (x :: rs') := .cons (.inl rfl) h
theorem FrzC.gr {rs rs' : List AV} (h : FrzC i n nl els rs rs') : FrzC i n nl els (.gr i n :: rs) (.sl nl els :: rs') := .cons (.inr ⟨rfl, rfl⟩) h
theorem FrzL.nil : FrzL i n nl els [] [] := ⟨rfl, by simp⟩
theorem FrzL.cons {x y : AV} {rs rs' : List AV} (hx : FrzV i n nl els x y) (h : FrzL i n nl els rs rs') : FrzL i n nl els (x :: rs) (y :: rs') := by
  refine ⟨by simp [h.l], fun j z e => ?_⟩
  cases j with
  | zero => simp at e; subst e; exact ⟨_, rfl, hx⟩
  | succ j => exact h.o j z (by simpa using e)
theorem FrzL.same {x : AV} {rs rs' : List AV} (h : FrzL i n nl els rs rs') : FrzL i n nl els (x :: rs) (x :: rs') := .cons .same h
theorem FrzL.gr {rs rs' : List AV} (h : FrzL i n nl els rs rs') : FrzL i n nl els (.gr i n :: rs) (.sl nl els :: rs') := .cons .gr h
theorem FrzL.agg {cs cs' rs rs' : List AV} (hone : ∀ x ∈ cs', x.one = true) (hc : FrzC i n nl els cs cs') (h : FrzL i n nl els rs rs') : FrzL i n nl els (.agg cs :: rs) (.agg cs' :: rs') := .cons (.agg hc.l hone hc.o) h
theorem FrzV.rep (s : SR P E h β H w) {t : TypeId} (hi : H[i]? = some (.grow t nl els)) (hn : els.length = n) (X : Ext h β H h' β H') (hfz : ∀ b o, blkOf β H i = some b → w.heap[b]? = some o → h' b = some o) {x y : AV} (hv : FrzV i n nl els x y) {v : Value} (hr : Rep P h β H x v) : Rep P h' β H' y v := by
  cases hv with
  | same => exact X.rep hr
  | gr => exact gr_frz s hi hn hr X hfz
  | agg hl hone ho =>
    cases hr with
    | agg us h1 h2 h3 h4 =>
      refine .agg us (by rw [h1, hl]) hone (fun j x e => ?_) (fun j x e => ?_)
      · obtain ⟨z, e1, _⟩ := ho j x e; exact h3 j z e1
      · obtain ⟨z, e1, e2⟩ := ho j x e
        rcases e2 with rfl | ⟨rfl, rfl⟩
        · exact X.rep (h4 j _ e1)
        · exact gr_frz s hi hn (h4 j _ e1) X hfz
end
theorem XCall.frz {f : FuncId} {rs rs' : List AV} {k : AV → List Blk → Prop} (i n : Nat) {t : TypeId} {nl : Bool} {els : List AV} (hi : lget H i = some (.grow t nl els)) (hn : els.length = n) (hv : FrzL i n nl els rs rs')
    (H' : List Blk) (hH : ∀ E h β w, SR P E h β H w → ∀ h', SR P E h' β (H.set i .dead) w → Ext h β H h' β (H.set i .dead) → (∀ b o, blkOf β H i = some b → w.heap[b]? = some o → h' b = some o) → SR P E h' β H' w ∧ Ext h β H h' β H') (x : XCall P f rs' H' k) : XCall P f rs H k := by
  rw [lget_eq] at hi
  refine ⟨x.o.1, fun E h β w vs s hr => ?_⟩
  obtain ⟨h', s1, X, hfz⟩ := s.freeze hi
  obtain ⟨s2, X2⟩ := hH E h β w s h' s1 X hfz
  have hr' : RepL P h' β H' rs' vs := ⟨by rw [hv.l]; exact hr.1, fun j y e => by
    obtain ⟨z, e1, e2⟩ := hv.o j y e
    obtain ⟨v, e3, e4⟩ := hr.2 j z e1
    exact ⟨v, e3, e2.rep s hi hn X2 hfz e4⟩⟩
  refine (x.o.2 E h' β w vs s2 hr').mono ?_
  rintro e w' ⟨r, H'', h'', β'', v, e1, e2, e3, e4⟩
  exact ⟨r, H'', h'', β'', v, e1, e2, X2.trans e3, e4⟩
theorem XCall.freeze {f : FuncId} {rs rs' : List AV} {k : AV → List Blk → Prop} (i n : Nat) {t : TypeId} {nl : Bool} {els : List AV} (hi : lget H i = some (.grow t nl els)) (hn : els.length = n) (hv : FrzL i n nl els rs rs')
    (x : XCall P f rs' (H.set i .dead) k) : XCall P f rs H k :=
  .frz i n hi hn hv _ (fun _ _ _ _ _ _ s X _ => ⟨s, X⟩) x
end
end GA
end

section
namespace GA
open Go Go.RowKit
set_option linter.unusedVariables false
section
variable {F : Fence} {n : Nat} {P : Program} {Q : Exit → Act → World → Prop} {a : Act} {w : World}
theorem stepR_scope {b : Frame} {k : List Item} {cs : List Frame} {c : Code} : step P (lone (b.atR a (.code (.scope c) :: k)) cs w) = .next (lone (b.atR a (.code c :: .inScope c :: k)) cs w) :=
  step_lone_go (by simp [stepG, stepG.exec, Frame.atR])
theorem stepR_inScope {b : Frame} {k : List Item} {cs : List Frame} {c : Code} : step P (lone (b.atR a (.inScope c :: k)) cs w) = .next (lone (b.atR a k) cs w) :=
  step_lone_go (by simp [stepG, stepG.exec, Frame.atR])
theorem wpIn_scope {c : Code} (h : c.wpIn F n P (Exit.noGoto Q) a w) : (Code.scope c).wpIn F n P Q a w := by
  intro b k cs hro hb hr
  have h0 : (lone (b.atR a (.code (.scope c) :: k)) cs w).fenced P F := fenced_calm hb hr rfl
  obtain ⟨e, a₁, w₁, hq, harr⟩ := h b (.inScope c :: k) cs hro hb hr
  cases e with
  | normal => exact ⟨.normal, a₁, w₁, hq, .head h0 stepR_scope (StepsIn.trans harr (.one (fenced_calm hb hr rfl) stepR_inScope))⟩
  | exit id =>
    have hx : exitTo id (.inScope c :: k) = exitTo id k := by simp [exitTo]
    exact ⟨.exit id, a₁, w₁, hq, fun k' hk => .head h0 stepR_scope (harr.1 k' (by rw [hx]; exact hk)),
      fun hr' hk => let ⟨k₁, h1, h2⟩ := harr.2 hr' (by rw [hx]; exact hk); ⟨k₁, h1, .head h0 stepR_scope h2⟩⟩
  | goto l => exact hq.elim
  | ret => exact ⟨_, a₁, w₁, hq, .of_steps (.one h0 stepR_scope) harr⟩
  | panic ch => exact ⟨_, a₁, w₁, hq, .of_steps (.one h0 stepR_scope) harr⟩
  | outgrown => exact ⟨_, a₁, w₁, hq, .of_steps (.one h0 stepR_scope) harr⟩
end
section
variable {P : Program} {T : Tab} {N : Nat} {ρ : Option Nat} {D : List Nat} {σ : St} {H : List Blk} {Q : Post} {own : List Nat}
def scopeX (Q : Post) : Post
  | .goto _, _, _, _ => False
  | e, D, σ, H => Q e D σ H
theorem Walk.scope {c : Code} (ok : TabOk P T) (own : List Nat) (x : XRun P T N ρ own c (scopeX Q) D σ H) : Walk P N ρ (.scope c) Q D σ H := by
  constructor
  intro E h β a w s
  refine wpIn_scope (wpIn_mono (XRun.sound ok x E h β a w s) ?_)
  rintro e a' w' ⟨D', σ', H', h', β', q, X, s'⟩
  cases e with
  | goto l => exact q.elim
  | _ => exact ⟨D', σ', H', h', β', q, X, s'⟩
theorem Walk.label {l : Nat} (x : Q .normal D σ H) : Walk P N ρ (.label l) Q D σ H :=
  ⟨fun E h β a w s => wpIn_label ⟨D, σ, H, h, β, x, Ext.refl _ _ _, s⟩⟩
end
end GA
end

section
namespace GA
open Go Go.RowKit
set_option linter.unusedVariables false

section
variable {P : Program} {T : Tab} {N : Nat} {ρ : Option Nat} {D : List Nat} {σ : St} {H : List Blk} {Q : Post}

def XKeep (P : Program) (n : Nat) (H : List Blk) (r r' : AV) : Prop := FrozN P n H r r' ∨ (r' = r ∧ r.low n = true)
theorem XKeep.same {n : Nat} {r : AV} (h : r.low n = true) : XKeep P n H r r := .inr ⟨rfl, h⟩
theorem XKeep.gr {n i m : Nat} {t : TypeId} {nl : Bool} {els : List AV} (hi : n ≤ i) (hb : lget H i = some (.grow t nl els)) (hn : els.length = m) (hl : lowL 0 els = true) : XKeep P n H (.gr i m) (.sl nl els) := .inl (.grow hi hb hn hl)
def SubF (P : Program) (n : Nat) (H : List Blk) : List (Nat × AV) → St → Prop
  | [], _ => True
  | (t, r') :: l, σ => (∃ r, σ t = some r ∧ XKeep P n H r r') ∧ SubF P n H l σ
theorem stX_subF {n : Nat} : ∀ {l : List (Nat × AV)} {σ : St}, SubF P n H l σ → ∀ t r, stX l t = some r → ∃ r0, σ t = some r0 ∧ XKeep P n H r0 r
  | [], _, _, _, _, e => by cases e
  | (u, x) :: l, σ, h, t, r, e => by
    simp only [stX, updX_eq, upd] at e
    split at e
    · rename_i h1; subst h1; cases e; exact h.1
    · exact stX_subF h.2 t r e

structure XAgainF {G : Type} (P : Program) (I : G → Prop) (L : G → List (Nat × AV)) (hp : G → List Blk) (μ : G → Nat) (g : G) (D' : List Nat) (σ' : St) (H' : List Blk) : Prop where
  d : D' = []
  o : ∃ g' l, I g' ∧ μ g' < μ g ∧ hp g' ++ l = H' ∧ SubF P (hp g').length H' (L g') σ'
theorem XAgainF.go {G : Type} {I : G → Prop} {L : G → List (Nat × AV)} {hp : G → List Blk} {μ : G → Nat} {g : G} (g' : G) (l : List Blk) (h1 : I g') (h2 : μ g' < μ g) (h3 : hp g' ++ l = H) (h4 : SubF P (hp g').length H (L g') σ) : XAgainF P I L hp μ g [] σ H := ⟨rfl, g', l, h1, h2, h3, h4⟩
theorem Walk.keep {c : Code} (ok : TabOk P T) (own : List Nat) (H1 l : List Blk) (L : List (Nat × AV)) (hH : H1 ++ l = H) (hlow : ∀ x ∈ H1, x.low H1.length = true) (hs : SubF P H1.length H L σ) (hD : D = []) (x : XRun P T N ρ own c Q D (stX L) (H1 ++ l.map fun _ => .dead)) : Walk P N ρ c Q D σ H := by
  subst hH; subst hD
  constructor
  intro E h β a w s
  have hd : ∀ (l : List Blk) (i : Nat) x, (l.map fun _ => Blk.dead)[i]? = some x → x = .dead := fun l i x e => by
    rw [List.getElem?_map] at e
    cases hx : l[i]? with
    | none => rw [hx] at e; cases e
    | some y => rw [hx] at e; cases e; rfl
  have hlen : (l.map fun _ => Blk.dead).length = l.length := List.length_map _
  have X : Ext h β (H1 ++ l) (hallN H1.length h β (H1 ++ l) w) β (H1 ++ l.map fun _ => .dead) := by
    refine ⟨fun b o e => hallN_imm s.sr e, by simp, fun i x x' e e' => ?_⟩
    by_cases hi : i < H1.length
    · rw [List.getElem?_append_left hi] at e e'
      rw [e] at e'; cases e'; exact Blk.to_refl _ _ _
    · rw [List.getElem?_append_right (by omega)] at e'
      have := hd _ _ _ e'
      subst this
      cases x <;> first | rfl | trivial | exact .inl rfl
  have s1 := s.sr.allN hlow
  have X1 : Ext (hallN H1.length h β (H1 ++ l) w) β H1 (hallN H1.length h β (H1 ++ l) w) β (H1 ++ l.map fun _ => .dead) :=
    ⟨fun _ _ e => e, by simp, fun i x x' e e' => by rw [List.getElem?_append_left (List.getElem?_eq_some_iff.1 e).1, e] at e'; cases e'; exact Blk.to_refl _ _ _⟩
  have hbo : ∀ i b, blkOf β (H1 ++ l.map fun _ => .dead) i = some b → blkOf β H1 i = some b := fun i b e => by
    have hlt := (blkOf_some e).1
    by_cases hi : i < H1.length
    · rw [← e]; exact (blkOf_congr rfl (List.getElem?_append_left hi)).symm
    · exfalso
      unfold blkOf at e
      cases hx : (H1 ++ l.map fun _ => Blk.dead)[i]? with
      | none => rw [hx] at e; cases e
      | some x =>
        rw [hx] at e
        rw [List.getElem?_append_right (by omega)] at hx
        have := hd _ _ _ hx
        subst this; cases e
  have s2 : SR P E (hallN H1.length h β (H1 ++ l) w) β (H1 ++ l.map fun _ => .dead) w := by
    refine s1.grown X1 s1.env s1.imm (fun i x e => ?_) (fun i j b e1 e2 => s1.own i j b (hbo _ _ e1) (hbo _ _ e2)) (fun i b e => s1.fresh i b (hbo _ _ e)) s1.frm (fun i b e => s1.fro i b (hbo _ _ e))
    by_cases hi : i < H1.length
    · rw [List.getElem?_append_left hi] at e; exact .inl ⟨e, rfl, fun _ _ => rfl⟩
    · rw [List.getElem?_append_right (by omega)] at e
      have := hd _ _ _ e
      subst this; exact .inr trivial
  refine wpIn_mono (XRun.sound ok x E _ β a w ⟨s2, fun t r e => ?_, s.size, s.df.ext X⟩) fun _ _ _ => Conc.ext X
  obtain ⟨r0, e1, e2⟩ := stX_subF hs t r e
  obtain ⟨v, h1, h2⟩ := s.fits t r0 e1
  rcases e2 with e2 | ⟨rfl, e2⟩
  · exact ⟨v, h1, e2 E h β w s.sr v h2 _⟩
  · refine ⟨v, h1, X1.rep (Rep.cut (l := l) ?_ e2)⟩
    have XA : Ext h β (H1 ++ l) (hallN H1.length h β (H1 ++ l) w) β (H1 ++ l) := ⟨fun b o e => hallN_imm s.sr e, Nat.le_refl _, fun i x x' e e' => by rw [e] at e'; cases e'; exact Blk.to_refl _ _ _⟩
    exact XA.rep h2
end
end GA
end

section
namespace GA
open Go Go.RowKit Go.Proofs
section
variable {P : Program} {E : Env} {h : Nat → Option Obj} {β : Nat → Value} {H : List Blk} {w w' : World} {ρ : Go.Shelf.Ren}

theorem setCells_env (b : Nat) : ∀ (vs : List Value) (o : Nat) (w : World), World.env (w.setCells b o vs) = World.env w
  | [], _, _ => rfl
  | v :: r, o, w => by rw [World.setCells, setCells_env b r]; rfl
theorem setCells_other (b : Nat) : ∀ (vs : List Value) (o : Nat) (w : World) (k : Nat), k ≠ b → (w.setCells b o vs).heap[k]? = w.heap[k]?
  | [], _, _, _, _ => rfl
  | v :: r, o, w, k, hk => by
    rw [World.setCells, setCells_other b r _ _ k hk]
    simp only [World.setCell, Array.getElem?_modify]
    rw [if_neg (fun e => hk e.symm)]
theorem setCells_heap (b : Nat) {t : TypeId} {fz : Nat × Nat} : ∀ (vs : List Value) (o : Nat) (w : World) (c : Array Value), w.heap[b]? = some (.cells c t fz) → o + vs.length ≤ c.size →
    ∃ c', (w.setCells b o vs).heap[b]? = some (.cells c' t fz) ∧ c'.size = c.size ∧ ∀ q, c'[q]? = if o ≤ q ∧ q < o + vs.length then vs[q - o]? else c[q]?
  | [], o, w, c, hb, _ => ⟨c, hb, rfl, fun q => by rw [if_neg (fun e => by have := e.2; simp at this; omega)]⟩
  | v :: r, o, w, c, hb, hl => by
    simp only [List.length_cons] at hl
    have h1 : (w.setCell ⟨b, o, none⟩ v).heap[b]? = some (.cells (c.setIfInBounds o v) t fz) := by
      simp only [World.setCell, Array.getElem?_modify]
      simp [hb]
    obtain ⟨c', a1, a2, a3⟩ := setCells_heap b r (o + 1) _ _ h1 (by simp; omega)
    refine ⟨c', a1, by simpa using a2, fun q => ?_⟩
    rw [a3]
    by_cases h0 : q = o
    · subst h0
      rw [if_neg (by omega), if_pos (by simp), Nat.sub_self, Array.getElem?_setIfInBounds, if_pos rfl, if_pos (by omega)]
      rfl
    · by_cases h2 : o + 1 ≤ q ∧ q < o + 1 + r.length
      · rw [if_pos h2, if_pos (by simp only [List.length_cons]; omega)]
        obtain ⟨d, rfl⟩ : ∃ d, q = o + 1 + d := ⟨q - (o + 1), by omega⟩
        rw [show o + 1 + d - (o + 1) = d by omega, show o + 1 + d - o = d + 1 by omega, List.getElem?_cons_succ]
      · rw [if_neg h2, if_neg (by simp only [List.length_cons]; omega), Array.getElem?_setIfInBounds, if_neg (fun e => h0 e.symm)]

def putAt (ys : List Int) (p : Nat) (x : Int) : List Int := ys.take p ++ x :: ys.drop p
theorem putAt_length {ys : List Int} {p : Nat} {x : Int} (hp : p ≤ ys.length) : (putAt ys p x).length = ys.length + 1 := by
  simp only [putAt, List.length_append, List.length_take, List.length_cons, List.length_drop]; omega
theorem putAt_get {ys : List Int} {p : Nat} {x : Int} (hp : p ≤ ys.length) (j : Nat) : (putAt ys p x)[j]? = if j < p then ys[j]? else if j = p then some x else ys[j - 1]? := by
  unfold putAt
  by_cases h1 : j < p
  · rw [if_pos h1, List.getElem?_append_left (by simp; omega), List.getElem?_take, if_pos h1]
  · rw [if_neg h1, List.getElem?_append_right (by simp; omega), List.length_take, Nat.min_eq_left hp]
    by_cases h2 : j = p
    · subst h2; simp
    · rw [if_neg h2]
      obtain ⟨d, rfl⟩ : ∃ d, j = p + 1 + d := ⟨j - (p + 1), by omega⟩
      rw [show p + 1 + d - p = d + 1 by omega, List.getElem?_cons_succ, List.getElem?_drop]
      congr 1; omega
def vint (z : Int) : Value := .int .i64 z
theorem flatI (ys : List Int) : flat (ys.map (AV.int .i64)) = ys.map (AV.int .i64) := by
  induction ys with
  | nil => rfl
  | cons y r ih => simp only [flat, List.map_cons, List.flatMap_cons] at ih ⊢; rw [ih]; rfl
theorem cells_ints {c : Array Value} {ys : List Int} (k : CellsOk P h β H (ys.map (AV.int .i64)) c) (j : Nat) (z : Int) (e : ys[j]? = some z) : c[j]? = some (.int .i64 z) := by
  obtain ⟨us, h1, h2⟩ := k
  have e' : (ys.map (AV.int .i64))[j]? = some (.int .i64 z) := by rw [List.getElem?_map, e]; rfl
  rw [h1 j _ e', rep_int (h2 j _ e')]
theorem ints_cells {c : Array Value} {ys : List Int} (hc : ∀ (j : Nat) z, ys[j]? = some z → c[j]? = some (.int .i64 z)) : CellsOk P h β H (ys.map (AV.int .i64)) c := by
  refine ⟨fun j => .int .i64 (ys.getD j 0), fun j x e => ?_, fun j x e => ?_⟩
  · rw [List.getElem?_map, Option.map_eq_some_iff] at e
    obtain ⟨z, e1, rfl⟩ := e
    rw [hc j z e1]; simp [List.getD, e1]
  · rw [List.getElem?_map, Option.map_eq_some_iff] at e
    obtain ⟨z, e1, rfl⟩ := e
    have e2 : ys.getD j 0 = z := by simp [List.getD, e1]
    simp only [e2]
    exact .int _ _

theorem insert_sr (s : SR P E h β H w) {i p cap b : Nat} {t : TypeId} {nl : Bool} {ys : List Int} {x : Int} (hi : H[i]? = some (.grow t nl (ys.map (AV.int .i64)))) (hp : p ≤ ys.length) (hsz : sz P t = 1)
    (hcap : ys.length + 1 ≤ cap) (hmax : cap ≤ maxLen) (he : World.env w' = World.env w) (hk : ∀ k, k < w.heap.size → blkOf β H i ≠ some k → w'.heap[k]? = w.heap[k]?)
    (hbo : blkOf β H i = some b ∨ w.heap.size ≤ b) {c' : Array Value} (hb : w'.heap[b]? = some (.cells c' t (0, 0))) (hcs : c'.size = cap) (hc : ∀ (j : Nat) z, (putAt ys p x)[j]? = some z → c'[j]? = some (.int .i64 z))
    {k : AV → List Blk → Prop} (hq : k (.gr i (ys.length + 1)) (H.set i (.grow t false ((putAt ys p x).map (AV.int .i64))))) :
    Ends P E h β H k (.returned (.slice (some ⟨b, 0, none⟩) (ys.length + 1) cap)) w' := by
  have hlt := (List.getElem?_eq_some_iff.1 hi).1
  have hpl := putAt_length (x := x) hp
  obtain ⟨s', X⟩ := s.modify (β' := upb β i (.slice (some ⟨b, 0, none⟩) (ys.length + 1) cap)) (w' := w') (x' := .grow t false ((putAt ys p x).map (AV.int .i64))) hi
    (fun j hj => by simp [upb, hj]) (.inr ⟨_, _, rfl, by simp [hpl], fun e => by simp [hpl] at e⟩) (he.trans s.env) hk
    (fun b0 hb => by simp [upb, anchor] at hb; rw [← hb.2]; exact hbo)
    (fun X => .inr (.inr ⟨rfl, b, cap, c', by simp [upb, hpl], by omega, hb, by simpa [hpl] using hcap, hmax, by rw [hsz, hcs, Nat.mul_one], by omega,
      fun e he => by rw [hsz]; obtain ⟨z, _, rfl⟩ := List.mem_map.1 he; rfl, fun e he => by rw [flatI] at he; obtain ⟨z, _, rfl⟩ := List.mem_map.1 he; rfl, by rw [flatI]; exact ints_cells hc⟩))
  refine ⟨_, _, _, _, _, rfl, hq, X, s', .gr rfl (.set hlt rfl) fun t' nl' els' e => ?_⟩
  simp [hlt] at e; obtain ⟨_, _, rfl⟩ := e; exact ⟨by simp [hpl], fun _ => by simp [upb]⟩

theorem ACall.insert (L : Lays2.n21 P ρ) {i j p : Nat} {nl : Bool} {ys : List Int} {x : Int} (hi : H[i]? = some (.grow (ρ.t 3) nl (ys.map (AV.int .i64)))) (hj : H[j]? = some (.grow (ρ.t 3) false [.int .i64 x])) (hij : i ≠ j)
    (hp : p ≤ ys.length) (hn : ys.length ≤ 1000000) {k : AV → List Blk → Prop} (hk : k (.gr i (ys.length + 1)) (H.set i (.grow (ρ.t 3) false ((putAt ys p x).map (AV.int .i64))))) :
    ACall P (ρ.f 21) [.gr i ys.length, .int .i64 p, .gr j 1] H k := by
  refine ⟨⟨_, L.f21, by kernel_rfl, by kernel_rfl⟩, fun E h β w vs s hr => ?_⟩
  obtain ⟨i0, hi0, hz0, hzs, hzb⟩ := info_parts L.i3
  have hsz : sz P (ρ.t 3) = 1 := by simp [sz, hi0, hzs]
  obtain ⟨hl, hr⟩ := hr
  match vs, hl, hr with
  | [v0, v1, v2], _, hr =>
  obtain ⟨_, e0, r0⟩ := hr 0 _ rfl
  obtain ⟨_, e1, r1⟩ := hr 1 _ rfl
  obtain ⟨_, e2, r2⟩ := hr 2 _ rfl
  cases e0; cases e1; cases e2
  have hv0 : v0 = β i := by cases r0 with | gr ho hii hv => exact (hv _ _ _ hi).2 (by simp)
  have hv2 : v2 = β j := by cases r2 with | gr ho hii hv => exact (hv _ _ _ hj).2 rfl
  have hv1 := rep_int r1
  subst hv0 hv1 hv2
  refine callsIn_wide.2 ?_
  rcases s.blk j _ hj with ⟨_, h7, _⟩ | ⟨_, h7, _⟩ | ⟨_, vb, vc, cv, j8, j9, j10, j11, j12, j13, j14, j15, j16, j17⟩
  · cases h7
  · cases h7
  have hvx : cv[0]? = some (.int .i64 x) := cells_ints (ys := [x]) (by simpa [flat, AV.cells] using j17) 0 x rfl
  have hjo : blkOf β H j = some vb := by simp [blkOf, hj, j8, anchor]; omega
  have hvs : ∀ (q : Nat) v, [vint x][q]? = some v → w.cell? ⟨vb, 0 + q, none⟩ = some v := fun q v e => by
    have hq : q = 0 := by have := (List.getElem?_eq_some_iff.1 e).1; simp at this; exact this
    subst hq; cases e
    rw [cell?_of j10]; exact hvx
  have hcsl : (ys.map vint).length = ys.length := by simp
  have h1c : ∀ v ∈ ys.map vint, v.oneCell' = true := fun v hv => by obtain ⟨z, _, rfl⟩ := List.mem_map.1 hv; rfl
  have h1v : ∀ v ∈ [vint x], v.oneCell' = true := fun v hv => by rw [List.mem_singleton.1 hv]; rfl
  have hzc : ∀ q, (Builtin.zeroCells (Value.int IntKind.i64 0).cells q).size = q := fun q => by rw [size_zeroCells]; exact Nat.mul_one q
  have hge := fun cap => grownCap_ge w (ys.length + 1) cap (ρ.t 3)
  have hle := fun cap => grownCap_le_maxLen w (ys.length + 1) cap (ρ.t 3) (by simp only [maxLen]; omega)
  -- the new row at the end
  have fresh_end : ∀ (base : Option Addr) (c : Nat), β i = .slice base ys.length c → ys.length ≤ c → c < ys.length + 1 → p = ys.length → (base = none → ys.length = 0) →
      (∀ a, base = some a → ∀ (q : Nat) v, (ys.map vint)[q]? = some v → w.cell? (a.add q) = some v) →
      Calls P (ρ.f 21) [β i, .int .i64 p, β j].toArray w (Ends P E h β H k) := by
    intro base c hb hnc hroom hpn hnil hcs
    rw [hb, j8, hpn]
    refine (Any2.slices_Insert_int_end_grow L base ys.length c vb 0 1 vc (ys.map vint) [vint x] w (by omega) hnc hroom (by omega) hcsl rfl hnil hcs hvs h1v).mono ?_
    rintro e w' ⟨rfl, rfl⟩
    refine insert_sr (w' := w.drew.alloc _) s hi (by omega : p ≤ ys.length) hsz (hge c) (hle c) rfl (fun k hk _ => Below.heap_alloc w.drew _ _ hk) (.inr (Nat.le_refl _)) (heap_alloc_new w.drew _) ?_ ?_ hk
    · simp only [Array.size_append, List.size_toArray, List.length_append, List.length_map, List.length_singleton, hzc]; have := hge c; omega
    · intro q z e
      rw [putAt_get hp] at e
      have hlq : q < ys.length + 1 := by
        split at e
        · omega
        · split at e
          · omega
          · have := (List.getElem?_eq_some_iff.1 e).1; omega
      rw [Array.getElem?_append_left (by simpa using hlq), List.getElem?_toArray]
      by_cases h1 : q < p
      · rw [if_pos h1] at e
        rw [List.getElem?_append_left (by simp; omega), List.getElem?_map, e]; rfl
      · rw [if_neg h1] at e
        have h2 : q = p := by omega
        rw [if_pos h2] at e; cases e
        rw [List.getElem?_append_right (by simp; omega), h2, hpn]; simp [vint]
  rcases s.blk i _ hi with ⟨h6, h7, h8⟩ | ⟨h6, h7, a0, h8⟩ | ⟨h6, b, cap, c, h8, h9, h10, h11, h12, h13, h14, h15, h16, h17⟩
  · have h7' : ys = [] := by simpa using h7
    subst h7'
    exact fresh_end none 0 h8 (by simp) (by simp) (by simpa using hp) (fun _ => rfl) (fun a e => by cases e)
  · have h7' : ys = [] := by simpa using h7
    subst h7'
    exact fresh_end (some a0) 0 h8 (by simp) (by simp) (by simpa using hp) (fun e => by cases e) (fun a e q v e' => by simp at e')
  · rw [flatI] at h17
    rw [hsz, Nat.mul_one] at h13
    simp only [List.length_map] at h8 h11
    have hcell := cells_ints h17
    have hcs : ∀ (q : Nat) v, (ys.map vint)[q]? = some v → w.cell? ⟨b, 0 + q, none⟩ = some v := fun q v e => by
      rw [List.getElem?_map, Option.map_eq_some_iff] at e
      obtain ⟨z, e1, rfl⟩ := e
      rw [cell?_of h10, Nat.zero_add]; exact hcell q z e1
    have hbo : blkOf β H i = some b := by simp [blkOf, hi, h8, anchor]; omega
    have hvb : vb ≠ b := fun e => hij (s.own i j b hbo (by rw [hjo, e]))
    by_cases hroom : ys.length + 1 ≤ cap
    · have hsp : ∀ q, q < ys.length + 1 → (w.cell? ⟨b, 0 + q, none⟩).isSome = true := fun q hq => by
        rw [cell?_of h10, Nat.zero_add, Array.getElem?_eq_getElem (by omega)]; rfl
      have hfz : ∀ (q : Nat), w.frozen? ⟨b, q, none⟩ = false := fun q => by simp [World.frozen?, h10]
      by_cases hpn : p = ys.length
      · rw [h8, j8, hpn]
        refine (Any2.slices_Insert_int_end_room L b 0 ys.length cap vb 0 1 vc [vint x] w (by omega) hroom (by simp only [maxLen] at h12; omega) rfl
          (fun q hq => by rw [Nat.zero_add, cell?_of h10, Array.getElem?_eq_getElem (by omega)]; rfl) (fun q hq => hfz _) hvs h1v).mono ?_
        rintro e w' ⟨rfl, rfl⟩
        obtain ⟨c', g1, g2, g3⟩ := setCells_heap b [vint x] (0 + ys.length) w c h10 (by simp; omega)
        refine insert_sr s hi hp hsz hroom h12 (setCells_env _ _ _ _) (fun k _ hne => setCells_other _ _ _ _ _ (fun e => hne (by rw [hbo, e]))) (.inl hbo) g1 (by omega) ?_ hk
        intro q z e
        rw [putAt_get hp] at e
        rw [g3]
        by_cases h1 : q < p
        · rw [if_pos h1] at e
          rw [if_neg (by omega)]; exact hcell q z e
        · rw [if_neg h1] at e
          by_cases h2 : q = p
          · rw [if_pos h2] at e; cases e
            rw [if_pos (by simp; omega)]; rw [h2, hpn]; simp [vint]
          · rw [if_neg h2] at e; have := (List.getElem?_eq_some_iff.1 e).1; omega
      · rw [h8, j8]
        refine (Any2.slices_Insert_int_shift L b 0 ys.length cap p vb 0 1 vc (ys.map vint) [vint x] w (by omega) (by omega) hroom (by simp only [maxLen] at h12; omega) hvb hcsl rfl hcs hsp (fun q _ => hfz _) hvs h1c h1v
          (ρ.t 3) (ρ.t 3) cv.size c.size (by simp [World.shape?, j10]) (by simp [World.shape?, h10]) (by omega) (by simp [World.frozen?, j10]) (by simp [World.frozen?, j10])).mono ?_
        rintro e w' ⟨rfl, rfl⟩
        obtain ⟨c1, f1, f2, f3⟩ := setCells_heap b ((ys.map vint).drop p) (0 + (p + 1)) w.drew c h10 (by simp; omega)
        obtain ⟨c', g1, g2, g3⟩ := setCells_heap b [vint x] (0 + p) _ c1 f1 (by simp; omega)
        refine insert_sr (w' := (w.drew.setCells b (0 + (p + 1)) ((ys.map vint).drop p)).setCells b (0 + p) [vint x]) s hi hp hsz hroom h12 ((setCells_env _ _ _ _).trans ((setCells_env _ _ _ _).trans rfl)) (fun k _ hne => (setCells_other _ _ _ _ _ (fun e => hne (by rw [hbo, e]))).trans (setCells_other _ _ _ _ _ (fun e => hne (by rw [hbo, e])))) (.inl hbo) g1 (by omega) ?_ hk
        intro q z e
        rw [putAt_get hp] at e
        rw [g3]
        by_cases h1 : q < p
        · rw [if_pos h1] at e
          rw [if_neg (by omega), f3, if_neg (by omega)]; exact hcell q z e
        · rw [if_neg h1] at e
          by_cases h2 : q = p
          · rw [if_pos h2] at e; cases e
            rw [if_pos (by simp; omega)]; rw [h2]; simp [vint]
          · rw [if_neg h2] at e
            have h3 := (List.getElem?_eq_some_iff.1 e).1
            rw [if_neg (by simp; omega), f3, if_pos (by simp; omega), List.getElem?_drop, List.getElem?_map, show p + (q - (0 + (p + 1))) = q - 1 by omega, e]; rfl
    · by_cases hpn : p = ys.length
      · exact fresh_end (some ⟨b, 0, none⟩) cap h8 h11 (by omega) hpn (fun e => by cases e) (fun a e q v e' => by cases e; have := hcs q v e'; rw [addr_add]; exact this)
      · rw [h8, j8]
        refine (Any2.slices_Insert_int_grow L b 0 ys.length cap p vb 0 1 vc (ys.map vint) [vint x] w (by omega) (by omega) h11 (by omega) (by omega) hcsl rfl hcs hvs h1c h1v).mono ?_
        rintro e w' ⟨rfl, rfl⟩
        obtain ⟨R, hR⟩ : ∃ R : Array Value, R = (((ys.map vint).take p).toArray ++ Builtin.zeroCells (Value.int .i64 0).cells (ys.length + 1 - p) ++ Builtin.zeroCells (Value.int .i64 0).cells (grownCap w (ys.length + 1) cap (ρ.t 3) - (ys.length + 1))) := ⟨_, rfl⟩
        have hRs : R.size = grownCap w (ys.length + 1) cap (ρ.t 3) := by
          rw [hR]; simp only [Array.size_append, List.size_toArray, List.length_take, List.length_map, hzc]; have := hge cap; omega
        rw [← hR]
        have hgc := hge cap
        have f0 : (w.alloc (.cells R (ρ.t 3))).drew.heap[w.heap.size]? = some (.cells R (ρ.t 3) (0, 0)) := heap_alloc_new w _
        obtain ⟨c1, f1, f2, f3⟩ := setCells_heap w.heap.size [vint x] p _ R f0 (by simp; omega)
        have f1' : ((w.alloc (.cells R (ρ.t 3))).drew.setCells w.heap.size p [vint x]).drew.heap[w.heap.size]? = some (.cells c1 (ρ.t 3) (0, 0)) := f1
        obtain ⟨c', g1, g2, g3⟩ := setCells_heap w.heap.size ((ys.map vint).drop p) (p + 1) _ c1 f1' (by simp; omega)
        refine insert_sr (w' := ((w.alloc (.cells R (ρ.t 3))).drew.setCells w.heap.size p [vint x]).drew.setCells w.heap.size (p + 1) ((ys.map vint).drop p)) s hi hp hsz (hge cap) (hle cap) ((setCells_env _ _ _ _).trans ((setCells_env _ _ _ _).trans rfl)) (fun k hk _ => (setCells_other _ _ _ _ _ (by omega)).trans ((setCells_other _ _ _ _ _ (by omega)).trans (Below.heap_alloc w _ _ hk))) (.inr (Nat.le_refl _)) g1 (by omega) ?_ hk
        intro q z e
        rw [putAt_get hp] at e
        rw [g3]
        by_cases h1 : q < p
        · rw [if_pos h1] at e
          rw [if_neg (by omega), f3, if_neg (by omega), hR, Array.getElem?_append_left (by simp [hzc]; omega), Array.getElem?_append_left (by simp; omega), List.getElem?_toArray, List.getElem?_take, if_pos h1, List.getElem?_map, e]; rfl
        · rw [if_neg h1] at e
          by_cases h2 : q = p
          · rw [if_pos h2] at e; cases e
            rw [if_neg (by omega), f3, if_pos (by simp; omega)]; rw [h2]; simp [vint]
          · rw [if_neg h2] at e
            have h3 := (List.getElem?_eq_some_iff.1 e).1
            rw [if_pos (by simp; omega), List.getElem?_drop, List.getElem?_map, show p + (q - (p + 1)) = q - 1 by omega, e]; rfl

structure Late (G : Prop) : Prop where
  g : G
theorem lateG {G A : Prop} (f : Late G → A) (g : G) : A := f ⟨g⟩
theorem Walk.know {N : Nat} {r : Option Nat} {c : Code} {Q : Post} {D : List Nat} {σ : St} (L : List (Nat × AV)) (hs : SubX L σ) (x : Walk P N r c Q D (stX L) H) : Walk P N r c Q D σ H := ⟨AWp.weaken (stX_sub hs) x.o⟩
end
end GA
end

section
namespace GA
open Go Go.RowKit Go.Proofs
set_option pp.deepTerms true
set_option maxRecDepth 8000
set_option linter.unusedVariables false
set_option linter.unusedSimpArgs false

def insRen : Go.Shelf.Ren := ⟨fun | 21 => 130 | 27 => 150 | 28 => 151 | 35 => 157 | 39 => 164 | n => n, fun | 0 => 0 | 3 => 3 | 4 => 4 | 22 => 30 | n => n, fun n => n⟩
theorem insLays : Lays2.n21 Try.prog insRen where
  mixed := by kernel_rfl
  f21 := Try.func130.trans (congrArg some (by kernel_rfl))
  f27 := Try.func150.trans (congrArg some (by kernel_rfl))
  f28 := Try.func151.trans (congrArg some (by kernel_rfl))
  f35 := Try.func157.trans (congrArg some (by kernel_rfl))
  f39 := Try.func164.trans (congrArg some (by kernel_rfl))
  t0 := Try.underlying0
  a0 := Try.isAgg0
  z0 := Try.sizeOf0
  v0 := Try.zeroValue0
  t3 := Try.underlying3
  a3 := Try.isAgg3
  z3 := Try.sizeOf3
  v3 := Try.zeroValue3
  t4 := Try.underlying4
  a4 := Try.isAgg4
  z4 := Try.sizeOf4
  v4 := Try.zeroValue4
  t22 := Try.underlying30
  a22 := Try.isAgg30
  z22 := Try.sizeOf30
  v22 := Try.zeroValue30
  i3 := by kernel_rfl

theorem XCall.insert {H : List Blk} {i j n p : Nat} {nl : Bool} {ys : List Int} {x q : Int} {k : AV → List Blk → Prop} (hi : lget H i = some (.grow 3 nl (ints ys))) (hj : lget H j = some (.grow 3 false [.int .i64 x]))
    (hij : i ≠ j) (hl : ys.length = n) (hq : q = p) (hp : p ≤ n) (hn : n ≤ 1000000) (hk : k (.gr i (n + 1)) (H.set i (.grow 3 false (ints (putAt ys p x))))) : XCall Try.prog 130 [.gr i n, .int .i64 q, .gr j 1] H k := by
  subst hl hq
  rw [lget_eq] at hi hj
  exact ⟨ACall.insert insLays hi hj hij hp hn hk⟩

theorem putAt_ne {ys : List Int} {p : Nat} {x : Int} : (putAt ys p x).isEmpty = false := by simp [putAt]
def ordK (u : Hp) : Nat → List Int × Hp
  | 0 => ([], u)
  | k + 1 => (putAt (ordK u k).1 (modV (ordK u k).2 k).toNat k, hpS (ordK u k).2)
theorem ordK_ok {u : Hp} (o : u.Ok) : ∀ k, (ordK u k).2.Ok ∧ (ordK u k).1.length = k
  | 0 => ⟨o, rfl⟩
  | k + 1 => by
    obtain ⟨h1, h2⟩ := ordK_ok o k
    have h3 := modV_bound (ordK u k).2 k
    exact ⟨hpS_ok h1, by show (putAt _ _ _).length = _; rw [putAt_length (by omega), h2]⟩
theorem order_end {x : Hp} {ys : List Int} {nl : Bool} {n k : Nat} {R : List Blk} (hn : n = 1) (hk : ys.length = k) : XEnd Try.prog n (hpC x :: .grow 3 nl (ints ys) :: R) (.gr 1 k) (.sl nl (ints ys)) [hpC x] := by
  subst hn
  exact ⟨rfl, rfl, fun y hy => by simp only [List.mem_cons, List.not_mem_nil, or_false] at hy; subst hy; exact hpC_low _, .grow (by decide) rfl (by rw [List.length_map]; exact hk) (lowI _)⟩
theorem order_c (u : Hp) (n : Nat) (o : u.Ok) (hn : n ≤ 1000) : HpOk 73 [natA n] u (slA (ordK u n).1) (ordK u n).2 := by
  have ok := ordK_ok o
  refine ⟨rfl, ?_⟩
  refine ACall.bodyN (T := tab) (res := [.tmp 4]) tab_ok [17] Try.func73 rfl (by kernel_rfl) Try.ntmps73 rfl (by simp only [List.length_cons, List.length_nil]; decide) ⟨rfl, rfl⟩ ?_; conv => whnf
  skip
  refine Walk.nilgr 5 3 rfl ?_
  refine Walk.loopG tab_ok [17] (fun k : Nat => k ≤ n) (fun k => [(0, .ptr 0 0), (4, .sl true []), (5, .gr 1 k), (8, .int .i64 (max 0 (n : Int))), (9, natA k)]) (fun k => [hpC (ordK u k).2, .grow 3 (ordK u k).1.isEmpty (ints (ordK u k).1)]) (fun k => n - k) 0 (Nat.zero_le _) rfl ⟨rfl, rfl, rfl, rfl, rfl, trivial⟩ ?_ ?_ ?_
  · intro k hk
    refine ⟨fun x hx => ?_, fun p hp => ?_⟩
    · simp only [List.mem_cons, List.not_mem_nil, or_false] at hx
      rcases hx with rfl | rfl
      · exact hpC_low _
      · exact lowI _
    · simp only [List.mem_cons, List.not_mem_nil, or_false] at hp
      rcases hp with rfl | rfl | rfl | rfl | rfl <;> rfl
  · intro k hk; exact Nat.le_refl _
  intro k hk
  obtain ⟨vo, vl⟩ := ok k
  have hnx : ordK u (k + 1) = (putAt (ordK u k).1 (modV (ordK u k).2 k).toNat k, hpS (ordK u k).2) := rfl
  have hfin : (k : Int) = max 0 (n : Int) → ordK u n = ordK u k := fun h => by rw [show n = k by omega]
  generalize ordK u k = q at vo vl hnx hfin
  obtain ⟨ys, v⟩ := q
  dsimp only at vo vl hnx hfin
  have b1 := modV_bound v k
  conv => whnf
  repeat' first | ((with_reducible apply XBr.dec) <;> (intro h; first | (exfalso; omega) | ((try simp only [List.length_map] at h); first | (exfalso; omega) | (conv => whnf)))) | ((with_reducible refine XInt.i64 (by omega) (by omega) ?_); conv => whnf) | ((with_reducible refine XHold.mk ?_ ?_); (first | omega | rfl | decide | exact ⟨rfl, by decide, rfl⟩ | exact wideI _ | exact widePr _ | exact wideSk _ | (unfold Room; constructor <;> ((try simp) <;> omega)) | exact ⟨rfl, by simp only [List.length_map], by unfold Room; constructor <;> ((try simp) <;> omega)⟩ | exact ⟨by omega, by omega, by unfold Room; constructor <;> ((try simp) <;> omega)⟩); conv => whnf) | ((first | (refine XCall.hp (j := 0) (upto_c v k vo (by omega) (by omega)) rfl rfl ?_) | (refine XCall.insert (p := (modV v k).toNat) rfl rfl (by decide) vl (by omega) (by omega) (by omega) ?_)); conv => whnf) | fail
  · refine XAgainG.go (k + 1) [.grow 3 false [.int .i64 k]] (show k + 1 ≤ n by omega) (show n - (k + 1) < n - k by omega) ?_ ⟨rfl, rfl, rfl, rfl, rfl, trivial⟩
    rw [hnx]
    show [hpC (hpS v), Blk.grow 3 (putAt ys (modV v k).toNat k).isEmpty (ints (putAt ys (modV v k).toNat k)), _] = _
    rw [putAt_ne]
    rfl
  · have hf := hfin (by omega)
    rw [hf]
    exact order_end rfl vl
theorem putAt_perm (ys : List Int) (p : Nat) (x : Int) : (putAt ys p x).Perm (x :: ys) := by
  unfold putAt
  refine List.perm_middle.trans ?_
  rw [List.take_append_drop]
theorem ordK_perm (u : Hp) : ∀ n, (ordK u n).1.Perm ((List.range n).map fun i : Nat => (i : Int))
  | 0 => .refl _
  | n + 1 => by
    refine (putAt_perm _ _ _).trans ?_
    rw [List.range_succ, List.map_append]
    refine (List.Perm.cons _ (ordK_perm u n)).trans ?_
    exact (List.perm_append_comm (l₁ := [(n : Int)])).trans (.refl _)
theorem ordK_nd (u : Hp) (n : Nat) : (ordK u n).1.Nodup := by
  refine (ordK_perm u n).nodup_iff.2 ?_
  exact List.pairwise_map.2 (List.nodup_range.imp fun h e => h (by omega))
theorem ordK_mem (u : Hp) (n : Nat) (z : Int) : z ∈ (ordK u n).1 ↔ 0 ≤ z ∧ z < n := by
  rw [(ordK_perm u n).mem_iff, List.mem_map]
  constructor
  · rintro ⟨i, hi, rfl⟩
    have := List.mem_range.1 hi
    omega
  · intro h
    exact ⟨z.toNat, List.mem_range.2 (by omega), by omega⟩
end GA
end

section
namespace GA
open Go Go.RowKit Go.Proofs
set_option maxRecDepth 8000
set_option linter.unusedVariables false
set_option linter.unusedSimpArgs false

theorem bit_ext {a b : Nat} (h : ∀ i, a.testBit i = b.testBit i) : a = b := Nat.eq_of_testBit_eq h
theorem Sub.refl (a : Nat) : Sub a a := fun _ h => h
theorem Sub.trans {a b c : Nat} (h : Sub a b) (k : Sub b c) : Sub a c := fun i x => k i (h i x)
theorem sub_half {a m : Nat} (h : Sub a m) : Sub (a / 2) (m / 2) := fun i x => by
  have := h (i + 1) (by rw [Nat.testBit_succ]; exact x)
  rwa [Nat.testBit_succ] at this
theorem sub_odd {a m : Nat} (h : Sub a m) : a % 2 ≤ m % 2 := by
  have := h 0
  simp only [Nat.testBit_zero, decide_eq_true_eq] at this
  omega
theorem sub_diff (s c : Nat) : Sub (diff s c) s := fun i h => by rw [diff_bit, Bool.and_eq_true] at h; exact h.1
theorem sub_pow {i c : Nat} : Sub (2 ^ i) c ↔ c.testBit i = true := by
  constructor
  · intro h; exact h i (by rw [Nat.testBit_two_pow_self])
  · intro h j hj; rw [Nat.testBit_two_pow, decide_eq_true_eq] at hj; subst hj; exact h
inductive Pk (R : Nat → Bool) : Nat → Nat → Prop
  | nil : Pk R 0 0
  | cons {n set : Nat} (c : Nat) (hr : R c = true) (hs : Sub c set) (h0 : c ≠ 0) (t : Pk R n (diff set c)) : Pk R (n + 1) set
theorem diff_diff (s a b : Nat) : diff (diff s a) b = diff (diff s b) a := bit_ext fun i => by
  simp only [diff_bit]; cases s.testBit i <;> cases a.testBit i <;> cases b.testBit i <;> rfl
theorem Pk.first {R : Nat → Bool} {n set i : Nat} (h : Pk R n set) (hi : set.testBit i = true) : ∃ c k, n = k + 1 ∧ R c = true ∧ Sub c set ∧ c.testBit i = true ∧ Pk R k (diff set c) := by
  induction h with
  | nil => rw [Nat.zero_testBit] at hi; cases hi
  | @cons n set c hr hs h0 t ih =>
    cases hc : c.testBit i
    · obtain ⟨c', k, h1, h2, h3, h4, h5⟩ := ih (by rw [diff_bit, hi, hc]; rfl)
      subst h1
      refine ⟨c', k + 1, rfl, h2, h3.trans (sub_diff _ _), h4, .cons c hr (fun j hj => ?_) h0 (by rw [diff_diff]; exact h5)⟩
      rw [diff_bit, hs j hj]
      cases hc' : c'.testBit j
      · rfl
      · have := h3 j hc'; rw [diff_bit, hj, Bool.not_true, Bool.and_false] at this; cases this
    · exact ⟨c, n, rfl, hr, hs, hc, t⟩
theorem Pk.zero {R : Nat → Bool} {n : Nat} (h : Pk R n 0) : n = 0 := by
  cases h with
  | nil => rfl
  | cons c hr hs h0 t => exact absurd (Nat.le_zero.1 hs.le) h0
theorem Pk.none {R : Nat → Bool} {set : Nat} (h : Pk R 0 set) : set = 0 := by cases h; rfl
theorem Pk.mono {R R' : Nat → Bool} {n set : Nat} (h : Pk R n set) (hR : ∀ c, Sub c set → R c = true → R' c = true) : Pk R' n set := by
  induction h with
  | nil => exact .nil
  | cons c hr hs h0 t ih => exact .cons c (hR c hs hr) hs h0 (ih fun c' hc' => hR c' (hc'.trans (sub_diff _ _)))
structure IsOpt (R : Nat → Bool) (set v : Nat) : Prop where
  le : v ≤ 10
  lo : ∀ n, Pk R n set → v ≤ n
  is : v < 10 → Pk R v set
theorem IsOpt.eq {R : Nat → Bool} {set v v' : Nat} (h : IsOpt R set v) (h' : IsOpt R set v') : v = v' := by
  rcases Nat.lt_trichotomy v v' with hl | hl | hl
  · have := h'.lo v (h.is (by have := h'.le; omega)); omega
  · exact hl
  · have := h.lo v' (h'.is (by have := h.le; omega)); omega
end GA
end

section
namespace GA
open Go Go.RowKit Go.Proofs
set_option maxRecDepth 8000
set_option linter.unusedVariables false
set_option linter.unusedSimpArgs false

theorem bitsF_iff : ∀ (f i s : Nat), s < 2 ^ f → ∀ x : Int, x ∈ bitsF f i s ↔ ∃ j : Nat, x = ((i + j : Nat) : Int) ∧ s.testBit j = true
  | 0, i, s, h, x => by
    have : s = 0 := by simpa using h
    subst this
    simp [bitsF]
  | f + 1, i, s, h, x => by
    have ih := bitsF_iff f (i + 1) (s / 2) (by rw [Nat.pow_succ] at h; omega) x
    have hz : (∃ j : Nat, x = ((i + j : Nat) : Int) ∧ s.testBit j = true) ↔ (x = (i : Int) ∧ s % 2 = 1) ∨ ∃ j : Nat, x = ((i + 1 + j : Nat) : Int) ∧ (s / 2).testBit j = true := by
      constructor
      · rintro ⟨j, h1, h2⟩
        rcases j with _ | j
        · left; rw [Nat.testBit_zero, decide_eq_true_eq] at h2; exact ⟨by simpa using h1, h2⟩
        · right; rw [Nat.testBit_succ] at h2; exact ⟨j, by rw [h1]; congr 1; omega, h2⟩
      · rintro (⟨h1, h2⟩ | ⟨j, h1, h2⟩)
        · exact ⟨0, by simpa using h1, by rw [Nat.testBit_zero, decide_eq_true_eq]; exact h2⟩
        · exact ⟨j + 1, by rw [h1]; congr 1; omega, by rw [Nat.testBit_succ]; exact h2⟩
    rw [hz, ← ih]
    have e : bitsF (f + 1) i s = if s = 0 then [] else if s % 2 = 1 then (i : Int) :: bitsF f (i + 1) (s / 2) else bitsF f (i + 1) (s / 2) := rfl
    rw [e]
    split
    · rename_i h0; subst h0; rw [Nat.zero_div, bitsF_zero]; simp
    · split
      · rename_i h1; rw [List.mem_cons]; simp [h1]
      · rename_i h1; simp [h1]
theorem bits_iff {s : Nat} (h : s < 512) (x : Int) : x ∈ bits s ↔ ∃ j : Nat, x = (j : Int) ∧ s.testBit j = true := by
  have := bitsF_iff 62 0 s (by omega) x
  unfold bits
  simpa using this
theorem inSet_bit (set : Nat) (p : Int) : inSet set p = set.testBit p.toNat := by
  unfold inSet; rw [Nat.testBit_eq_decide_div_mod_eq]
  rcases Nat.mod_two_eq_zero_or_one (set / 2 ^ p.toNat) with h | h <;> rw [h] <;> rfl
theorem diff_zero {a b : Nat} : diff a b = 0 ↔ Sub a b := by
  constructor
  · intro h i hi
    cases hb : b.testBit i
    · have := diff_bit a b i; rw [h, hi, hb, Nat.zero_testBit] at this; cases this
    · rfl
  · intro h
    apply bit_ext; intro i
    rw [diff_bit, Nat.zero_testBit]
    cases ha : a.testBit i
    · rfl
    · rw [h i ha]; rfl
def allP (b : List Nat) (p : Int × Int) : Nat := b.getD p.1.toNat 0 ||| b.getD p.2.toNat 0
theorem joinStep_get (b : List Nat) (p : Int × Int) {i : Nat} (hi : i < b.length) : (joinStep b p).getD i 0 = if (allP b p).testBit i = true then b.getD i 0 ||| allP b p else b.getD i 0 := by
  have e : (allP b p).testBit i = decide ((b.getD p.1.toNat 0 ||| b.getD p.2.toNat 0) / 2 ^ i % 2 = 1) := Nat.testBit_eq_decide_div_mod_eq
  rw [e]
  unfold joinStep allP
  simp only [List.getD_eq_getElem?_getD, List.getElem?_mapIdx, List.getElem?_eq_getElem hi, Option.map_some, Option.getD_some, decide_eq_true_eq]
theorem joinStep_none (b : List Nat) (p : Int × Int) {i : Nat} (hi : ¬ i < b.length) : (joinStep b p).getD i 0 = 0 := by
  rw [List.getD_eq_getElem?_getD, List.getElem?_eq_none (by rw [joinStep_len]; omega)]; rfl
theorem joinStep_sub (b : List Nat) (p : Int × Int) (i : Nat) : Sub (b.getD i 0) ((joinStep b p).getD i 0) := by
  by_cases hi : i < b.length
  · rw [joinStep_get b p hi]; split
    · intro j hj; rw [Nat.testBit_or, hj]; rfl
    · exact Sub.refl _
  · rw [List.getD_eq_getElem?_getD, List.getElem?_eq_none (by omega)]; exact Sub.zero _
theorem foldl_sub : ∀ (ps : List (Int × Int)) (b : List Nat) (i : Nat), Sub (b.getD i 0) ((ps.foldl joinStep b).getD i 0)
  | [], _, _ => Sub.refl _
  | p :: ps, b, i => by rw [List.foldl_cons]; exact (joinStep_sub b p i).trans (foldl_sub ps _ i)
theorem closeF_sub (l : Ld) : ∀ (n : Nat) (b : List Nat) (i : Nat), Sub (b.getD i 0) ((closeF l n b).getD i 0)
  | 0, _, _ => Sub.refl _
  | n + 1, b, i => by
    show Sub _ ((if joinR l b = b then b else closeF l n (joinR l b)).getD i 0)
    split
    · exact Sub.refl _
    · exact (foldl_sub _ b i).trans (closeF_sub l n _ i)
theorem closeF_fix (l : Ld) : ∀ (n : Nat) (b : List Nat), msr b < n → (∀ i, b.getD i 0 < 512) → joinR l (closeF l n b) = closeF l n b
  | 0, _, h, _ => absurd h (Nat.not_lt_zero _)
  | n + 1, b, h, hs => by
    show joinR l (if joinR l b = b then b else closeF l n (joinR l b)) = if joinR l b = b then b else closeF l n (joinR l b)
    split
    · assumption
    · rename_i hne
      have := msr_lt b (joinR l b) (joinR_len l b).symm (joinR_ge l b) (joinR_small l b hs) (Ne.symm hne)
      exact closeF_fix l n _ (by omega) (joinR_small l b hs)
theorem foldl_fix : ∀ (ps : List (Int × Int)) (b : List Nat), ps.foldl joinStep b = b → ∀ p ∈ ps, joinStep b p = b
  | [], _, _, _, h => by simp at h
  | q :: ps, b, h, p, hp => by
    rw [List.foldl_cons] at h
    have hq : joinStep b q = b := by
      refine eq_of_getD (d := 0) (joinStep_len b q) fun j _ => ?_
      have h1 := joinStep_ge b q j
      have h2 := foldl_ge ps (joinStep b q) j
      rw [h] at h2; omega
    rcases List.mem_cons.1 hp with rfl | hp
    · exact hq
    · rw [hq] at h; exact foldl_fix ps b h p hp
def Cl (l : Ld) (c : Nat) : Prop := ∀ p ∈ l.wth, c.testBit p.1.toNat = c.testBit p.2.toNat
def Inv (c : Nat) (b : List Nat) : Prop := ∀ i, (c.testBit i = true → Sub (b.getD i 0) c) ∧ (c.testBit i = false → ∀ j, (b.getD i 0).testBit j = true → c.testBit j = false)
theorem Inv.step {c : Nat} {b : List Nat} {p : Int × Int} (h : Inv c b) (hp : c.testBit p.1.toNat = c.testBit p.2.toNat) : Inv c (joinStep b p) := by
  intro i
  by_cases hi : i < b.length
  · rw [joinStep_get b p hi]
    split
    · rename_i ha
      unfold allP at ha ⊢
      cases h1 : c.testBit p.1.toNat
      · have k1 := (h p.1.toNat).2 h1
        have k2 := (h p.2.toNat).2 (hp ▸ h1)
        have hci : c.testBit i = false := by
          rw [Nat.testBit_or, Bool.or_eq_true] at ha
          exact ha.elim (k1 i) (k2 i)
        refine ⟨fun e => (by rw [hci] at e; cases e), fun _ j hj => ?_⟩
        rw [Nat.testBit_or, Nat.testBit_or, Bool.or_eq_true, Bool.or_eq_true] at hj
        rcases hj with hj | hj | hj
        · exact (h i).2 hci j hj
        · exact k1 j hj
        · exact k2 j hj
      · have k1 := (h p.1.toNat).1 h1
        have k2 := (h p.2.toNat).1 (hp ▸ h1)
        have hci : c.testBit i = true := by
          rw [Nat.testBit_or, Bool.or_eq_true] at ha
          exact ha.elim (k1 i) (k2 i)
        refine ⟨fun _ j hj => ?_, fun e => (by rw [hci] at e; cases e)⟩
        rw [Nat.testBit_or, Nat.testBit_or, Bool.or_eq_true, Bool.or_eq_true] at hj
        rcases hj with hj | hj | hj
        · exact (h i).1 hci j hj
        · exact k1 j hj
        · exact k2 j hj
    · exact h i
  · rw [joinStep_none b p hi]
    exact ⟨fun _ => Sub.zero _, fun _ j hj => by rw [Nat.zero_testBit] at hj; cases hj⟩
theorem Inv.fold {c : Nat} : ∀ (ps : List (Int × Int)) (b : List Nat), (∀ p ∈ ps, c.testBit p.1.toNat = c.testBit p.2.toNat) → Inv c b → Inv c (ps.foldl joinStep b)
  | [], _, _, h => h
  | p :: ps, b, hp, h => by rw [List.foldl_cons]; exact Inv.fold ps _ (fun q hq => hp q (List.mem_cons_of_mem _ hq)) (h.step (hp p List.mem_cons_self))
theorem Inv.close {l : Ld} {c : Nat} (hc : Cl l c) : ∀ (n : Nat) (b : List Nat), Inv c b → Inv c (closeF l n b)
  | 0, _, h => h
  | n + 1, b, h => by
    show Inv c (if joinR l b = b then b else closeF l n (joinR l b))
    split
    · exact h
    · exact Inv.close hc n _ (Inv.fold _ _ hc h)
theorem ndI_get {n i : Nat} (hi : i < 9) : (ndI n).getD i 0 = if i < n then 2 ^ i else 0 := by
  unfold ndI; rw [List.getD_eq_getElem?_getD, List.getElem?_map, List.getElem?_range hi]; rfl
theorem Inv.zero (c n : Nat) : Inv c (ndI n) := by
  intro i
  by_cases hi : i < 9
  · rw [ndI_get hi]
    split
    · refine ⟨fun h => sub_pow.2 h, fun h j hj => ?_⟩
      rw [Nat.testBit_two_pow, decide_eq_true_eq] at hj; subst hj; exact h
    · exact ⟨fun _ => Sub.zero _, fun _ j hj => by rw [Nat.zero_testBit] at hj; cases hj⟩
  · rw [List.getD_eq_getElem?_getD, List.getElem?_eq_none (by rw [ndI_len]; omega)]
    exact ⟨fun _ => Sub.zero _, fun _ j hj => by rw [Option.getD_none, Nat.zero_testBit] at hj; cases hj⟩
theorem nd_self {l : Ld} (o : LdOk l) {i : Nat} (hi : i < l.sacks.length) : ((openD l).nd.getD i 0).testBit i = true := by
  refine closeF_sub l 5000 (ndI l.sacks.length) i i ?_
  rw [ndI_get (by have := o.n; omega), if_pos hi, Nat.testBit_two_pow_self]
theorem nd_least {l : Ld} {c : Nat} (hc : Cl l c) {i : Nat} (hi : c.testBit i = true) : Sub ((openD l).nd.getD i 0) c :=
  (Inv.close hc 5000 _ (Inv.zero c _) i).1 hi
theorem nd_fix {l : Ld} (o : LdOk l) : ∀ p ∈ l.wth, joinStep (openD l).nd p = (openD l).nd :=
  foldl_fix _ _ (closeF_fix l 5000 _ (by have := msr_le (ndI l.sacks.length) (ndI_len _); omega) (ndI_small _))
theorem nd_len {l : Ld} : (openD l).nd.length = 9 := by show (closeF l 5000 _).length = 9; rw [closeF_len, ndI_len]
structure RightP (l : Ld) (c : Nat) : Prop where
  w : (sumW (wts l) c : Int) ≤ l.bears
  wp : Cl l c
  ap : ∀ p ∈ l.apart, ¬ (c.testBit p.1.toNat = true ∧ c.testBit p.2.toNat = true)
theorem hv_get {l : Ld} (o : LdOk l) {c : Nat} (hc : c < 2 ^ l.sacks.length) : (openD l).hv.getD c 0 = sumW (wts l) c := by
  have := pow9 o.n
  show (hvF (wts l) (2 ^ l.sacks.length)).getD c 0 = _
  rw [hvF_get (by omega), if_pos hc]
theorem bit_lt {c n i : Nat} (hc : c < 2 ^ n) (hi : c.testBit i = true) : i < n := by
  rcases Nat.lt_or_ge i n with h | h
  · exact h
  · rw [Nat.testBit_lt_two_pow (Nat.lt_of_lt_of_le hc (Nat.pow_le_pow_right (by omega) h))] at hi; cases hi
theorem whole_iff {l : Ld} (o : LdOk l) {c : Nat} (hc : c < 2 ^ l.sacks.length) : wholeB (openD l) c = true ↔ Cl l c ∧ ∀ p ∈ l.apart, ¬ (c.testBit p.1.toNat = true ∧ c.testBit p.2.toNat = true) := by
  have h9 := pow9 o.n
  have hn := o.n
  have hw : ((bits c).all fun i => diff ((openD l).nd.getD i.toNat 0) c == 0) = true ↔ ∀ i : Nat, c.testBit i = true → Sub ((openD l).nd.getD i 0) c := by
    rw [List.all_eq_true]
    constructor
    · intro h i hi
      have := h (i : Int) ((bits_iff (by omega) _).2 ⟨i, rfl, hi⟩)
      rw [beq_iff_eq] at this; exact diff_zero.1 this
    · intro h x hx
      obtain ⟨j, rfl, hj⟩ := (bits_iff (by omega) _).1 hx
      rw [beq_iff_eq]; exact diff_zero.2 (h j hj)
  have ha : (l.apart.all fun p => !inSet c p.1 || !inSet c p.2) = true ↔ ∀ p ∈ l.apart, ¬ (c.testBit p.1.toNat = true ∧ c.testBit p.2.toNat = true) := by
    rw [List.all_eq_true]
    constructor
    · intro h p hp
      have := h p hp
      simp only [inSet_bit] at this
      rintro ⟨h1, h2⟩
      rw [h1, h2] at this; cases this
    · intro h p hp
      have := h p hp
      simp only [inSet_bit]
      cases h1 : c.testBit p.1.toNat
      · rfl
      · cases h2 : c.testBit p.2.toNat
        · rfl
        · exact absurd ⟨h1, h2⟩ this
  unfold wholeB
  rw [Bool.and_eq_true, hw]
  show _ ∧ (l.apart.all fun p => !inSet c p.1 || !inSet c p.2) = true ↔ _
  rw [ha]
  refine and_congr_left fun _ => ?_
  constructor
  · intro h p hp
    have b := o.wp p hp
    have e := nd_fix o p hp
    have k1 := nd_self o (i := p.1.toNat) (by omega)
    have k2 := nd_self o (i := p.2.toNat) (by omega)
    have g1 : (allP (openD l).nd p).testBit p.1.toNat = true := by unfold allP; rw [Nat.testBit_or, k1]; rfl
    have g2 : (allP (openD l).nd p).testBit p.2.toNat = true := by unfold allP; rw [Nat.testBit_or, k2, Bool.or_true]
    have e1 := joinStep_get (openD l).nd p (i := p.1.toNat) (by rw [nd_len]; omega)
    have e2 := joinStep_get (openD l).nd p (i := p.2.toNat) (by rw [nd_len]; omega)
    rw [e, if_pos g1] at e1
    rw [e, if_pos g2] at e2
    have s1 : c.testBit p.1.toNat = true → c.testBit p.2.toNat = true := fun hb => h _ hb _ (by rw [e1, Nat.testBit_or, g2, Bool.or_true])
    have s2 : c.testBit p.2.toNat = true → c.testBit p.1.toNat = true := fun hb => h _ hb _ (by rw [e2, Nat.testBit_or, g1, Bool.or_true])
    cases hb1 : c.testBit p.1.toNat
    · cases hb2 : c.testBit p.2.toNat
      · rfl
      · rw [s2 hb2] at hb1; cases hb1
    · rw [s1 hb1]
  · intro h i hi; exact nd_least h hi
theorem right_iff {l : Ld} (o : LdOk l) {c : Nat} (hc : c < 2 ^ l.sacks.length) : rightB (openD l) c = true ↔ RightP l c := by
  unfold rightB
  rw [Bool.and_eq_true, decide_eq_true_eq, hv_get o hc, whole_iff o hc]
  exact ⟨fun ⟨h1, h2, h3⟩ => ⟨h1, h2, h3⟩, fun h => ⟨h.w, h.wp, h.ap⟩⟩
end GA
end

section
namespace GA
open Go Go.RowKit Go.Proofs
set_option maxRecDepth 8000
set_option linter.unusedVariables false
set_option linter.unusedSimpArgs false

theorem diff_half (a b : Nat) : diff a b / 2 = diff (a / 2) (b / 2) := bit_ext fun i => by
  rw [← Nat.testBit_succ, diff_bit, diff_bit, Nat.testBit_succ, Nat.testBit_succ]
theorem diff_odd {a b : Nat} (h : Sub b a) : diff a b % 2 + b % 2 = a % 2 := by
  have e := diff_bit a b 0
  have hs := sub_odd h
  simp only [Nat.testBit_zero] at e
  rcases Nat.mod_two_eq_zero_or_one a with ha | ha <;> rcases Nat.mod_two_eq_zero_or_one b with hb | hb <;> rcases Nat.mod_two_eq_zero_or_one (diff a b) with hc | hc <;> simp [ha, hb, hc] at e hs ⊢
theorem sumW_split : ∀ (ws : List Nat) (s c : Nat), Sub c s → sumW ws (diff s c) + sumW ws c = sumW ws s
  | [], _, _, _ => rfl
  | w :: ws, s, c, h => by
    have ih := sumW_split ws (s / 2) (c / 2) (sub_half h)
    have ho := diff_odd h
    unfold sumW
    rw [diff_half]
    rcases Nat.mod_two_eq_zero_or_one s with ha | ha <;> rcases Nat.mod_two_eq_zero_or_one c with hb | hb <;> rcases Nat.mod_two_eq_zero_or_one (diff s c) with hc | hc <;> simp only [ha, hb, hc] at ho ⊢ <;> simp <;> omega
theorem sumW_le_of : ∀ (ws vs : List Nat) (s : Nat), ws.length = vs.length → (∀ i, ws.getD i 0 ≤ vs.getD i 0) → sumW ws s ≤ sumW vs s
  | [], [], _, _, _ => Nat.le_refl _
  | w :: ws, v :: vs, s, hl, h => by
    have h0 := h 0
    have := sumW_le_of ws vs (s / 2) (by simpa using hl) (fun i => by simpa using h (i + 1))
    simp only [List.getD_cons_zero] at h0
    unfold sumW; split <;> omega
  | [], _ :: _, _, hl, _ => by simp at hl
  | _ :: _, [], _, hl, _ => by simp at hl
theorem Pk.sum {R : Nat → Bool} {n set : Nat} (h : Pk R n set) (ws : List Nat) (k : Nat) (hR : ∀ c, Sub c set → R c = true → sumW ws c ≤ k) : sumW ws set ≤ n * k := by
  induction h with
  | nil => rw [sumW_zero]; exact Nat.zero_le _
  | @cons n set c hr hs h0 t ih =>
    have h1 := ih fun c' hc' => hR c' (hc'.trans (sub_diff _ _))
    have h2 := hR c hs hr
    have h3 := sumW_split ws set c hs
    rw [Nat.succ_mul]; omega
theorem ones_pos : ∀ (k c : Nat), c ≠ 0 → c < 2 ^ k → 1 ≤ sumW (List.replicate k 1) c
  | 0, c, h0, h => absurd (by simpa using h) h0
  | k + 1, c, h0, h => by
    show 1 ≤ sumW (1 :: List.replicate k 1) c
    unfold sumW
    rcases Nat.mod_two_eq_zero_or_one c with hc | hc
    · have := ones_pos k (c / 2) (by omega) (by rw [Nat.pow_succ] at h; omega)
      omega
    · rw [if_pos hc]; omega
theorem Pk.count {R : Nat → Bool} {n set k : Nat} (h : Pk R n set) (hs : set < 2 ^ k) : n ≤ sumW (List.replicate k 1) set := by
  induction h with
  | nil => exact Nat.zero_le _
  | @cons n set c hr hsb h0 t ih =>
    have h1 := ih (Nat.lt_of_le_of_lt (diff_le _ _) hs)
    have h2 := ones_pos k c h0 (Nat.lt_of_le_of_lt hsb.le hs)
    have h3 := sumW_split (List.replicate k 1) set c hsb
    omega
theorem ones_le (k set : Nat) : sumW (List.replicate k 1) set ≤ k := by
  induction k generalizing set with
  | zero => exact Nat.zero_le _
  | succ k ih =>
    show sumW (1 :: List.replicate k 1) set ≤ _
    have := ih (set / 2)
    unfold sumW; split <;> omega
theorem Pk.len {R : Nat → Bool} {n k : Nat} (h : Pk R n (2 ^ k - 1)) : n ≤ k := by
  have hp := Nat.two_pow_pos k
  have := h.count (k := k) (by omega)
  have := ones_le k (2 ^ k - 1)
  omega
theorem Pk.tail {R R' : Nat → Bool} (hR : ∀ c, R c = true → R' (c / 2) = true) {n set : Nat} (h : Pk R n set) : ∃ k, k ≤ n ∧ Pk R' k (set / 2) := by
  induction h with
  | nil => exact ⟨0, Nat.le_refl _, .nil⟩
  | @cons n set c hr hs h0 t ih =>
    obtain ⟨k, hk, hp⟩ := ih
    rw [diff_half] at hp
    by_cases hc : c / 2 = 0
    · refine ⟨k, by omega, ?_⟩
      have e : diff (set / 2) (c / 2) = set / 2 := by
        rw [hc]; exact bit_ext fun i => by rw [diff_bit, Nat.zero_testBit]; cases (set / 2).testBit i <;> rfl
      rwa [e] at hp
    · exact ⟨k + 1, by omega, .cons (c / 2) (hR c hr) (sub_half hs) hc hp⟩
theorem RightP.free {l : Ld} (ha : l.apart = []) (hw : l.wth = []) {c : Nat} : RightP l c ↔ (sumW (wts l) c : Int) ≤ l.bears :=
  ⟨fun h => h.w, fun h => ⟨h, fun p hp => by rw [hw] at hp; simp at hp, fun p hp => by rw [ha] at hp; simp at hp⟩⟩
end GA
end

section
namespace GA
open Go Go.RowKit Go.Proofs
set_option maxRecDepth 8000
set_option linter.unusedVariables false
set_option linter.unusedSimpArgs false

theorem XPut.ints {els : List AV} {n e : Nat} {k : List AV → Prop} (xs : List Int) (x : Int) (hE : els = GA.ints xs) (h1 : n = xs.length) (h2 : e < n) (h : k (GA.ints (xs.set e x))) : XPut els n e (.int .i64 x) k := by
  subst hE; exact XPut.map (f := .int .i64) x rfl h1 h2 h
end GA
end

section
namespace GA
open Go Go.RowKit Go.Proofs
set_option pp.deepTerms true
set_option maxRecDepth 8000
set_option linter.unusedVariables false
set_option linter.unusedSimpArgs false

theorem XArr.gp {i m' e o : Nat} {n : Int} {m w : Nat} {k : AV → Prop} (h1 : 0 ≤ n) (h2 : n < m) (h : k (.gp i m' e (o + n.toNat * w))) : XArr (.gp i m' e o) n m w k := ⟨h1, h2, h⟩
end GA
end

section
namespace GA
open Go Go.RowKit Go.Proofs
set_option maxRecDepth 8000
set_option linter.unusedVariables false
set_option linter.unusedSimpArgs false

structure Eqv (n : Nat) (b : List Nat) : Prop where
  self : ∀ i, i < n → (b.getD i 0).testBit i = true
  same : ∀ i j, (b.getD j 0).testBit i = true → b.getD i 0 = b.getD j 0
  lt : ∀ i j, (b.getD j 0).testBit i = true → i < n ∧ j < n
theorem Eqv.zero {n : Nat} (hn : n ≤ 9) : Eqv n (ndI n) := by
  have g : ∀ i j, ((ndI n).getD j 0).testBit i = true → i = j ∧ j < n := by
    intro i j h
    by_cases hj : j < 9
    · rw [ndI_get hj] at h
      split at h
      · rw [Nat.testBit_two_pow, decide_eq_true_eq] at h; exact ⟨h.symm, by assumption⟩
      · rw [Nat.zero_testBit] at h; cases h
    · rw [List.getD_eq_getElem?_getD, List.getElem?_eq_none (by rw [ndI_len]; omega), Option.getD_none, Nat.zero_testBit] at h; cases h
  refine ⟨fun i hi => ?_, fun i j h => by rw [(g i j h).1], fun i j h => ?_⟩
  · rw [ndI_get (by omega), if_pos hi, Nat.testBit_two_pow_self]
  · have := g i j h; omega
theorem Eqv.step {n : Nat} {b : List Nat} {p : Int × Int} (h : Eqv n b) (hn : n ≤ 9) (hb : b.length = 9) (h1 : p.1.toNat < n) (h2 : p.2.toNat < n) : Eqv n (joinStep b p) := by
  have ain : ∀ x, (allP b p).testBit x = true → (b.getD p.1.toNat 0).testBit x = true ∨ (b.getD p.2.toNat 0).testBit x = true := fun x hx => by
    unfold allP at hx; rw [Nat.testBit_or, Bool.or_eq_true] at hx; exact hx
  have sub : ∀ x, (allP b p).testBit x = true → Sub (b.getD x 0) (allP b p) := by
    intro x hx y hy
    unfold allP; rw [Nat.testBit_or, Bool.or_eq_true]
    rcases ain x hx with hx | hx
    · rw [h.same _ _ hx] at hy; exact .inl hy
    · rw [h.same _ _ hx] at hy; exact .inr hy
  have alt : ∀ x, (allP b p).testBit x = true → x < n := fun x hx => (ain x hx).elim (fun e => (h.lt _ _ e).1) (fun e => (h.lt _ _ e).1)
  have yes : ∀ x, (allP b p).testBit x = true → (joinStep b p).getD x 0 = allP b p := by
    intro x hx
    have := alt x hx
    rw [joinStep_get b p (by omega), if_pos hx]
    apply bit_ext; intro i; rw [Nat.testBit_or]
    cases hi : (b.getD x 0).testBit i
    · rfl
    · rw [sub x hx i hi]; rfl
  have no : ∀ x, x < 9 → (allP b p).testBit x = false → (joinStep b p).getD x 0 = b.getD x 0 := fun x hx ha => by
    rw [joinStep_get b p (by omega), if_neg (by rw [ha]; simp)]
  have big : ∀ x, ¬ x < 9 → (joinStep b p).getD x 0 = 0 := fun x hx => joinStep_none b p (by omega)
  refine ⟨fun i hi => joinStep_sub b p i i (h.self i hi), fun i j hij => ?_, fun i j hij => ?_⟩
  · by_cases hj : j < 9
    · cases ha : (allP b p).testBit j
      · rw [no j hj ha] at hij ⊢
        have hl := h.lt i j hij
        have hi : (allP b p).testBit i = false := by
          cases hb' : (allP b p).testBit i
          · rfl
          · have h3 := sub i hb'
            rw [h.same i j hij] at h3
            have := h3 j (h.self j hl.2)
            rw [ha] at this; cases this
        rw [no i (by omega) hi, h.same i j hij]
      · rw [yes j ha] at hij ⊢
        exact yes i hij
    · rw [big j hj, Nat.zero_testBit] at hij; cases hij
  · by_cases hj : j < 9
    · cases ha : (allP b p).testBit j
      · rw [no j hj ha] at hij; exact h.lt i j hij
      · rw [yes j ha] at hij; exact ⟨alt i hij, alt j ha⟩
    · rw [big j hj, Nat.zero_testBit] at hij; cases hij
theorem Eqv.fold {n : Nat} (hn : n ≤ 9) : ∀ (ps : List (Int × Int)) (b : List Nat), (∀ p ∈ ps, p.1.toNat < n ∧ p.2.toNat < n) → b.length = 9 → Eqv n b → Eqv n (ps.foldl joinStep b)
  | [], _, _, _, h => h
  | p :: ps, b, hp, hb, h => by
    rw [List.foldl_cons]
    have := hp p List.mem_cons_self
    exact Eqv.fold hn ps _ (fun q hq => hp q (List.mem_cons_of_mem _ hq)) (by rw [joinStep_len]; exact hb) (h.step hn hb this.1 this.2)
theorem Eqv.close {l : Ld} {n : Nat} (hn : n ≤ 9) (hp : ∀ p ∈ l.wth, p.1.toNat < n ∧ p.2.toNat < n) : ∀ (k : Nat) (b : List Nat), b.length = 9 → Eqv n b → Eqv n (closeF l k b)
  | 0, _, _, h => h
  | k + 1, b, hb, h => by
    show Eqv n (if joinR l b = b then b else closeF l k (joinR l b))
    split
    · exact h
    · exact Eqv.close hn hp k _ (by rw [joinR_len]; exact hb) (Eqv.fold hn _ _ hp hb h)
def ndS (l : Ld) (i : Nat) : Nat := (openD l).nd.getD i 0
theorem nd_eqv {l : Ld} (o : LdOk l) : Eqv l.sacks.length (openD l).nd :=
  Eqv.close o.n (fun p hp => by have := o.wp p hp; omega) 5000 _ (ndI_len _) (Eqv.zero o.n)
theorem nd_cl {l : Ld} (o : LdOk l) (i : Nat) : Cl l (ndS l i) := by
  have E := nd_eqv o
  intro p hp
  have b := o.wp p hp
  have hn := o.n
  have e := nd_fix o p hp
  have k1 := nd_self o (i := p.1.toNat) (by omega)
  have k2 := nd_self o (i := p.2.toNat) (by omega)
  have g1 : (allP (openD l).nd p).testBit p.1.toNat = true := by unfold allP; rw [Nat.testBit_or, k1]; rfl
  have g2 : (allP (openD l).nd p).testBit p.2.toNat = true := by unfold allP; rw [Nat.testBit_or, k2, Bool.or_true]
  have e1 := joinStep_get (openD l).nd p (i := p.1.toNat) (by rw [nd_len]; omega)
  have e2 := joinStep_get (openD l).nd p (i := p.2.toNat) (by rw [nd_len]; omega)
  rw [e, if_pos g1] at e1
  rw [e, if_pos g2] at e2
  have s1 : (ndS l i).testBit p.1.toNat = true → (ndS l i).testBit p.2.toNat = true := fun h => by
    have := E.same _ _ h
    show ((openD l).nd.getD i 0).testBit _ = true
    rw [← this, e1, Nat.testBit_or, g2, Bool.or_true]
  have s2 : (ndS l i).testBit p.2.toNat = true → (ndS l i).testBit p.1.toNat = true := fun h => by
    have := E.same _ _ h
    show ((openD l).nd.getD i 0).testBit _ = true
    rw [← this, e2, Nat.testBit_or, g1, Bool.or_true]
  cases h1 : (ndS l i).testBit p.1.toNat
  · cases h2 : (ndS l i).testBit p.2.toNat
    · rfl
    · rw [s2 h2] at h1; cases h1
  · rw [s1 h1]
theorem ndS_lt {l : Ld} (o : LdOk l) (i : Nat) : ndS l i < 2 ^ l.sacks.length := by
  apply Nat.lt_pow_two_of_testBit
  intro j hj
  cases h : (ndS l i).testBit j
  · rfl
  · have := (nd_eqv o).lt j i h; omega
def setN : List Bool → Nat
  | [] => 0
  | b :: bs => 2 * setN bs + b.toNat
theorem setN_bit : ∀ (bs : List Bool) (k : Nat), (setN bs).testBit k = bs.getD k false
  | [], k => by simp [setN]
  | b :: bs, 0 => by
    unfold setN; rw [Nat.testBit_zero]; cases b <;> simp <;> omega
  | b :: bs, k + 1 => by
    unfold setN; rw [Nat.testBit_succ, show (2 * setN bs + b.toNat) / 2 = setN bs by cases b <;> simp <;> omega, setN_bit bs k]; rfl
theorem setN_lt : ∀ (bs : List Bool), setN bs < 2 ^ bs.length
  | [] => by simp [setN]
  | b :: bs => by
    have := setN_lt bs
    unfold setN; rw [List.length_cons, Nat.pow_succ]; cases b <;> simp <;> omega
def boolN (n s : Nat) : List Bool := (List.range n).map fun k => s.testBit k
theorem boolN_len (n s : Nat) : (boolN n s).length = n := by simp [boolN]
theorem boolN_get {n s k : Nat} (hk : k < n) : (boolN n s).getD k false = s.testBit k := by
  unfold boolN; rw [List.getD_eq_getElem?_getD, List.getElem?_map, List.getElem?_range hk]; rfl
theorem bool_ext {bs : List Bool} {n s : Nat} (hl : bs.length = n) (h : ∀ k, k < n → bs.getD k false = s.testBit k) : bs = boolN n s :=
  eq_of_getD (d := false) (by rw [boolN_len, hl]) fun j hj => by rw [h j (by omega), boolN_get (by omega)]
structure BunOk (l : Ld) (i : Nat) (bs : List Bool) : Prop where
  n : bs.length = l.sacks.length
  me : bs.getD i false = true
  sub : ∀ k, bs.getD k false = true → (ndS l i).testBit k = true
theorem BunOk.done {l : Ld} (o : LdOk l) {i : Nat} {bs : List Bool} (h : BunOk l i bs) (hi : i < l.sacks.length) (hc : ∀ p ∈ l.wth, bs.getD p.1.toNat false = bs.getD p.2.toNat false) : bs = boolN l.sacks.length (ndS l i) := by
  refine bool_ext h.n fun k hk => ?_
  have cl : Cl l (setN bs) := fun p hp => by rw [setN_bit, setN_bit]; exact hc p hp
  have hl := nd_least cl (i := i) (by rw [setN_bit]; exact h.me)
  cases hb : bs.getD k false
  · cases ht : (ndS l i).testBit k
    · rfl
    · have := hl k ht; rw [setN_bit, hb] at this; cases this
  · exact (h.sub k hb).symm
theorem getD_setB (xs : List Bool) (i j : Nat) (v : Bool) : (xs.set i v).getD j false = if i = j ∧ i < xs.length then v else xs.getD j false := getD_set xs i j v false
theorem BunOk.both {l : Ld} (o : LdOk l) {i : Nat} {bs : List Bool} (h : BunOk l i bs) {p : Int × Int} (hp : p ∈ l.wth) (hne : bs.getD p.1.toNat false ≠ bs.getD p.2.toNat false) : BunOk l i ((bs.set p.1.toNat true).set p.2.toNat true) := by
  have hcl := nd_cl o i p hp
  have hin : (ndS l i).testBit p.1.toNat = true ∧ (ndS l i).testBit p.2.toNat = true := by
    cases h1 : bs.getD p.1.toNat false
    · cases h2 : bs.getD p.2.toNat false
      · rw [h1, h2] at hne; exact absurd rfl hne
      · have := h.sub _ h2; exact ⟨by rw [hcl]; exact this, this⟩
    · have := h.sub _ h1; exact ⟨this, by rw [← hcl]; exact this⟩
  refine ⟨by rw [List.length_set, List.length_set]; exact h.n, ?_, fun k hk => ?_⟩
  · rw [getD_setB, getD_setB]; split
    · rfl
    · split
      · rfl
      · exact h.me
  · rw [getD_setB, getD_setB] at hk
    split at hk
    · rename_i e; rw [← e.1]; exact hin.2
    · split at hk
      · rename_i e; rw [← e.1]; exact hin.1
      · exact h.sub k hk
end GA
end

section
namespace GA
open Go Go.RowKit Go.Proofs
set_option pp.deepTerms true
set_option maxRecDepth 8000
set_option linter.unusedVariables false
set_option linter.unusedSimpArgs false

abbrev bools (xs : List Bool) : List AV := xs.map .bool
theorem lowBo {n : Nat} (xs : List Bool) : lowL n (bools xs) = true := lowL_map (fun _ => rfl) xs
theorem XPut.bools {els : List AV} {n e : Nat} {k : List AV → Prop} (xs : List Bool) (x : Bool) (hE : els = GA.bools xs) (h1 : n = xs.length) (h2 : e < n) (h : k (GA.bools (xs.set e x))) : XPut els n e (.bool x) k := by
  subst hE; exact XPut.map (f := .bool) x rfl h1 h2 h
end GA
end

section
namespace GA
open Go Go.RowKit Go.Proofs
set_option pp.deepTerms true
set_option maxRecDepth 8000
set_option linter.unusedVariables false
set_option linter.unusedSimpArgs false

def lsK (bs : List Bool) (k : Nat) : List Int := ((List.range k).filter fun j => bs.getD j false).map fun j : Nat => (j : Int)
theorem lsK_next (bs : List Bool) (k : Nat) : lsK bs (k + 1) = if bs.getD k false = true then lsK bs k ++ [(k : Int)] else lsK bs k := by
  unfold lsK
  rw [List.range_succ, List.filter_append]
  by_cases h : bs.getD k false = true
  · rw [if_pos h, List.filter_cons_of_pos (p := fun j => bs.getD j false) h, List.filter_nil, List.map_append]; rfl
  · rw [if_neg h, List.filter_cons_of_neg (p := fun j => bs.getD j false) h, List.filter_nil, List.append_nil]
def lsN (bs : List Bool) : List Int := lsK bs bs.length
theorem bitsF_ls : ∀ (f i s : Nat), s < 2 ^ f → bitsF f i s = ((List.range f).filter fun j => s.testBit j).map fun j => ((i + j : Nat) : Int)
  | 0, i, s, h => rfl
  | f + 1, i, s, h => by
    have ih := bitsF_ls f (i + 1) (s / 2) (by rw [Nat.pow_succ] at h; omega)
    have e : bitsF (f + 1) i s = if s = 0 then [] else if s % 2 = 1 then (i : Int) :: bitsF f (i + 1) (s / 2) else bitsF f (i + 1) (s / 2) := rfl
    have e2 : ((List.range (f + 1)).filter fun j => s.testBit j).map (fun j => ((i + j : Nat) : Int)) = (if s % 2 = 1 then [(i : Int)] else []) ++ ((List.range f).filter fun j => (s / 2).testBit j).map fun j => ((i + 1 + j : Nat) : Int) := by
      rw [List.range_succ_eq_map, List.filter_cons, List.filter_map]
      have h0 : s.testBit 0 = decide (s % 2 = 1) := Nat.testBit_zero s
      have hf : ((fun j => s.testBit j) ∘ Nat.succ) = fun j => (s / 2).testBit j := by funext j; exact Nat.testBit_succ ..
      rw [hf, h0]
      by_cases hs : s % 2 = 1
      · rw [if_pos hs, if_pos (by simp [hs]), List.map_cons, List.map_map]
        show _ :: _ = _ :: _
        congr 1
        apply List.map_congr_left; intro j _; show ((i + (j + 1) : Nat) : Int) = _; congr 1; omega
      · rw [if_neg hs, if_neg (by simp [hs]), List.map_map]
        show _ = _
        rw [List.nil_append]
        apply List.map_congr_left; intro j _; show ((i + (j + 1) : Nat) : Int) = _; congr 1; omega
    rw [e, e2]
    by_cases h0 : s = 0
    · subst h0
      rw [if_pos rfl]
      have : ((List.range f).filter fun j => (0 / 2).testBit j) = [] := by rw [List.filter_eq_nil_iff]; intro j _; simp
      rw [this]; rfl
    · rw [if_neg h0, ih]
      by_cases hs : s % 2 = 1
      · rw [if_pos hs, if_pos hs]; rfl
      · rw [if_neg hs, if_neg hs]; rfl
theorem bits_ls {n s : Nat} (hn : n ≤ 9) (h : s < 2 ^ n) : lsN (boolN n s) = bits s := by
  have hp := pow9 hn
  have e : bits s = ((List.range 62).filter fun j => s.testBit j).map fun j => ((0 + j : Nat) : Int) := bitsF_ls 62 0 s (by omega)
  rw [e]
  have hr : List.range 62 = List.range n ++ (List.range (62 - n)).map (n + ·) := by rw [← List.range_add]; congr 1; omega
  rw [hr, List.filter_append]
  have h2 : ((List.range (62 - n)).map (n + ·)).filter (fun j => s.testBit j) = [] := by
    rw [List.filter_eq_nil_iff]
    intro j hj
    obtain ⟨k, _, rfl⟩ := List.mem_map.1 hj
    rw [Nat.testBit_lt_two_pow (Nat.lt_of_lt_of_le h (Nat.pow_le_pow_right (by omega) (by omega)))]; simp
  rw [h2, List.append_nil]
  unfold lsN lsK
  rw [boolN_len]
  have h3 : ((List.range n).filter fun j => (boolN n s).getD j false) = (List.range n).filter fun j => s.testBit j := by
    apply List.filter_congr
    intro j hj
    exact boolN_get (List.mem_range.1 hj)
  rw [h3]
  apply List.map_congr_left; intro j _; congr 1; omega
theorem first_all : ∀ s : Fin 512, s.val ≠ 0 → (bits s.val).getD 0 0 = ((Nat.log2 (lowb s.val) : Nat) : Int) ∧ lowb s.val = 2 ^ Nat.log2 (lowb s.val) ∧ bits s.val ≠ [] := by decide +kernel
theorem first_iff {s i : Nat} (h0 : s ≠ 0) (h : s < 512) : (bits s).getD 0 0 = (i : Int) ↔ lowb s = 2 ^ i := by
  obtain ⟨h1, h2, _⟩ := first_all ⟨s, h⟩ h0
  dsimp only at h1 h2
  rw [h1]
  constructor
  · intro e; have : Nat.log2 (lowb s) = i := by omega
    rw [← this]; exact h2
  · intro e; rw [e, Nat.log2_two_pow]
end GA
end

section
namespace GA
open Go Go.RowKit Go.Proofs
set_option pp.deepTerms true
set_option maxRecDepth 8000
set_option linter.unusedVariables false
set_option linter.unusedSimpArgs false

def isF (l : Ld) (i : Nat) : Bool := lowb (ndS l i) == 2 ^ i
def bunK (l : Ld) : Nat → List (List Int)
  | 0 => []
  | k + 1 => if isF l k = true then bunK l k ++ [bits (ndS l k)] else bunK l k
def stuK (l : Ld) : Nat → List Int
  | 0 => []
  | k + 1 => if (isF l k && !rightB (openD l) (ndS l k)) = true then stuK l k ++ [(k : Int)] else stuK l k
theorem bunK_len (l : Ld) : ∀ k, (bunK l k).length ≤ k
  | 0 => Nat.le_refl _
  | k + 1 => by have := bunK_len l k; unfold bunK; split <;> simp <;> omega
theorem stuK_len (l : Ld) : ∀ k, (stuK l k).length ≤ k
  | 0 => Nat.le_refl _
  | k + 1 => by have := stuK_len l k; unfold stuK; split <;> simp <;> omega
abbrev rowsA (xs : List (List Int)) : List AV := xs.map slA
theorem lowRw {n : Nat} (xs : List (List Int)) : lowL n (rowsA xs) = true := lowL_map (f := slA) (fun x => (lowI x : lowL n (ints x) = true)) xs
def bundlesA (l : Ld) : AV := if checkR l = 0 then .tup [.sl (bunK l l.sacks.length).isEmpty (rowsA (bunK l l.sacks.length)), .int .i64 0] else .tup [.sl true [], .int .i64 (checkR l)]
def stuckA (l : Ld) : AV := if checkR l = 0 then .tup [slA (stuK l l.sacks.length), .int .i64 0] else .tup [.sl true [], .int .i64 (checkR l)]
theorem isF_eq {s k : Nat} (hs : s < 512) (hk : k ≤ 9) : (iand .i64 (s : Int) (0 - (s : Int)) == ((2 ^ k : Nat) : Int)) = (lowb s == 2 ^ k) := by
  rw [low_int hs]
  rw [Bool.eq_iff_iff, beq_iff_eq, beq_iff_eq]
  omega
theorem bundles_c (l : Ld) (o : LdW l) : Comp Try.prog 46 [ldA l] (bundlesA l) := by
  refine Comp.body (T := tab) (res := [.tmp 2, .tmp 3]) tab_ok [] Try.func46 rfl (by kernel_rfl) Try.ntmps46 rfl (by simp only [List.length_cons, List.length_nil]; decide) (by simp only [lowL, AV.low, ldL]; rfl) ?_; conv => whnf
  refine XCall.ret (opened_c l o.w o.h1 o.h2 o.h3) ?_
  unfold openR bundlesA
  by_cases h0 : checkR l = 0
  · have ok := (checkR_ok l).1 h0
    have hn := ok.n
    have dok := openD_full ok
    have e1 : ((l.sacks.map skA).length : Int) = l.sacks.length := by rw [List.length_map]
    have hhv := dok.hv
    have hnd := dok.nd
    have hdn : ∀ k, (openD l).nd.getD k 0 = ndS l k := fun _ => rfl
    have hrd := fun k => right_c (openD l) dok (ndS l k) (by have := ndS_lt ok k; have := pow9 hn; omega)
    rw [if_pos h0, if_pos h0]
    have hnxt : ∀ k, bunK l (k + 1) = if isF l k = true then bunK l k ++ [bits (ndS l k)] else bunK l k := fun _ => rfl
    generalize openD l = d at dok hhv hnd hdn hrd hnxt
    conv => whnf
    repeat' first | ((with_reducible apply XBr.bne) <;> (intro h; first | (exfalso; omega) | (conv => whnf)))
    refine Walk.nilgr 6 30 rfl ?_
    refine Walk.loop tab_ok [] (fun k : Nat => k ≤ l.sacks.length) (fun k => [(2, .sl true []), (3, .int .i64 0), (4, .pim (deskC d)), (19, natA l.sacks.length), (6, .gr 0 (bunK l k).length), (20, natA k)]) (fun k => [.grow 30 (bunK l k).isEmpty (rowsA (bunK l k))]) (fun k => l.sacks.length - k) 0 (Nat.zero_le _) rfl ⟨rfl, rfl, rfl, congrArg (fun n => some (AV.int .i64 n)) e1, rfl, rfl, trivial⟩ ?_
    intro k hk
    have hl := bunK_len l k
    have hnx := hnxt k
    have hall : k = l.sacks.length → bunK l k = bunK l l.sacks.length := fun h => by rw [h]
    generalize bunK l k = bk at hl hnx hall
    have hk9 := pow9 (n := k) (by omega)
    have hsl := ndS_lt ok k
    have hs9 := pow9 hn
    have hF := isF_eq (s := ndS l k) (k := k) (by omega) (by omega)
    have hli := list_c (ndS l k) (by omega)
    have hrt := hrd k
    rw [show (lowb (ndS l k) == 2 ^ k) = isF l k from rfl] at hF
    rw [← hdn] at hF hli hsl hrt hnx
    conv => whnf
    repeat' first | ((with_reducible apply XBr.dec) <;> (intro h; first | (exfalso; omega) | ((try simp only [List.length_map] at h); first | (exfalso; omega) | (conv => whnf)))) | ((with_reducible apply XBr.beq) <;> (intro h; first | (exfalso; omega) | (conv => whnf))) | ((with_reducible refine XInt.i64 (by omega) (by omega) ?_); conv => whnf) | ((with_reducible refine XHold.mk ?_ ?_); (first | omega | rfl | decide | exact ⟨rfl, by decide, rfl⟩ | exact wideI _ | exact widePr _ | exact wideSk _ | (unfold Room; constructor <;> ((try simp) <;> omega)) | exact ⟨rfl, by simp only [List.length_map], by unfold Room; constructor <;> ((try simp) <;> omega)⟩ | exact ⟨by omega, by omega, by unfold Room; constructor <;> ((try simp) <;> omega)⟩); conv => whnf) | ((first | (with_reducible refine XDrop.desk (by assumption) ?_) | ((with_reducible refine XArr.nats ?_ ?_ ?_); omega; omega) | (refine XInt.eq (shl_nat (by omega)) (by omega) (by omega) ?_) | (refine XCall.ret hli ?_)); conv => whnf)
    · have hT : isF l k = true := by rw [← hF, beq_iff_eq]; exact h
      refine XAgain.go (k + 1) (by omega) (by omega) ?_ ⟨rfl, rfl, rfl, rfl, ?_, rfl, trivial⟩
      · rw [hnx, if_pos hT]; simp only [List.map_append, isEmpty_app]; rfl
      · rw [hnx, if_pos hT]; simp only [List.length_append]; rfl
    · have hT : ¬ isF l k = true := by rw [← hF, beq_iff_eq]; exact h
      refine XAgain.go (k + 1) (by omega) (by omega) ?_ ⟨rfl, rfl, rfl, rfl, ?_, rfl, trivial⟩
      · rw [hnx, if_neg hT]
      · rw [hnx, if_neg hT]; rfl
    · rw [← hall (by omega)]
      exact ⟨Froz.tup (.cons (Froz.grow rfl (by rw [List.length_map]) (lowRw _)) (.cons (Froz.low rfl) .nil))⟩
  · rw [if_neg h0, if_neg h0]
    conv => whnf
    repeat' first | ((with_reducible apply XBr.bne) <;> (intro h; first | (exfalso; omega) | (conv => whnf)))
    exact ⟨Froz.low rfl⟩
theorem stuck_c (l : Ld) (o : LdW l) : Comp Try.prog 47 [ldA l] (stuckA l) := by
  refine Comp.body (T := tab) (res := [.tmp 2, .tmp 3]) tab_ok [] Try.func47 rfl (by kernel_rfl) Try.ntmps47 rfl (by simp only [List.length_cons, List.length_nil]; decide) (by simp only [lowL, AV.low, ldL]; rfl) ?_; conv => whnf
  refine XCall.ret (opened_c l o.w o.h1 o.h2 o.h3) ?_
  unfold openR stuckA
  by_cases h0 : checkR l = 0
  · have ok := (checkR_ok l).1 h0
    have hn := ok.n
    have dok := openD_full ok
    have e1 : ((l.sacks.map skA).length : Int) = l.sacks.length := by rw [List.length_map]
    have hhv := dok.hv
    have hnd := dok.nd
    have hdn : ∀ k, (openD l).nd.getD k 0 = ndS l k := fun _ => rfl
    have hrd := fun k => right_c (openD l) dok (ndS l k) (by have := ndS_lt ok k; have := pow9 hn; omega)
    rw [if_pos h0, if_pos h0]
    have hnxt : ∀ k, stuK l (k + 1) = if (isF l k && !rightB (openD l) (ndS l k)) = true then stuK l k ++ [(k : Int)] else stuK l k := fun _ => rfl
    generalize openD l = d at dok hhv hnd hdn hrd hnxt
    conv => whnf
    repeat' first | ((with_reducible apply XBr.bne) <;> (intro h; first | (exfalso; omega) | (conv => whnf)))
    refine Walk.nilgr 6 3 rfl ?_
    refine Walk.loop tab_ok [] (fun k : Nat => k ≤ l.sacks.length) (fun k => [(2, .sl true []), (3, .int .i64 0), (4, .pim (deskC d)), (19, natA l.sacks.length), (6, .gr 0 (stuK l k).length), (20, natA k)]) (fun k => [.grow 3 (stuK l k).isEmpty (ints (stuK l k))]) (fun k => l.sacks.length - k) 0 (Nat.zero_le _) rfl ⟨rfl, rfl, rfl, congrArg (fun n => some (AV.int .i64 n)) e1, rfl, rfl, trivial⟩ ?_
    intro k hk
    have hl := stuK_len l k
    have hnx := hnxt k
    have hall : k = l.sacks.length → stuK l k = stuK l l.sacks.length := fun h => by rw [h]
    generalize stuK l k = bk at hl hnx hall
    have hk9 := pow9 (n := k) (by omega)
    have hsl := ndS_lt ok k
    have hs9 := pow9 hn
    have hF := isF_eq (s := ndS l k) (k := k) (by omega) (by omega)
    have hli := list_c (ndS l k) (by omega)
    have hrt := hrd k
    rw [show (lowb (ndS l k) == 2 ^ k) = isF l k from rfl] at hF
    rw [← hdn] at hF hli hsl hrt hnx
    conv => whnf
    repeat' first | ((first | (with_reducible apply XBr.tt) | (with_reducible apply XBr.ff)); conv => whnf) | (with_reducible apply XBr.not) | ((with_reducible apply XBr.dec) <;> (intro h; first | (exfalso; omega) | ((try simp only [List.length_map] at h); first | (exfalso; omega) | (conv => whnf)))) | ((with_reducible apply XBr.beq) <;> (intro h; first | (exfalso; omega) | (conv => whnf))) | ((with_reducible refine XInt.i64 (by omega) (by omega) ?_); conv => whnf) | ((with_reducible refine XHold.mk ?_ ?_); (first | omega | rfl | decide | exact ⟨rfl, by decide, rfl⟩ | exact wideI _ | exact widePr _ | exact wideSk _ | (unfold Room; constructor <;> ((try simp) <;> omega)) | exact ⟨rfl, by simp only [List.length_map], by unfold Room; constructor <;> ((try simp) <;> omega)⟩ | exact ⟨by omega, by omega, by unfold Room; constructor <;> ((try simp) <;> omega)⟩); conv => whnf) | ((first | (with_reducible refine XDrop.desk (by assumption) ?_) | ((with_reducible refine XArr.nats ?_ ?_ ?_); omega; omega) | (refine XInt.eq (shl_nat (by omega)) (by omega) (by omega) ?_) | (refine XCall.ret hrt ?_)); conv => whnf) | ((with_reducible apply XBr.mk') <;> (intro h; conv => whnf))
    · have hT : ¬ (isF l k && !rightB d (d.nd.getD k 0)) = true := by rw [h]; simp
      refine XAgain.go (k + 1) (by omega) (by omega) ?_ ⟨rfl, rfl, rfl, rfl, ?_, rfl, trivial⟩
      · rw [hnx, if_neg hT]
      · rw [hnx, if_neg hT]; rfl
    · have hT : (isF l k && !rightB d (d.nd.getD k 0)) = true := by rename_i hx; rw [h, ← hF, hx]; simp
      refine XAgain.go (k + 1) (by omega) (by omega) ?_ ⟨rfl, rfl, rfl, rfl, ?_, rfl, trivial⟩
      · rw [hnx, if_pos hT]; simp only [List.map_append, isEmpty_app]; rfl
      · rw [hnx, if_pos hT]; simp only [List.length_append]; rfl
    · have hT : ¬ (isF l k && !rightB d (d.nd.getD k 0)) = true := by rw [← hF, beq_eq_false_iff_ne.2 h]; simp
      refine XAgain.go (k + 1) (by omega) (by omega) ?_ ⟨rfl, rfl, rfl, rfl, ?_, rfl, trivial⟩
      · rw [hnx, if_neg hT]
      · rw [hnx, if_neg hT]; rfl
    · rw [← hall (by omega)]
      exact ⟨Froz.tup (.cons (by unfold slA; exact Froz.grow rfl (by rw [List.length_map]) (lowI _)) (.cons (Froz.low rfl) .nil))⟩
  · rw [if_neg h0, if_neg h0]
    conv => whnf
    repeat' first | ((with_reducible apply XBr.bne) <;> (intro h; first | (exfalso; omega) | (conv => whnf)))
    exact ⟨Froz.low rfl⟩
end GA
end

section
namespace GA
open Go Go.RowKit Go.Proofs
set_option pp.deepTerms true
set_option maxRecDepth 8000
set_option linter.unusedVariables false
set_option linter.unusedSimpArgs false

theorem drop_next {α : Type} [Inhabited α] {xs : List α} {k : Nat} (h : k < xs.length) : xs.drop k = xs.getD k default :: xs.drop (k + 1) := by
  rw [List.drop_eq_getElem_cons h, List.getD_eq_getElem?_getD, List.getElem?_eq_getElem h]; rfl
def cartE (n : Nat) : Nat → List Int → Int × Nat
  | s, [] => (0, s)
  | s, i :: t => if i < 0 ∨ (n : Int) ≤ i then (1, s) else if s.testBit i.toNat = true then (5, s) else cartE n (s ||| 2 ^ i.toNat) t
theorem cartE_next {n s : Nat} {xs : List Int} {k : Nat} (h : k < xs.length) : cartE n s (xs.drop k) = if xs.getD k default < 0 ∨ (n : Int) ≤ xs.getD k default then (1, s) else if s.testBit (xs.getD k default).toNat = true then (5, s) else cartE n (s ||| 2 ^ (xs.getD k default).toNat) (xs.drop (k + 1)) := by
  rw [drop_next h]; rfl
theorem cartE_end {n s : Nat} {xs : List Int} {k : Nat} (h : k = xs.length) : cartE n s (xs.drop k) = (0, s) := by
  rw [h, List.drop_length]; rfl
theorem or_lt {n s i : Nat} (hs : s < 2 ^ n) (hi : i < n) : s ||| 2 ^ i < 2 ^ n := Nat.or_lt_two_pow hs (Nat.pow_lt_pow_right (by omega) hi)
def rightE (l : Ld) (cart : List Int) : Int := if checkR l ≠ 0 then checkR l else (cartE l.sacks.length 0 cart).1
def rightA (l : Ld) (cart : List Int) : Bool := decide (rightE l cart = 0) && rightB (openD l) (cartE l.sacks.length 0 cart).2
theorem rightX_c (l : Ld) (nl : Bool) (xs : List Int) (o : LdW l) (hx : xs.length ≤ 100000) : Comp Try.prog 41 [ldA l, .sl nl (ints xs)] (.tup [.bool (rightA l xs), .int .i64 (rightE l xs)]) := by
  have ho := opened_c l o.w o.h1 o.h2 o.h3
  have hsc := fun i => sack_c l i o.h1
  unfold openR at ho
  refine Comp.body (T := tab) (res := [.tmp 4, .tmp 5]) tab_ok [] Try.func41 rfl (by kernel_rfl) Try.ntmps41 rfl (by simp only [List.length_cons, List.length_nil]; decide) (by simp only [lowL, AV.low, ldL, lowI]; rfl) ?_; conv => whnf
  by_cases h0 : checkR l = 0
  · have ok := (checkR_ok l).1 h0
    have hn := ok.n
    have hp9 := pow9 hn
    rw [if_pos h0] at ho
    have hE : rightE l xs = (cartE l.sacks.length 0 xs).1 := by unfold rightE; rw [if_neg (by omega)]
    have hA : rightA l xs = (decide ((cartE l.sacks.length 0 xs).1 = 0) && rightB (openD l) (cartE l.sacks.length 0 xs).2) := by unfold rightA; rw [hE]
    rw [hE, hA]
    repeat' first | ((with_reducible apply XBr.bne) <;> (intro h; first | (exfalso; omega) | (conv => whnf))) | ((refine XCall.ret ho ?_); conv => whnf)
    refine Walk.loop tab_ok [] (fun p : Nat × Nat => p.1 ≤ xs.length ∧ p.2 < 2 ^ l.sacks.length ∧ cartE l.sacks.length 0 xs = cartE l.sacks.length p.2 (xs.drop p.1))
      (fun p => [(6, .pim (deskC (openD l))), (9, .bf 98 [ldA l]), (22, .sl nl (ints xs)), (23, natA xs.length), (8, natA p.2), (24, natA p.1)]) (fun _ => []) (fun p => xs.length - p.1) (0, 0) ⟨Nat.zero_le _, hp9.2, rfl⟩ rfl ⟨rfl, rfl, rfl, congrArg (fun n => some (AV.int .i64 n)) (by rw [List.length_map]), rfl, rfl, trivial⟩ ?_
    rintro ⟨k, s⟩ ⟨hk, hs, he⟩
    dsimp only at hk hs he
    have hne := cartE_next (n := l.sacks.length) (s := s) (xs := xs) (k := k)
    have hen := cartE_end (n := l.sacks.length) (s := s) (xs := xs) (k := k)
    have hrt := right_c (openD l) (openD_full ok) s (by omega)
    generalize openD l = d at hrt
    conv => whnf
    repeat' first | (with_reducible apply XBr.not) | ((with_reducible apply XBr.dec) <;> (intro h; first | (exfalso; omega) | ((try simp only [List.length_map] at h); first | (exfalso; omega) | (conv => whnf)))) | ((first | ((with_reducible refine XIx.nat ?_ ?_ ?_); omega; (intro _; rfl)) | (refine XCall.ret (hsc _) ?_)); conv => whnf) | ((with_reducible apply XBr.mk') <;> (intro h; conv => whnf))
    · generalize hv : xs.getD (k, s).1 default = v at h
      dsimp only at hv
      rw [hv] at hne
      have hin : 0 ≤ v ∧ v < l.sacks.length := by unfold inB at h; simp at h; omega
      obtain ⟨i, rfl⟩ := Int.eq_ofNat_of_zero_le hin.1
      have hb := bit_at (set := s) (p := (i : Int)) hin.1 (by omega) (by omega)
      have htb : s.testBit i = decide (s / 2 ^ i % 2 = 1) := Nat.testBit_eq_decide_div_mod_eq
      have p8 : 2 ^ i ≤ 256 := Nat.pow_le_pow_right (n := 2) (by omega) (show i ≤ 8 by omega)
      have p0 : 0 < 2 ^ i := Nat.two_pow_pos i
      have hor : ior .i64 (s : Int) ((2 ^ i : Nat) : Int) = ((s ||| 2 ^ i : Nat) : Int) := ior_nat (by omega) (by omega)
      rw [Int.toNat_natCast] at hne
      repeat' first | ((with_reducible apply XBr.beq) <;> (intro h; first | (exfalso; omega) | (conv => whnf))) | ((with_reducible refine XHold.mk ?_ ?_); (first | omega | rfl | decide | exact ⟨rfl, by decide, rfl⟩ | exact wideI _ | exact widePr _ | exact wideSk _ | (unfold Room; constructor <;> ((try simp) <;> omega)) | exact ⟨rfl, by simp only [List.length_map], by unfold Room; constructor <;> ((try simp) <;> omega)⟩ | exact ⟨by omega, by omega, by unfold Room; constructor <;> ((try simp) <;> omega)⟩); conv => whnf)
      · have hbit : iand .i64 ((s : Int).fdiv (2 ^ min (i : Int).toNat IntKind.i64.bits)) 1 = 1 := h
        rw [hb, Int.toNat_natCast] at hbit
        rw [hne (by omega), if_neg (by omega), if_pos (by rw [htb, decide_eq_true_eq]; omega)] at he
        rw [he]
        exact ⟨Froz.low rfl⟩
      · have hbit : ¬ iand .i64 ((s : Int).fdiv (2 ^ min (i : Int).toNat IntKind.i64.bits)) 1 = 1 := h
        rw [hb, Int.toNat_natCast] at hbit
        refine XInt.eq (y := ((2 ^ i : Nat) : Int)) (shl_nat (by omega)) (by omega) (by omega) ?_
        conv => whnf
        repeat' first | ((with_reducible refine XInt.i64 (by omega) (by omega) ?_); conv => whnf)
        rw [hne (by omega), if_neg (by omega), if_neg (by rw [htb, decide_eq_true_eq]; omega)] at he
        refine XAgain.go (k + 1, s ||| 2 ^ i) ⟨by dsimp only; omega, or_lt hs (by omega), he⟩ (by dsimp only; omega) rfl ⟨rfl, rfl, rfl, rfl, ?_, rfl, trivial⟩
        show some (AV.int .i64 (ior .i64 (s : Int) ((2 ^ i : Nat) : Int))) = some (natA (s ||| 2 ^ i))
        rw [hor]; rfl
    · have hin : ¬ (0 ≤ xs.getD k default ∧ xs.getD k default < l.sacks.length) := by
        have h' : inB (xs.getD k default) 0 ((l.sacks.length : Int) - 1) = false := h
        generalize xs.getD k default = v at h'
        unfold inB at h'; simp at h'; omega
      rw [hne (by omega), if_pos (by omega)] at he
      rw [he]
      exact ⟨Froz.low rfl⟩
    · rw [hen (by omega)] at he
      rw [he]
      repeat' first | ((refine XCall.ret hrt ?_); conv => whnf)
      exact ⟨Froz.low rfl⟩
  · have hE : rightE l xs = checkR l := by unfold rightE; rw [if_pos h0]
    have hA : rightA l xs = false := by unfold rightA; rw [hE, decide_eq_false h0]; rfl
    rw [if_neg h0] at ho
    rw [hE, hA]
    generalize checkR l = e at h0 ho
    repeat' first | ((with_reducible apply XBr.bne) <;> (intro h; first | (exfalso; omega) | (conv => whnf))) | ((refine XCall.ret ho ?_); conv => whnf)
    exact ⟨Froz.low rfl⟩
end GA
end

section
namespace GA
open Go Go.RowKit Go.Proofs
set_option pp.deepTerms true
set_option maxRecDepth 8000
set_option linter.unusedVariables false
set_option linter.unusedSimpArgs false

theorem isNaN_c (a : Int) : Comp Try.prog 149 [.int .i64 a] (.bool false) := by
  refine Comp.body (T := tab) (res := [.tmp 2]) tab_ok [] Try.func149 rfl (by kernel_rfl) Try.ntmps149 rfl (by simp only [List.length_cons, List.length_nil]; decide) (by rfl) ?_; conv => whnf
  exact XOut.bool (by simp)
theorem cmpLess_c (a b : Int) : Comp Try.prog 125 [.int .i64 a, .int .i64 b] (.bool (decide (a < b))) := by
  refine Comp.body (T := tab) (res := [.tmp 4]) tab_ok [] Try.func125 rfl (by kernel_rfl) Try.ntmps125 rfl (by simp only [List.length_cons, List.length_nil]; decide) (by rfl) ?_; conv => whnf
  repeat' first | ((first | (with_reducible apply XBr.ff) | (refine XCall.ret (isNaN_c _) ?_)); conv => whnf) | fail
  all_goals exact XOut.bool rfl
end GA
end

section
namespace GA
open Go Go.RowKit Go.Proofs
set_option pp.deepTerms true
set_option maxRecDepth 8000
set_option linter.unusedVariables false
set_option linter.unusedSimpArgs false

theorem idx_int (nl : Bool) (xs : List Int) (v : Int) (hx : xs.length ≤ 100000) : Comp Try.prog 128 [.sl nl (ints xs), .int .i64 v] (.int .i64 (idxR (fun x => v == x) xs)) := by
  have e1 : ((ints xs).length : Int) = xs.length := by rw [List.length_map]
  refine Comp.body (T := tab) (res := [.tmp 4]) tab_ok [] Try.func128 rfl (by kernel_rfl) Try.ntmps128 rfl (by simp only [List.length_cons, List.length_nil]; decide) (by simp only [lowL, AV.low, lowI]; rfl) ?_; conv => whnf
  skip
  refine Walk.loop tab_ok [] (fun k : Nat => k ≤ xs.length ∧ ∀ j, j < k → (v == xs.getD j default) = false) (fun k => [(0, .sl nl (ints xs)), (1, .int .i64 v), (7, .int .i64 (ints xs).length), (8, natA k)]) (fun _ => []) (fun k => xs.length - k) 0 ⟨by omega, by omega⟩ rfl ⟨rfl, rfl, rfl, rfl, trivial⟩ ?_
  rintro k ⟨hk, h3⟩
  conv => whnf
  repeat' first | ((with_reducible apply XBr.dec) <;> (intro h; first | (exfalso; omega) | ((try simp only [List.length_map] at h); first | (exfalso; omega) | (conv => whnf)))) | ((with_reducible apply XBr.beq) <;> (intro h; first | (exfalso; omega) | (conv => whnf))) | ((first | (with_reducible refine XInt.i64 (by omega) (by omega) ?_) | ((with_reducible refine XIx.nat ?_ ?_ ?_); omega; (intro _; rfl))); conv => whnf) | fail
  · refine XOut.int ?_
    simp only [idxR, find_some (p := fun x => v == x) (d := default) (i := k) (by omega) (by rw [← h]; exact beq_self_eq_true v) h3]
  · refine XAgain.go (k + 1) ⟨by omega, fun j hj => ?_⟩ (by omega) rfl ⟨rfl, rfl, rfl, rfl, trivial⟩
    by_cases hji : j = k
    · subst hji; exact beq_eq_false_iff_ne.2 h
    · exact h3 j (by omega)
  · refine XOut.int ?_
    simp only [idxR, find_none (p := fun x => v == x) (d := default) fun j hj => h3 j (by omega)]
theorem contains_c (nl : Bool) (xs : List Int) (v : Int) (hx : xs.length ≤ 100000) : Comp Try.prog 70 [.sl nl (ints xs), .int .i64 v] (.bool (xs.contains v)) := by
  refine Comp.body (T := tab) (res := [.tmp 4]) tab_ok [] Try.func70 rfl (by kernel_rfl) Try.ntmps70 rfl (by simp only [List.length_cons, List.length_nil]; decide) (by simp only [lowL, AV.low, lowI]; rfl) ?_; conv => whnf
  refine XCall.ret (idx_int nl xs v hx) ?_
  conv => whnf
  refine XOut.bool ?_
  rw [Bool.eq_iff_iff, decide_eq_true_eq, idxR_pos, List.any_eq_true, List.contains_iff_mem]
  exact ⟨fun ⟨x, h1, h2⟩ => by rw [eq_of_beq h2]; exact h1, fun h => ⟨v, h, beq_self_eq_true v⟩⟩
theorem sorted_c (nl : Bool) (xs : List Int) (hx : xs.length ≤ 100000) (hs : ∀ j, j + 1 < xs.length → xs.getD j default ≤ xs.getD (j + 1) default) : Comp Try.prog 68 [.sl nl (ints xs)] (.bool true) := by
  have e1 : ((ints xs).length : Int) = xs.length := by rw [List.length_map]
  refine Comp.body (T := tab) (res := [.tmp 2]) tab_ok [] Try.func68 rfl (by kernel_rfl) Try.ntmps68 rfl (by simp only [List.length_cons, List.length_nil]; decide) (by simp only [lowL, AV.low, lowI]; rfl) ?_; conv => whnf
  repeat' first | ((with_reducible refine XInt.i64 (by omega) (by omega) ?_); conv => whnf) | fail
  refine Walk.loop tab_ok [] (fun i : Int => i < xs.length) (fun i => [(0, .sl nl (ints xs)), (3, .int .i64 i)]) (fun _ => []) (fun i => i.toNat) (((ints xs).length : Int) - 1) (by omega) rfl ⟨rfl, rfl, trivial⟩ ?_
  rintro i hi
  have hno : 0 < i → decide (xs.getD i.toNat default < xs.getD (i - 1).toNat default) = false := fun h => by
    have := hs (i - 1).toNat (by omega)
    rw [show (i - 1).toNat + 1 = i.toNat by omega] at this
    exact decide_eq_false (by omega)
  conv => whnf
  repeat' first | ((with_reducible apply XBr.dec) <;> (intro h; first | (exfalso; omega) | ((try simp only [List.length_map] at h); first | (exfalso; omega) | (conv => whnf)))) | fail
  · apply Walk.drawX tab_ok mixed_ok [] [] (hsK _) [_, _, _, _, _, _, _, _, _, .bool false] (by kernel_rfl) rfl
    · skip
      repeat' first | ((first | (with_reducible refine XInt.i64 (by omega) (by omega) ?_) | ((with_reducible refine XIx.map ?_ ?_ ?_ ?_); omega; omega; (intro _; rfl))); conv => whnf) | (with_reducible apply XAnd.mk) | ((first | (with_reducible apply Chk.go) | (with_reducible apply ChkA.go)); conv => whnf) | (exact XSame.mk rfl rfl) | (with_reducible exact trivial) | ((refine XCall.ret (cmpLess_c _ _) ?_); conv => whnf) | ((refine XSame.mk (by rw [hno (by omega)]) rfl)) | fail
    · skip
      repeat' first | (with_reducible apply XAnd.mk) | ((first | (with_reducible apply ChkF.go) | (with_reducible apply ChkB.go)); conv => whnf) | (with_reducible exact trivial) | fail
    conv => whnf
    repeat' first | ((first | (with_reducible apply XBr.ff) | (with_reducible refine XInt.i64 (by omega) (by omega) ?_)); conv => whnf) | fail
    exact XAgain.go (i - 1) (show i - 1 < (xs.length : Int) by omega) (by omega) rfl ⟨rfl, rfl, trivial⟩
  · exact XOut.bool rfl
end GA
end

section
namespace GA
open Go Go.RowKit Go.Proofs
set_option pp.deepTerms true
set_option maxRecDepth 8000
set_option linter.unusedVariables false
set_option linter.unusedSimpArgs false

theorem wshrink {m s s' : Int} (h0 : 0 ≤ m) (h : s ≤ s') : m - m * s' / 100 ≤ m - m * s / 100 := by
  have h1 : m * s ≤ m * s' := Int.mul_le_mul_of_nonneg_left h h0
  have := Int.ediv_le_ediv (show (0 : Int) < 100 by decide) h1
  omega
theorem RightP.bears {l : Ld} {b : Int} (hb : l.bears ≤ b) {c : Nat} (h : RightP l c) : RightP { l with bears := b } c :=
  ⟨by have := h.w; show (sumW (wts l) c : Int) ≤ b; omega, h.wp, h.ap⟩
theorem RightP.shrink {l : Ld} (o : LdOk l) {s : Int} (hs : l.shrink ≤ s) {c : Nat} (h : RightP l c) : RightP { l with shrink := s } c :=
  ⟨by
    have h1 := h.w
    have h2 := sumW_le_of (wts { l with shrink := s }) (wts l) c (by simp [wts]) (fun i => by
      simp only [wts, List.getD_eq_getElem?_getD, List.getElem?_map]
      cases e : l.sacks[i]? with
      | none => simp
      | some x =>
        simp only [Option.map_some, Option.getD_some]
        have hx := o.sk x (List.mem_of_getElem? e)
        unfold wt weightR
        have := wshrink (m := x.m) (by omega) hs
        dsimp only; omega)
    show (sumW (wts { l with shrink := s }) c : Int) ≤ l.bears
    omega, h.wp, h.ap⟩
end GA
end

section
namespace GA
open Go Go.RowKit Go.Proofs
set_option maxRecDepth 8000
set_option linter.unusedVariables false
set_option linter.unusedSimpArgs false

theorem bits_sum (ps : List Int) (h0 : ∀ x ∈ ps, 0 ≤ x) : ∀ (f i s : Nat), s < 2 ^ f → ((bitsF f i s).map fun x => ps.getD x.toNat 0).sum = (sumW ((ps.drop i).map Int.toNat) s : Int)
  | 0, i, s, h => by
    have : s = 0 := by simpa using h
    subst this
    rw [sumW_zero]; rfl
  | f + 1, i, s, h => by
    have ih := bits_sum ps h0 f (i + 1) (s / 2) (by rw [Nat.pow_succ] at h; omega)
    have e : bitsF (f + 1) i s = if s = 0 then [] else if s % 2 = 1 then (i : Int) :: bitsF f (i + 1) (s / 2) else bitsF f (i + 1) (s / 2) := rfl
    rw [e]
    by_cases hs : s = 0
    · subst hs; rw [if_pos rfl, sumW_zero]; rfl
    · rw [if_neg hs]
      by_cases hi : i < ps.length
      · have hd : ps.drop i = ps.getD i 0 :: ps.drop (i + 1) := by
          rw [List.drop_eq_getElem_cons hi, List.getD_eq_getElem?_getD, List.getElem?_eq_getElem hi]; rfl
        have hp : 0 ≤ ps.getD i 0 := h0 _ (getD_mem hi)
        rw [hd, List.map_cons]
        unfold sumW
        by_cases ho : s % 2 = 1
        · rw [if_pos ho, if_pos ho, List.map_cons, List.sum_cons, ih]
          have : (i : Int).toNat = i := rfl
          rw [this]; omega
        · rw [if_neg ho, if_neg ho, ih]; omega
      · have hd : ps.drop i = [] := List.drop_eq_nil_of_le (by omega)
        have hd2 : ps.drop (i + 1) = [] := List.drop_eq_nil_of_le (by omega)
        have hg : ps.getD i 0 = 0 := by rw [List.getD_eq_getElem?_getD, List.getElem?_eq_none (by omega)]; rfl
        rw [hd2] at ih
        have z : ∀ k, sumW (([] : List Int).map Int.toNat) k = 0 := fun k => rfl
        rw [z] at ih
        rw [hd, z]
        by_cases ho : s % 2 = 1
        · rw [if_pos ho, List.map_cons, List.sum_cons, ih]
          have : (i : Int).toNat = i := rfl
          rw [this, hg]; rfl
        · rw [if_neg ho, ih]
end GA
end

section
namespace GA
open Go Go.RowKit Go.Proofs
set_option maxRecDepth 8000
set_option linter.unusedVariables false
set_option linter.unusedSimpArgs false

def wsum (l : Ld) (is : List Int) : Int := (is.map fun i => (l.sacks.map (weightR l)).getD i.toNat 0).sum
theorem wsum_bits {l : Ld} (o : LdOk l) {s : Nat} (hs : s < 2 ^ l.sacks.length) : wsum l (bits s) = (sumW (wts l) s : Int) := by
  have hp := pow9 o.n
  have h0 : ∀ x ∈ l.sacks.map (weightR l), 0 ≤ x := fun x hx => by
    obtain ⟨k, hk, rfl⟩ := List.mem_map.1 hx
    have := wt_le o hk; omega
  have := bits_sum (l.sacks.map (weightR l)) h0 62 0 s (by omega)
  rw [List.drop_zero, List.map_map] at this
  exact this
end GA
end

section
namespace GA
open Go Go.RowKit Go.Proofs
set_option pp.deepTerms true
set_option maxRecDepth 8000
set_option linter.unusedVariables false
set_option linter.unusedSimpArgs false

theorem lawWeight_c (l : Ld) (o : LdOk l) (i : Nat) (hi : i < l.sacks.length) : Comp Try.prog 75 [ldA l, natA i] (.int .i64 (weightR l (l.sacks.getD i default))) := by
  have hs := o.sk _ (getD_mem (d := default) hi)
  have h2 := o.s1
  have h3 := o.s2
  have e1 : 0 ≤ (l.sacks.getD i default).m * l.shrink := Int.mul_nonneg (by omega) h2
  have e2 : (l.sacks.getD i default).m * l.shrink ≤ 100 * 100 := Int.mul_le_mul hs.2.1 (by omega) h2 (by omega)
  have e3 : ((l.sacks.getD i default).m * l.shrink).tdiv 100 = ((l.sacks.getD i default).m * l.shrink) / 100 := Int.tdiv_eq_ediv_of_nonneg e1
  refine Comp.body (T := tab) (res := [.tmp 4]) tab_ok [] Try.func75 rfl (by kernel_rfl) Try.ntmps75 rfl (by simp only [List.length_cons, List.length_nil]; decide) (by simp only [lowL, AV.low, ldL]; rfl) ?_; conv => whnf
  apply Walk.drawX tab_ok mixed_ok [] [] (hsK _) [_, _, _, _, _, _, _, _, _, _, _, _, _, _, _, _, .int .i64 (weightR l (l.sacks.getD i default)), _] (by kernel_rfl) rfl
  · skip
    repeat' first | ((with_reducible refine XInt.i64 (by omega) (by omega) ?_); conv => whnf) | ((with_reducible refine XHold.mk ?_ ?_); (first | omega | rfl | decide | exact ⟨rfl, by decide, rfl⟩ | exact wideI _ | exact widePr _ | exact wideSk _ | (unfold Room; constructor <;> ((try simp) <;> omega)) | exact ⟨rfl, by simp only [List.length_map], by unfold Room; constructor <;> ((try simp) <;> omega)⟩ | exact ⟨by omega, by omega, by unfold Room; constructor <;> ((try simp) <;> omega)⟩); conv => whnf) | (((with_reducible refine XIx.nat ?_ ?_ ?_); omega; (intro _; rfl)); conv => whnf) | (with_reducible apply XAnd.mk) | ((first | (with_reducible apply Chk.go) | (with_reducible apply ChkA.go)); conv => whnf) | (exact XSame.mk rfl rfl) | (with_reducible exact trivial) | ((refine XSame.mk ?_ rfl); (rw [e3]; rfl)) | fail
  · skip
    repeat' first | (with_reducible apply XAnd.mk) | ((first | (with_reducible apply ChkF.go) | (with_reducible apply ChkB.go)); conv => whnf) | (with_reducible exact trivial) | fail
  conv => whnf
  skip
  all_goals exact XOut.int rfl
theorem lawR1_c (nl : Bool) (bs : List Bool) (p : Int × Int) (h1 : 0 ≤ p.1) (h2 : p.1 < bs.length) (h3 : 0 ≤ p.2) (h4 : p.2 < bs.length) :
    Comp Try.prog 126 [prA p, .pim [.sl nl (bools bs)]] (.bool (bs.getD p.1.toNat default != bs.getD p.2.toNat default)) := by
  refine Comp.body (T := tab) (res := [.tmp 3]) tab_ok [] Try.func126 rfl (by kernel_rfl) Try.ntmps126 rfl (by simp only [List.length_cons, List.length_nil]; decide) (by simp only [lowL, AV.low, prL, lowBo]; rfl) ?_; conv => whnf
  apply Walk.drawX tab_ok mixed_ok [] [] (hsK _) [_, _, _, _, _, _, _, _, _, _, .bool (bs.getD p.1.toNat default != bs.getD p.2.toNat default), _] (by kernel_rfl) rfl
  · skip
    repeat' first | (((with_reducible refine XIx.map ?_ ?_ ?_ ?_); omega; omega; (intro _; rfl)); conv => whnf) | (with_reducible apply XAnd.mk) | ((first | (with_reducible apply Chk.go) | (with_reducible apply ChkA.go)); conv => whnf) | (exact XSame.mk rfl rfl) | (with_reducible exact trivial) | ((first | (with_reducible apply XArr.pim0) | (with_reducible apply XArr.pim1)); conv => whnf) | fail
  · skip
    repeat' first | (with_reducible apply XAnd.mk) | ((first | (with_reducible apply ChkF.go) | (with_reducible apply ChkB.go)); conv => whnf) | (with_reducible exact trivial) | fail
  conv => whnf
  skip
  all_goals exact XOut.bool rfl
theorem lawR2_c (nl : Bool) (bs : List Bool) (p : Int × Int) (h1 : 0 ≤ p.1) (h2 : p.1 < bs.length) (h3 : 0 ≤ p.2) (h4 : p.2 < bs.length) :
    Comp Try.prog 127 [prA p, .pim [.sl nl (bools bs)]] (.bool (bs.getD p.1.toNat default && bs.getD p.2.toNat default)) := by
  refine Comp.body (T := tab) (res := [.tmp 3]) tab_ok [] Try.func127 rfl (by kernel_rfl) Try.ntmps127 rfl (by simp only [List.length_cons, List.length_nil]; decide) (by simp only [lowL, AV.low, prL, lowBo]; rfl) ?_; conv => whnf
  repeat' first | ((first | (with_reducible apply XBr.tt) | (with_reducible apply XBr.ff) | ((with_reducible refine XIx.map ?_ ?_ ?_ ?_); omega; omega; (intro _; rfl)) | (with_reducible apply XArr.pim0) | (with_reducible apply XArr.pim1)); conv => whnf) | ((with_reducible apply XBr.mk') <;> (intro h; conv => whnf)) | fail
  all_goals exact XOut.bool (by rw [h]; rfl)
def lawRightB (l : Ld) (bs : List Bool) : Bool := decide (wsum l (lsN bs) ≤ l.bears) && !(l.wth.any fun p => bs.getD p.1.toNat default != bs.getD p.2.toNat default) && !(l.apart.any fun p => bs.getD p.1.toNat default && bs.getD p.2.toNat default)
theorem wsum_next (l : Ld) (bs : List Bool) (k : Nat) (hk : k < l.sacks.length) : wsum l (lsK bs (k + 1)) = if bs.getD k false = true then wsum l (lsK bs k) + weightR l (l.sacks.getD k default) else wsum l (lsK bs k) := by
  rw [lsK_next]
  split
  · unfold wsum
    rw [List.map_append, List.sum_append]
    congr 1
    simp [hk]
  · rfl
theorem wsum_bound {l : Ld} (o : LdOk l) (bs : List Bool) : ∀ k, k ≤ l.sacks.length → 0 ≤ wsum l (lsK bs k) ∧ wsum l (lsK bs k) ≤ 100 * k
  | 0, _ => by simp [lsK, wsum]
  | k + 1, hk => by
    have ih := wsum_bound o bs k (by omega)
    have hw := wt_le o (getD_mem (d := default) (show k < l.sacks.length by omega))
    rw [wsum_next l bs k (by omega)]
    split <;> omega
theorem lawRight_c (l : Ld) (o : LdOk l) (nl : Bool) (bs : List Bool) (hb : bs.length = l.sacks.length) : Comp Try.prog 69 [ldA l, .sl nl (bools bs)] (.bool (lawRightB l bs)) := by
  have hn := o.n
  have hnw := o.nw
  have hna := o.na
  have e1 : ((bools bs).length : Int) = l.sacks.length := by rw [List.length_map, hb]
  have hc1 := contf_pr l.nlw l.wth 126 [.pim [.sl nl (bools bs)]] _ (by simp only [lowL, AV.low, lowBo]; rfl) (by omega) fun p hp => lawR1_c nl bs p (o.wp p hp).1 (by have := o.wp p hp; omega) (o.wp p hp).2.2.1 (by have := o.wp p hp; omega)
  have hc2 := contf_pr l.nla l.apart 127 [.pim [.sl nl (bools bs)]] _ (by simp only [lowL, AV.low, lowBo]; rfl) (by omega) fun p hp => lawR2_c nl bs p (o.ap p hp).1 (by have := o.ap p hp; omega) (o.ap p hp).2.2.1 (by have := o.ap p hp; omega)
  have hlaw : lawRightB l bs = (decide (wsum l (lsK bs l.sacks.length) ≤ l.bears) && !(l.wth.any fun p => bs.getD p.1.toNat default != bs.getD p.2.toNat default) && !(l.apart.any fun p => bs.getD p.1.toNat default && bs.getD p.2.toNat default)) := by unfold lawRightB lsN; rw [hb]
  rw [hlaw]
  generalize (l.wth.any fun p => bs.getD p.1.toNat default != bs.getD p.2.toNat default) = A at hc1
  generalize (l.apart.any fun p => bs.getD p.1.toNat default && bs.getD p.2.toNat default) = B at hc2
  refine Comp.body (T := tab) (res := [.tmp 4]) tab_ok [] Try.func69 rfl (by kernel_rfl) Try.ntmps69 rfl (by simp only [List.length_cons, List.length_nil]; decide) (by simp only [lowL, AV.low, ldL, lowBo]; rfl) ?_; conv => whnf
  skip
  refine Walk.loop tab_ok [] (fun k : Nat => k ≤ l.sacks.length) (fun k => [(2, .pim (ldC l)), (3, .pim [.sl nl (bools bs)]), (4, .bool false), (8, .sl nl (bools bs)), (9, .int .i64 l.sacks.length), (5, .int .i64 (wsum l (lsK bs k))), (10, natA k)]) (fun _ => []) (fun k => l.sacks.length - k) 0 (by omega) rfl ⟨rfl, rfl, rfl, rfl, ?_, rfl, rfl, trivial⟩ ?_
  · exact congrArg (fun n => some (AV.int .i64 n)) e1
  intro k hk
  have wn := wsum_next l bs k
  have wb := wsum_bound o bs k hk
  have hfin : k = l.sacks.length → wsum l (lsK bs l.sacks.length) = wsum l (lsK bs k) := fun h => by rw [h]
  generalize wsum l (lsK bs k) = sm at wn wb hfin
  have hw := fun h => lawWeight_c l o k h
  have hwt := fun (h : k < l.sacks.length) => wt_le o (getD_mem (d := default) h)
  conv => whnf
  repeat' first | ((first | (with_reducible apply XBr.tt) | (with_reducible apply XBr.ff)); conv => whnf) | ((with_reducible apply XBr.dec) <;> (intro h; first | (exfalso; omega) | ((try simp only [List.length_map] at h); first | (exfalso; omega) | (conv => whnf)))) | ((first | (with_reducible refine XInt.i64 (by omega) (by omega) ?_) | ((with_reducible refine XIx.nat ?_ ?_ ?_); omega; (intro _; rfl)) | (refine XCall.ret (hw (by omega)) ?_)); conv => whnf) | ((with_reducible apply XBr.mk') <;> (intro h; conv => whnf)) | fail
  · refine XAgain.go (k + 1) (by omega) (by omega) rfl ⟨rfl, rfl, rfl, rfl, rfl, ?_, rfl, trivial⟩
    show some (AV.int .i64 (sm + weightR l (l.sacks.getD k default))) = some (AV.int .i64 (wsum l (lsK bs (k + 1))))
    rw [wn (by omega), if_pos (show bs.getD k false = true from h)]
  · refine XAgain.go (k + 1) (by omega) (by omega) rfl ⟨rfl, rfl, rfl, rfl, rfl, ?_, rfl, trivial⟩
    show some (AV.int .i64 sm) = some (AV.int .i64 (wsum l (lsK bs (k + 1))))
    rw [wn (by omega), if_neg (by rw [show bs.getD k false = false from h]; simp)]
  · refine XCall.ret hc1 ?_
    conv => whnf
    have hf := hfin (by omega)
    have hd : decide (sm ≤ l.bears) = true := decide_eq_true h
    repeat' first | ((first | (with_reducible apply XBr.tt) | (with_reducible apply XBr.ff)); conv => whnf) | (with_reducible apply XBr.not) | ((refine XCall.ret hc2 ?_); conv => whnf) | ((with_reducible apply XBr.mk') <;> (intro h; conv => whnf)) | fail
    all_goals exact XOut.bool (by rw [hf, hd]; simp [*])
  · have hf := hfin (by omega)
    exact XOut.bool (by rw [hf, decide_eq_false h]; rfl)
theorem lawRight_eq {l : Ld} (o : LdOk l) {bs : List Bool} (hb : bs.length = l.sacks.length) : lawRightB l bs = rightB (openD l) (setN bs) := by
  have hlt : setN bs < 2 ^ l.sacks.length := by rw [← hb]; exact setN_lt bs
  have hbs : bs = boolN l.sacks.length (setN bs) := bool_ext hb fun k _ => (setN_bit bs k).symm
  have hls : lsN bs = bits (setN bs) := (congrArg lsN hbs).trans (bits_ls o.n hlt)
  have hbit := fun k => setN_bit bs k
  rw [Bool.eq_iff_iff, right_iff o hlt]
  unfold lawRightB
  rw [hls, wsum_bits o hlt, Bool.and_eq_true, Bool.and_eq_true, decide_eq_true_eq, Bool.not_eq_true', Bool.not_eq_true', List.any_eq_false, List.any_eq_false]
  constructor
  · rintro ⟨⟨h1, h2⟩, h3⟩
    refine ⟨h1, fun p hp => ?_, fun p hp => ?_⟩
    · have := h2 p hp
      rw [hbit, hbit]
      simpa using this
    · have := h3 p hp
      rw [hbit, hbit]
      intro e
      exact this (by rw [show bs.getD p.1.toNat default = true from e.1, show bs.getD p.2.toNat default = true from e.2]; rfl)
  · intro h
    refine ⟨⟨h.w, fun p hp => ?_⟩, fun p hp e => ?_⟩
    · have := h.wp p hp
      rw [hbit, hbit] at this
      simpa using this
    · rw [Bool.and_eq_true] at e
      exact h.ap p hp ⟨by rw [hbit]; exact e.1, by rw [hbit]; exact e.2⟩
end GA
end

section
namespace GA
open Go Go.RowKit Go.Proofs
set_option linter.unusedVariables false
set_option linter.unusedSimpArgs false

def fsL (l : Ld) : List Nat := (List.range l.sacks.length).filter (isF l)
def bunL (l : Ld) : List (List Int) := (fsL l).map fun f => bits (ndS l f)
def stuL (l : Ld) : List Int := ((fsL l).filter fun f => !rightB (openD l) (ndS l f)).map fun f : Nat => (f : Int)
theorem bunK_eq (l : Ld) : ∀ k, bunK l k = ((List.range k).filter (isF l)).map fun f => bits (ndS l f)
  | 0 => rfl
  | k + 1 => by
    rw [List.range_succ, List.filter_append, List.map_append, ← bunK_eq l k]
    show (if isF l k = true then bunK l k ++ [bits (ndS l k)] else bunK l k) = _
    split <;> rename_i h <;> simp [h]
theorem stuK_eq (l : Ld) : ∀ k, stuK l k = (((List.range k).filter (isF l)).filter fun f => !rightB (openD l) (ndS l f)).map fun f : Nat => (f : Int)
  | 0 => rfl
  | k + 1 => by
    rw [List.range_succ, List.filter_append, List.filter_append, List.map_append, ← stuK_eq l k]
    show (if (isF l k && !rightB (openD l) (ndS l k)) = true then stuK l k ++ [(k : Int)] else stuK l k) = _
    split
    · rename_i h
      rw [Bool.and_eq_true] at h
      have h2 : rightB (openD l) (ndS l k) = false := by simpa using h.2
      simp [h.1, h2]
    · rename_i h
      rw [Bool.and_eq_true] at h
      cases h1 : isF l k
      · simp [h1]
      · cases h2 : (!rightB (openD l) (ndS l k))
        · have h3 : rightB (openD l) (ndS l k) = true := by simpa using h2
          simp [h1, h3]
        · exact absurd ⟨h1, h2⟩ h
theorem fsL_iff {l : Ld} {f : Nat} : f ∈ fsL l ↔ f < l.sacks.length ∧ lowb (ndS l f) = 2 ^ f := by
  unfold fsL
  rw [List.mem_filter, List.mem_range]
  unfold isF
  rw [beq_iff_eq]
theorem bits_asc {n s : Nat} (hn : n ≤ 9) (h : s < 2 ^ n) : (bits s).Pairwise (· < ·) := by
  rw [← bits_ls hn h]
  unfold lsN lsK
  refine List.pairwise_map.2 ((List.Pairwise.filter _ List.pairwise_lt_range).imp fun h => by omega)
theorem ndS_512 {l : Ld} (o : LdOk l) (i : Nat) : ndS l i < 512 := by
  have := ndS_lt o i; have := pow9 o.n; omega
theorem ndS_pos {l : Ld} (o : LdOk l) {i : Nat} (hi : i < l.sacks.length) : ndS l i ≠ 0 := fun e => by
  have := nd_self o hi
  rw [← ndS, e] at this; simp at this
theorem first_eq {l : Ld} (o : LdOk l) {f : Nat} (hf : f ∈ fsL l) : (bits (ndS l f)).getD 0 0 = (f : Int) := by
  obtain ⟨h1, h2⟩ := fsL_iff.1 hf
  exact (first_iff (ndS_pos o h1) (ndS_512 o f)).2 h2
theorem bits_ne {l : Ld} (o : LdOk l) {f : Nat} (hf : f < l.sacks.length) : bits (ndS l f) ≠ [] := (first_all ⟨_, ndS_512 o f⟩ (ndS_pos o hf)).2.2
theorem covered {l : Ld} (o : LdOk l) {i : Nat} (hi : i < l.sacks.length) : ∃ f, f ∈ fsL l ∧ (ndS l f).testBit i = true := by
  obtain ⟨h1, h2, h3⟩ := first_all ⟨_, ndS_512 o i⟩ (ndS_pos o hi)
  dsimp only at h1 h2 h3
  generalize Nat.log2 (lowb (ndS l i)) = f at h1 h2
  have hm : (f : Int) ∈ bits (ndS l i) := by
    rw [← h1]
    cases hb : bits (ndS l i) with
    | nil => exact absurd hb h3
    | cons a r => exact List.mem_cons_self
  obtain ⟨j, hj, hb⟩ := (bits_iff (ndS_512 o i) _).1 hm
  obtain rfl : f = j := by omega
  have e := (nd_eqv o).same f i hb
  refine ⟨f, fsL_iff.2 ⟨((nd_eqv o).lt f i hb).1, by show lowb ((openD l).nd.getD f 0) = _; rw [e]; exact h2⟩, ?_⟩
  show ((openD l).nd.getD f 0).testBit i = true
  rw [e]; exact nd_self o hi
theorem bun_apart {l : Ld} (o : LdOk l) {f g i : Nat} (hf : f ∈ fsL l) (hg : g ∈ fsL l) (h1 : (ndS l f).testBit i = true) (h2 : (ndS l g).testBit i = true) : f = g := by
  have e1 := (nd_eqv o).same i f h1
  have e2 := (nd_eqv o).same i g h2
  have e : ndS l f = ndS l g := e1.symm.trans e2
  have a := (fsL_iff.1 hf).2
  have b := (fsL_iff.1 hg).2
  rw [e, b] at a
  have := congrArg Nat.log2 a
  rw [Nat.log2_two_pow, Nat.log2_two_pow] at this
  exact this.symm

def inS (n : Int) (a : List Int) (b : List Int) : List Int := b.foldl (fun a i => a.set i.toNat n) a
def onS (o : List Bool) (b : List Int) : List Bool := b.foldl (fun o i => o.set i.toNat true) o
theorem inS_len (n : Int) : ∀ (b a : List Int), (inS n a b).length = a.length
  | [], _ => rfl
  | i :: b, a => (inS_len n b (a.set i.toNat n)).trans (by simp)
theorem onS_len : ∀ (b : List Int) (o : List Bool), (onS o b).length = o.length
  | [], _ => rfl
  | i :: b, o => (onS_len b (o.set i.toNat true)).trans (by simp)
theorem inS_get (n : Int) (k : Nat) : ∀ (b a : List Int), (∀ i ∈ b, 0 ≤ i) → k < a.length → (inS n a b).getD k 0 = if (k : Int) ∈ b then n else a.getD k 0
  | [], a, _, _ => by simp [inS]
  | i :: b, a, h, hk => by
    have ih := inS_get n k b (a.set i.toNat n) (fun j hj => h j (List.mem_cons_of_mem _ hj)) (by simpa using hk)
    have h0 := h i List.mem_cons_self
    show (inS n (a.set i.toNat n) b).getD k 0 = _
    rw [ih]
    by_cases h1 : (k : Int) ∈ b
    · rw [if_pos h1, if_pos (List.mem_cons_of_mem _ h1)]
    · rw [if_neg h1]
      by_cases h2 : (k : Int) = i
      · rw [if_pos (by rw [h2]; exact List.mem_cons_self), List.getD_eq_getElem?_getD, show i.toNat = k by omega, List.getElem?_set_self hk]; rfl
      · rw [if_neg (by rw [List.mem_cons]; exact fun e => e.elim h2 h1), List.getD_eq_getElem?_getD, List.getElem?_set_ne (by omega), ← List.getD_eq_getElem?_getD]
theorem onS_get (k : Nat) : ∀ (b : List Int) (o : List Bool), (∀ i ∈ b, 0 ≤ i) → k < o.length → (onS o b).getD k false = if (k : Int) ∈ b then true else o.getD k false
  | [], a, _, _ => by simp [onS]
  | i :: b, a, h, hk => by
    have ih := onS_get k b (a.set i.toNat true) (fun j hj => h j (List.mem_cons_of_mem _ hj)) (by simpa using hk)
    have h0 := h i List.mem_cons_self
    show (onS (a.set i.toNat true) b).getD k false = _
    rw [ih]
    by_cases h1 : (k : Int) ∈ b
    · rw [if_pos h1, if_pos (List.mem_cons_of_mem _ h1)]
    · rw [if_neg h1]
      by_cases h2 : (k : Int) = i
      · rw [if_pos (by rw [h2]; exact List.mem_cons_self), List.getD_eq_getElem?_getD, show i.toNat = k by omega, List.getElem?_set_self hk]; rfl
      · rw [if_neg (by rw [List.mem_cons]; exact fun e => e.elim h2 h1), List.getD_eq_getElem?_getD, List.getElem?_set_ne (by omega), ← List.getD_eq_getElem?_getD]
def inK (B : List (List Int)) (N : Nat) : Nat → List Int
  | 0 => List.replicate N 0
  | n + 1 => inS n (inK B N n) (B.getD n default)
theorem inK_len (B : List (List Int)) (N : Nat) : ∀ n, (inK B N n).length = N
  | 0 => by simp [inK]
  | n + 1 => (inS_len _ _ _).trans (inK_len B N n)
theorem inK_get {B : List (List Int)} {N : Nat} (hB : ∀ b ∈ B, ∀ i ∈ b, 0 ≤ i) (hd : ∀ (m m' : Nat) (x : Int), m < B.length → m' < B.length → x ∈ B.getD m default → x ∈ B.getD m' default → m = m') {k : Nat} (hk : k < N) :
    ∀ n, n ≤ B.length → ∀ m, m < n → (k : Int) ∈ B.getD m default → (inK B N n).getD k 0 = (m : Int)
  | 0, _, m, h, _ => by omega
  | n + 1, hn, m, h, hm => by
    show (inS n (inK B N n) (B.getD n default)).getD k 0 = _
    rw [inS_get _ _ _ _ (hB _ (getD_mem (d := default) (show n < B.length by omega))) (by rw [inK_len]; exact hk)]
    split
    · rename_i h1
      rw [hd n m k (by omega) (by omega) h1 hm]
    · rename_i h1
      exact inK_get hB hd hk n (by omega) m (by rcases Nat.lt_or_ge m n with h2 | h2; exact h2; exact absurd (by rwa [show m = n by omega] at hm) h1) hm
def fsI (l : Ld) (m : Nat) : Nat := (fsL l).getD m default
theorem bunL_len (l : Ld) : (bunL l).length = (fsL l).length := List.length_map _
theorem fsL_len (l : Ld) : (fsL l).length ≤ l.sacks.length := by
  unfold fsL
  exact Nat.le_trans (List.length_filter_le _ _) (by simp)
theorem bunL_get {l : Ld} {m : Nat} (hm : m < (fsL l).length) : (bunL l).getD m default = bits (ndS l (fsI l m)) := by
  unfold bunL fsI
  rw [List.getD_eq_getElem?_getD, List.getElem?_map, List.getD_eq_getElem?_getD, List.getElem?_eq_getElem hm]; rfl
theorem fsI_mem {l : Ld} {m : Nat} (hm : m < (fsL l).length) : fsI l m ∈ fsL l := getD_mem hm
theorem fsL_asc (l : Ld) : (fsL l).Pairwise (· < ·) := List.Pairwise.filter _ List.pairwise_lt_range
theorem fsI_lt {l : Ld} {m m' : Nat} (h : m < m') (hm : m' < (fsL l).length) : fsI l m < fsI l m' := by
  have := List.pairwise_iff_getElem.1 (fsL_asc l) m m' (by omega) hm h
  unfold fsI
  rwa [List.getD_eq_getElem?_getD, List.getElem?_eq_getElem (by omega), List.getD_eq_getElem?_getD, List.getElem?_eq_getElem hm]
theorem fsI_inj {l : Ld} {m m' : Nat} (hm : m < (fsL l).length) (hm' : m' < (fsL l).length) (e : fsI l m = fsI l m') : m = m' := by
  rcases Nat.lt_trichotomy m m' with h | h | h
  · have := fsI_lt h hm'; omega
  · exact h
  · have := fsI_lt h hm; omega
theorem bun_mem {l : Ld} (o : LdOk l) {m : Nat} (hm : m < (fsL l).length) (x : Int) : x ∈ (bunL l).getD m default ↔ ∃ j : Nat, x = (j : Int) ∧ (ndS l (fsI l m)).testBit j = true := by
  rw [bunL_get hm]; exact bits_iff (ndS_512 o _) x
theorem bun_disj {l : Ld} (o : LdOk l) (m m' : Nat) (x : Int) (hm : m < (bunL l).length) (hm' : m' < (bunL l).length) (h1 : x ∈ (bunL l).getD m default) (h2 : x ∈ (bunL l).getD m' default) : m = m' := by
  rw [bunL_len] at hm hm'
  obtain ⟨j, rfl, hj⟩ := (bun_mem o hm _).1 h1
  obtain ⟨j', e, hj'⟩ := (bun_mem o hm' _).1 h2
  obtain rfl : j = j' := by omega
  exact fsI_inj hm hm' (bun_apart o (fsI_mem hm) (fsI_mem hm') hj hj')
theorem bun_in {l : Ld} (o : LdOk l) {b : List Int} (hb : b ∈ bunL l) {x : Int} (hx : x ∈ b) : 0 ≤ x ∧ x < l.sacks.length := by
  obtain ⟨f, hf, rfl⟩ := List.mem_map.1 hb
  obtain ⟨j, rfl, hj⟩ := (bits_iff (ndS_512 o _) x).1 hx
  have := bit_lt (ndS_lt o f) hj
  omega
theorem fsI_of {l : Ld} {f : Nat} (hf : f ∈ fsL l) : ∃ m, m < (fsL l).length ∧ fsI l m = f := by
  obtain ⟨m, hm, rfl⟩ := List.mem_iff_getElem.1 hf
  exact ⟨m, hm, by unfold fsI; rw [List.getD_eq_getElem?_getD, List.getElem?_eq_getElem hm]; rfl⟩
theorem in_at {l : Ld} (o : LdOk l) {k : Nat} (hk : k < l.sacks.length) : ∃ m, m < (fsL l).length ∧ (ndS l (fsI l m)).testBit k = true ∧ (inK (bunL l) l.sacks.length (fsL l).length).getD k 0 = (m : Int) := by
  obtain ⟨f, hf, hb⟩ := covered o hk
  obtain ⟨m, hm, rfl⟩ := fsI_of hf
  exact ⟨m, hm, hb, inK_get (fun b hb i hi => (bun_in o hb hi).1) (bun_disj o) hk _ (by rw [bunL_len]; exact Nat.le_refl _) m hm ((bun_mem o hm _).2 ⟨k, rfl, hb⟩)⟩
theorem in_same {l : Ld} (o : LdOk l) {i k : Nat} (hi : i < l.sacks.length) (hk : k < l.sacks.length) (e : (inK (bunL l) l.sacks.length (fsL l).length).getD i 0 = (inK (bunL l) l.sacks.length (fsL l).length).getD k 0) :
    ∃ f, (ndS l f).testBit i = true ∧ (ndS l f).testBit k = true := by
  obtain ⟨m, hm, hb, e1⟩ := in_at o hi
  obtain ⟨m', hm', hb', e2⟩ := in_at o hk
  rw [e1, e2] at e
  obtain rfl : m = m' := by omega
  exact ⟨_, hb, hb'⟩
theorem in_with {l : Ld} (o : LdOk l) {p : Int × Int} (hp : p ∈ l.wth) : (inK (bunL l) l.sacks.length (fsL l).length).getD p.1.toNat 0 = (inK (bunL l) l.sacks.length (fsL l).length).getD p.2.toNat 0 := by
  have b := o.wp p hp
  obtain ⟨m, hm, hb, e1⟩ := in_at o (show p.1.toNat < l.sacks.length by omega)
  obtain ⟨m', hm', hb', e2⟩ := in_at o (show p.2.toNat < l.sacks.length by omega)
  have hc := nd_cl o (fsI l m) p hp
  rw [hb] at hc
  rw [e1, e2, fsI_inj hm hm' (bun_apart o (fsI_mem hm) (fsI_mem hm') hc.symm hb')]
theorem whole_of {l : Ld} (o : LdOk l) {s f i k : Nat} (hs : RightP l s) (h1 : (ndS l f).testBit i = true) (h2 : (ndS l f).testBit k = true) : s.testBit i = s.testBit k := by
  have h := fun i k (h1 : (ndS l f).testBit i = true) (h2 : (ndS l f).testBit k = true) (hi : s.testBit i = true) => nd_least hs.wp hi k (by
    have e : (openD l).nd.getD i 0 = _ := (nd_eqv o).same i f h1
    rw [e]; exact h2)
  cases hi : s.testBit i
  · cases hk : s.testBit k
    · rfl
    · rw [h k i h2 h1 hk] at hi; cases hi
  · exact (h i k h1 h2 hi).symm
theorem bun_sum {l : Ld} (o : LdOk l) : ((bunL l).map List.length).sum = l.sacks.length := by
  rw [← List.length_flatten]
  have h1 : (bunL l).flatten.Nodup := by
    refine List.pairwise_flatten.2 ⟨fun b hb => ?_, ?_⟩
    · obtain ⟨f, hf, rfl⟩ := List.mem_map.1 hb
      exact (bits_asc o.n (ndS_lt o f)).imp fun h => by omega
    · refine List.pairwise_iff_getElem.2 fun m m' hm hm' hlt x hx y hy e => ?_
      subst e
      have := bun_disj o m m' x hm hm' (by rw [List.getD_eq_getElem?_getD, List.getElem?_eq_getElem hm]; exact hx) (by rw [List.getD_eq_getElem?_getD, List.getElem?_eq_getElem hm']; exact hy)
      omega
  have h2 : ((List.range l.sacks.length).map fun i : Nat => (i : Int)).Nodup := List.pairwise_map.2 (List.nodup_range.imp fun h e => h (by omega))
  have hp := (List.perm_ext_iff_of_nodup h1 h2).2 fun x => by
    rw [List.mem_flatten, List.mem_map]
    constructor
    · rintro ⟨b, hb, hx⟩
      have := bun_in o hb hx
      exact ⟨x.toNat, List.mem_range.2 (by omega), by omega⟩
    · rintro ⟨i, hi, rfl⟩
      obtain ⟨f, hf, hb⟩ := covered o (List.mem_range.1 hi)
      exact ⟨_, List.mem_map.2 ⟨f, hf, rfl⟩, (bits_iff (ndS_512 o f) _).2 ⟨i, rfl, hb⟩⟩
  rw [hp.length_eq]; simp
def wrK (l : Ld) (n : Nat) : Nat := (((fsL l).take n).filter fun f => !rightB (openD l) (ndS l f)).length
def metK (l : Ld) (n : Nat) : Nat := (((bunL l).take n).map List.length).sum
theorem wrK_next {l : Ld} {n : Nat} (hn : n < (fsL l).length) : wrK l (n + 1) = if rightB (openD l) (ndS l (fsI l n)) = true then wrK l n else wrK l n + 1 := by
  unfold wrK fsI
  rw [take_next hn, List.filter_append, List.length_append]
  generalize (fsL l).getD n default = f
  cases h : rightB (openD l) (ndS l f) <;> simp [h]
theorem metK_next {l : Ld} {n : Nat} (hn : n < (fsL l).length) : metK l (n + 1) = metK l n + (bits (ndS l (fsI l n))).length := by
  unfold metK
  rw [take_next (by rw [bunL_len]; exact hn), bunL_get hn]; simp
theorem wrK_all {l : Ld} : wrK l (fsL l).length = (stuL l).length := by
  unfold wrK stuL; rw [List.take_length, List.length_map]
theorem metK_all {l : Ld} (o : LdOk l) : metK l (fsL l).length = l.sacks.length := by
  unfold metK; rw [← bunL_len, List.take_length, bun_sum o]
theorem stuck_has {l : Ld} {f : Nat} (hf : f ∈ fsL l) : (stuL l).contains (f : Int) = !rightB (openD l) (ndS l f) := by
  rw [Bool.eq_iff_iff, List.contains_iff_mem]
  unfold stuL
  rw [List.mem_map]
  constructor
  · rintro ⟨g, hg, e⟩
    obtain rfl : g = f := by omega
    exact (List.mem_filter.1 hg).2
  · intro h; exact ⟨f, List.mem_filter.2 ⟨hf, h⟩, rfl⟩
theorem cartE_set {N : Nat} : ∀ (xs : List Int) (s : Nat), (∀ x ∈ xs, 0 ≤ x ∧ x < N) → xs.Nodup → (∀ x ∈ xs, s.testBit x.toNat = false) → ∃ s', cartE N s xs = (0, s') ∧ ∀ k : Nat, s'.testBit k = (s.testBit k || decide ((k : Int) ∈ xs))
  | [], s, _, _, _ => ⟨s, rfl, fun k => by simp⟩
  | x :: xs, s, h1, h2, h3 => by
    have hx := h1 x List.mem_cons_self
    have hs := h3 x List.mem_cons_self
    have hbit : ∀ k : Nat, (s ||| 2 ^ x.toNat).testBit k = (s.testBit k || decide ((k : Int) = x)) := fun k => by
      rw [Nat.testBit_or, Nat.testBit_two_pow]
      congr 1
      rw [Bool.eq_iff_iff, decide_eq_true_eq, decide_eq_true_eq]; omega
    obtain ⟨s', e, hb⟩ := cartE_set xs (s ||| 2 ^ x.toNat) (fun y hy => h1 y (List.mem_cons_of_mem _ hy)) (List.nodup_cons.1 h2).2 (fun y hy => by
      rw [hbit, h3 y (List.mem_cons_of_mem _ hy), Bool.false_or, decide_eq_false_iff_not]
      intro e
      have := h1 y (List.mem_cons_of_mem _ hy)
      exact (List.nodup_cons.1 h2).1 (by rwa [show x = y by omega]))
    refine ⟨s', ?_, fun k => ?_⟩
    · show (if x < 0 ∨ (N : Int) ≤ x then _ else if s.testBit x.toNat = true then _ else cartE N (s ||| 2 ^ x.toNat) xs) = _
      rw [if_neg (by omega), if_neg (by rw [hs]; simp), e]
    · rw [hb, hbit, Bool.or_assoc]
      congr 1
      rw [Bool.eq_iff_iff]; simp
def onOf (N : Nat) (xs : List Int) : List Bool := onS (List.replicate N false) xs
theorem onOf_len (N : Nat) (xs : List Int) : (onOf N xs).length = N := by unfold onOf; rw [onS_len, List.length_replicate]
theorem onOf_get {N : Nat} {xs : List Int} (h : ∀ x ∈ xs, 0 ≤ x ∧ x < N) (k : Nat) : (onOf N xs).getD k false = decide ((k : Int) ∈ xs) := by
  by_cases hk : k < N
  · unfold onOf
    rw [onS_get k xs _ (fun x hx => (h x hx).1) (by simpa using hk)]
    have : (List.replicate N false).getD k false = false := by
      rw [List.getD_eq_getElem?_getD, List.getElem?_replicate]; split <;> rfl
    rw [this]; split <;> simp [*]
  · rw [List.getD_eq_getElem?_getD, List.getElem?_eq_none (by rw [onOf_len]; omega)]
    symm; rw [Option.getD_none, decide_eq_false_iff_not]
    intro hm; have := h _ hm; omega
theorem right_cart {l : Ld} (o : LdOk l) {xs : List Int} (h1 : ∀ x ∈ xs, 0 ≤ x ∧ x < l.sacks.length) (h2 : xs.Nodup) : rightA l xs = rightB (openD l) (setN (onOf l.sacks.length xs)) ∧ rightE l xs = 0 := by
  obtain ⟨s', e, hb⟩ := cartE_set xs 0 h1 h2 (fun x _ => by simp)
  have he : rightE l xs = 0 := by unfold rightE; rw [if_neg (by rw [(checkR_ok l).2 o]; simp), e]
  refine ⟨?_, he⟩
  unfold rightA
  rw [he, e]
  have : s' = setN (onOf l.sacks.length xs) := bit_ext fun k => by rw [hb, setN_bit, onOf_get h1]; simp
  rw [this]; rfl
theorem right_on {l : Ld} (o : LdOk l) (xs : List Int) : lawRightB l (onOf l.sacks.length xs) = rightB (openD l) (setN (onOf l.sacks.length xs)) := lawRight_eq o (onOf_len _ _)
structure BunFact (l : Ld) (f : Nat) (b : List Int) : Prop where
  pos : 0 < b.length
  le : b.length ≤ 62
  asc : ∀ j, j + 1 < b.length → b.getD j default ≤ b.getD (j + 1) default
  rng : ∀ x ∈ b, 0 ≤ x ∧ x < l.sacks.length
  fst : b.getD 0 default = (f : Int)
  ra : rightA l b = rightB (openD l) (ndS l f)
  re : rightE l b = 0
  ro : lawRightB l (onOf l.sacks.length b) = rightB (openD l) (ndS l f)
theorem bunFact {l : Ld} (o : LdOk l) {f : Nat} (hf : f ∈ fsL l) : BunFact l f (bits (ndS l f)) := by
  have hfl := (fsL_iff.1 hf).1
  have ha := bits_asc o.n (ndS_lt o f)
  have hr : ∀ x ∈ bits (ndS l f), 0 ≤ x ∧ x < l.sacks.length := fun x hx => by
    obtain ⟨j, rfl, hj⟩ := (bits_iff (ndS_512 o _) x).1 hx
    have := bit_lt (ndS_lt o f) hj
    omega
  have hs : setN (onOf l.sacks.length (bits (ndS l f))) = ndS l f := bit_ext fun k => by
    rw [setN_bit, onOf_get hr, Bool.eq_iff_iff, decide_eq_true_eq, bits_iff (ndS_512 o _)]
    constructor
    · rintro ⟨j, e, hj⟩
      obtain rfl : k = j := by omega
      exact hj
    · intro h; exact ⟨k, rfl, h⟩
  obtain ⟨h1, h2⟩ := right_cart o hr (ha.imp fun h => by omega)
  refine ⟨List.length_pos_iff.2 (bits_ne o hfl), bitsF_length _ _ _, fun j hj => ?_, hr, first_eq o hf, by rw [h1, hs], h2, by rw [right_on o, hs]⟩
  have := List.pairwise_iff_getElem.1 ha j (j + 1) (by omega) hj (by omega)
  rw [List.getD_eq_getElem?_getD, List.getElem?_eq_getElem (by omega), List.getD_eq_getElem?_getD, List.getElem?_eq_getElem hj]
  exact Int.le_of_lt this
end GA
end
