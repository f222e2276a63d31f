/- Part 7 of a proof: S23, S25, S27, S28, S36, S37, S38, S30b, Abs32, S45, S46, S60, Abs34, S64, S65. -/
import Derived.Test.YtlbdomhfcghjdaaP6
import Derived.Test.YtlbdomhfcghjdaaRows
section
namespace GA
open Go Go.RowKit Go.Proofs
set_option pp.deepTerms true
set_option maxRecDepth 8000
set_option linter.unusedVariables false

abbrev bytes (xs : List Int) : List AV := xs.map (.int .u8)
theorem lowBy {n : Nat} (xs : List Int) : lowL n (bytes xs) = true := lowL_map (fun _ => rfl) xs
structure Hp where
  nl : Bool
  bs : List Int
  nx : Nat
  rd : Int
  deriving Inhabited
def hpC (h : Hp) : Blk := .cells [.sl h.nl (bytes h.bs), .int .i64 h.nx, .int .u32 h.rd]
structure Hp.Ok (h : Hp) : Prop where
  l : h.bs.length < 9223372036854775808
  n : h.nx < h.bs.length ∨ h.nx = 0
def hpN (h : Hp) : Int := IntKind.u32.wrap (40503 * IntKind.u32.wrap (h.rd + 1))
def hpM (h : Hp) : Int := if h.nx < h.bs.length then IntKind.u32.wrap (hpN h + IntKind.u32.wrap (331 * IntKind.u32.wrap (h.bs.getD h.nx default))) else hpN h
def hpV' (n : Int) : Int := iand .u32 (ixor .u32 n (n.fdiv (2 ^ (min (9 : Int).toNat IntKind.u32.bits)))) 32767
def hpV (h : Hp) : Int := hpV' (hpM h)
def hpS (h : Hp) : Hp := if h.bs.length ≤ h.nx + 1 then ⟨h.nl, h.bs, 0, IntKind.u32.wrap (h.rd + 1)⟩ else ⟨h.nl, h.bs, h.nx + 1, h.rd⟩
theorem hpV_bound (n : Int) : 0 ≤ hpV' n ∧ hpV' n ≤ 32767 := by
  unfold hpV' iand
  have h1 : (BitVec.ofInt IntKind.u32.bits (ixor .u32 n (n.fdiv (2 ^ (min (9 : Int).toNat IntKind.u32.bits)))) &&& BitVec.ofInt IntKind.u32.bits 32767).toNat ≤ 32767 := by
    rw [BitVec.toNat_and]
    exact Nat.le_trans Nat.and_le_right (by decide)
  generalize (BitVec.ofInt IntKind.u32.bits (ixor .u32 n (n.fdiv (2 ^ (min (9 : Int).toNat IntKind.u32.bits)))) &&& BitVec.ofInt IntKind.u32.bits 32767).toNat = m at h1 ⊢
  simp only [IntKind.wrap, IntKind.bits, IntKind.signed]
  constructor <;> simp <;> omega
theorem hpS_ok {h : Hp} (o : h.Ok) : (hpS h).Ok := by
  unfold hpS; split
  · exact ⟨o.l, .inr rfl⟩
  · exact ⟨o.l, .inl (by dsimp only; omega)⟩
theorem hpC_low {n : Nat} (h : Hp) : (hpC h).low n = true := by simp only [hpC, Blk.low, lowL, AV.low, lowBy]; rfl
theorem hpC_ren (f : Nat → Nat) (h : Hp) : (hpC h).ren f = hpC h := Blk.ren_low (n := 0) (fun i hi => by omega) (hpC_low h)

theorem XInt.w {q : IntKind} {x : Int} {k : AV → Prop} (h : k (.int q (q.wrap x))) : XInt q x k := ⟨h⟩

def HpOk (f : FuncId) (qs : List AV) (h : Hp) (r : AV) (h' : Hp) : Prop :=
  lowL 0 qs = true ∧ ACall Try.prog f (.ptr 0 0 :: qs) [hpC h] fun r' H' => r' = r ∧ H' = [hpC h']
theorem XCall.hp {f : FuncId} {qs : List AV} {h h' : Hp} {r : AV} (x : HpOk f qs h r h') (hr : r.low 0 = true) {H : List Blk} {k : AV → List Blk → Prop} {j : Nat} (h0 : lget H j = some (hpC h))
    (hk : k r (H.set j (hpC h'))) : XCall Try.prog f (.ptr j 0 :: qs) H k := by
  constructor
  have e := ACall.frame (ρ := fun i => j + i) (H := H) (k := k) x.2 (fun a b _ _ h => by have : j + a = j + b := h; omega) ?_ (fun y hy => by simp at hy; subst hy; exact hpC_low h) ?_ ?_
  · have hd : renL (fun i => j + i) qs = qs := renL_low0 x.1
    rw [List.map_cons, ← renL_eq, hd] at e
    exact e
  · intro i x1 hi
    rw [lget_eq] at h0
    rcases i with _ | i
    · simp only [List.getElem?_cons_zero, Option.some.injEq] at hi; subst hi
      rw [hpC_ren]; exact h0
    · simp at hi
  · simp only [lowL, AV.low, lowL_mono (Nat.zero_le _) x.1]; rfl
  · rintro r1 H1' ⟨rfl, rfl⟩
    rw [lget_eq] at h0
    have hj := (List.getElem?_eq_some_iff.1 h0).1
    refine ⟨rfl, H.set j (hpC h'), by simp, fun i x1 hi => ?_, fun q hq => ?_, ?_⟩
    · rcases i with _ | i
      · simp only [List.getElem?_cons_zero, Option.some.injEq] at hi; subst hi
        rw [hpC_ren]; simp [hj]
      · simp at hi
    · exact List.getElem?_set_ne (by have := hq 0 (by simp); simpa using this)
    · rw [AV.ren_low (n := 0) (fun i hi => by omega) hr]; exact hk

theorem hpM_lt {u : Hp} (h : (u.nx : Int) < u.bs.length) : hpM u = IntKind.u32.wrap (hpN u + IntKind.u32.wrap (331 * IntKind.u32.wrap (u.bs.getD u.nx default))) := if_pos (by omega)
theorem hpM_ge {u : Hp} (h : ¬ (u.nx : Int) < u.bs.length) : hpM u = hpN u := if_neg (by omega)
theorem hpS_end {u : Hp} (h : (u.bs.length : Int) ≤ u.nx + 1) : [hpC (hpS u)] = [Blk.cells [AV.sl u.nl (bytes u.bs), AV.int IntKind.i64 0, AV.int IntKind.u32 (IntKind.u32.wrap (u.rd + 1))]] := by
  unfold hpS; rw [if_pos (by omega)]; rfl
theorem hpS_on {u : Hp} (h : ¬ (u.bs.length : Int) ≤ u.nx + 1) : [hpC (hpS u)] = [Blk.cells [AV.sl u.nl (bytes u.bs), AV.int IntKind.i64 (u.nx + 1), AV.int IntKind.u32 u.rd]] := by
  unfold hpS; rw [if_neg (by omega)]; rfl
theorem i64_small {n : Int} (h1 : 0 ≤ n) (h2 : n ≤ 32767) : IntKind.i64.wrap n = n := by
  simp only [IntKind.wrap, IntKind.bits, IntKind.signed]; simp; omega
theorem pick_end {u : Hp} {n : Int} {H1 : List Blk} (hn : hpM u = n) (hS : [hpC (hpS u)] = H1) : XCut [hpC u].length [] H1 (.int .i64 (IntKind.i64.wrap (hpV' n))) fun r' H' => r' = .int .i64 (hpV u) ∧ H' = [hpC (hpS u)] := by
  subst hn; subst hS
  obtain ⟨h1, h2⟩ := hpV_bound (hpM u)
  rw [i64_small h1 h2]
  exact XCut.mk' [hpC (hpS u)] [] rfl rfl (fun x hx => by simp only [List.mem_cons, List.not_mem_nil, or_false] at hx; subst hx; exact hpC_low _) rfl ⟨rfl, rfl⟩
theorem pick_c (u : Hp) (o : u.Ok) : HpOk 86 [] u (.int .i64 (hpV u)) (hpS u) := by
  have hl := o.l
  have hn := o.n
  refine ⟨rfl, ?_⟩
  refine ACall.bodyK (T := tab) (res := [.tmp 2]) tab_ok [] Try.func86 rfl (by kernel_rfl) Try.ntmps86 rfl (by simp only [List.length_cons, List.length_nil]; decide) ?_; conv => whnf
  repeat' first | ((with_reducible first | apply XBr.tt | apply XBr.ff | apply Chk.go | apply ChkA.go | apply ChkF.go | apply ChkB.go | apply XArr.pim0 | apply XArr.pim1); conv => whnf) | (with_reducible apply XBr.not) | ((with_reducible apply XBr.dec) <;> (intro h; first | (exfalso; omega) | ((try simp only [List.length_map] at h); first | (exfalso; omega) | (conv => whnf)))) | ((with_reducible first | apply XBr.beq | apply XBr.bne) <;> (intro h; first | (exfalso; omega) | (conv => whnf))) | ((with_reducible refine XInt.i64 (by omega) (by omega) ?_); conv => whnf) | ((with_reducible refine XHold.mk ?_ ?_); (first | omega | rfl | decide | exact ⟨rfl, by decide, rfl⟩ | exact wideI _ | exact widePr _ | exact wideSk _ | (unfold Room; constructor <;> ((try simp) <;> omega)) | exact ⟨rfl, by simp only [List.length_map], by unfold Room; constructor <;> ((try simp) <;> omega)⟩ | exact ⟨by omega, by omega, by unfold Room; constructor <;> ((try simp) <;> omega)⟩); conv => whnf) | ((first | ((with_reducible refine XIx.nat ?_ ?_ ?_); omega; (intro _; rfl)) | ((with_reducible refine XIx.map ?_ ?_ ?_ ?_); omega; omega; (intro _; rfl))); conv => whnf) | (with_reducible apply XAnd.mk) | (exact XSame.mk rfl rfl) | (exact XSame.mk (by first | rfl | (simp only [List.map_append, List.length_append, List.length_map]; done) | (simp only [List.map_append, List.length_append, List.length_map]; rfl)) (by first | rfl | (simp only [List.map_append]; done) | (simp only [List.map_append]; rfl))) | (with_reducible exact trivial) | ((first | (with_reducible refine xdrop_app (by rw [List.length_map]; omega) ?_) | (with_reducible refine XDrop.desk (by assumption) ?_) | (with_reducible first | refine XArr.ints (by omega) (by omega) (by omega) ?_ | refine XArr.intsA (by omega) (by omega) (by omega) ?_) | ((with_reducible first | refine XArr.nats ?_ ?_ ?_ | refine XArr.natsA ?_ ?_ ?_ | refine XArr.ptr ?_ ?_ ?_); omega; omega) | (refine XInt.w ?_)); conv => whnf) | ((with_reducible apply XBr.mk') <;> (intro h; conv => whnf))
  apply Walk.drawX tab_ok mixed_ok [] [] (hsK _) [_, _, _, _, _, _, _, _, _, _] (by kernel_rfl) rfl
  · skip
    repeat' first | ((with_reducible first | apply XBr.tt | apply XBr.ff | apply Chk.go | apply ChkA.go | apply ChkF.go | apply ChkB.go | apply XArr.pim0 | apply XArr.pim1); conv => whnf) | (with_reducible apply XBr.not) | ((with_reducible apply XBr.dec) <;> (intro h; first | (exfalso; omega) | ((try simp only [List.length_map] at h); first | (exfalso; omega) | (conv => whnf)))) | ((with_reducible first | apply XBr.beq | apply XBr.bne) <;> (intro h; first | (exfalso; omega) | (conv => whnf))) | ((with_reducible refine XInt.i64 (by omega) (by omega) ?_); conv => whnf) | ((with_reducible refine XHold.mk ?_ ?_); (first | omega | rfl | decide | exact ⟨rfl, by decide, rfl⟩ | exact wideI _ | exact widePr _ | exact wideSk _ | (unfold Room; constructor <;> ((try simp) <;> omega)) | exact ⟨rfl, by simp only [List.length_map], by unfold Room; constructor <;> ((try simp) <;> omega)⟩ | exact ⟨by omega, by omega, by unfold Room; constructor <;> ((try simp) <;> omega)⟩); conv => whnf) | ((first | ((with_reducible refine XIx.nat ?_ ?_ ?_); omega; (intro _; rfl)) | ((with_reducible refine XIx.map ?_ ?_ ?_ ?_); omega; omega; (intro _; rfl))); conv => whnf) | (with_reducible apply XAnd.mk) | (exact XSame.mk rfl rfl) | (exact XSame.mk (by first | rfl | (simp only [List.map_append, List.length_append, List.length_map]; done) | (simp only [List.map_append, List.length_append, List.length_map]; rfl)) (by first | rfl | (simp only [List.map_append]; done) | (simp only [List.map_append]; rfl))) | (with_reducible exact trivial) | ((first | (with_reducible refine xdrop_app (by rw [List.length_map]; omega) ?_) | (with_reducible refine XDrop.desk (by assumption) ?_) | (with_reducible first | refine XArr.ints (by omega) (by omega) (by omega) ?_ | refine XArr.intsA (by omega) (by omega) (by omega) ?_) | ((with_reducible first | refine XArr.nats ?_ ?_ ?_ | refine XArr.natsA ?_ ?_ ?_ | refine XArr.ptr ?_ ?_ ?_); omega; omega)); conv => whnf) | ((with_reducible apply XBr.mk') <;> (intro h; conv => whnf))
  · skip
    repeat' first | ((with_reducible first | apply XBr.tt | apply XBr.ff | apply Chk.go | apply ChkA.go | apply ChkF.go | apply ChkB.go | apply XArr.pim0 | apply XArr.pim1); conv => whnf) | (with_reducible apply XBr.not) | ((with_reducible apply XBr.dec) <;> (intro h; first | (exfalso; omega) | ((try simp only [List.length_map] at h); first | (exfalso; omega) | (conv => whnf)))) | ((with_reducible first | apply XBr.beq | apply XBr.bne) <;> (intro h; first | (exfalso; omega) | (conv => whnf))) | ((with_reducible refine XInt.i64 (by omega) (by omega) ?_); conv => whnf) | ((with_reducible refine XHold.mk ?_ ?_); (first | omega | rfl | decide | exact ⟨rfl, by decide, rfl⟩ | exact wideI _ | exact widePr _ | exact wideSk _ | (unfold Room; constructor <;> ((try simp) <;> omega)) | exact ⟨rfl, by simp only [List.length_map], by unfold Room; constructor <;> ((try simp) <;> omega)⟩ | exact ⟨by omega, by omega, by unfold Room; constructor <;> ((try simp) <;> omega)⟩); conv => whnf) | ((first | ((with_reducible refine XIx.nat ?_ ?_ ?_); omega; (intro _; rfl)) | ((with_reducible refine XIx.map ?_ ?_ ?_ ?_); omega; omega; (intro _; rfl))); conv => whnf) | (with_reducible apply XAnd.mk) | (exact XSame.mk rfl rfl) | (exact XSame.mk (by first | rfl | (simp only [List.map_append, List.length_append, List.length_map]; done) | (simp only [List.map_append, List.length_append, List.length_map]; rfl)) (by first | rfl | (simp only [List.map_append]; done) | (simp only [List.map_append]; rfl))) | (with_reducible exact trivial) | ((first | (with_reducible refine xdrop_app (by rw [List.length_map]; omega) ?_) | (with_reducible refine XDrop.desk (by assumption) ?_) | (with_reducible first | refine XArr.ints (by omega) (by omega) (by omega) ?_ | refine XArr.intsA (by omega) (by omega) (by omega) ?_) | ((with_reducible first | refine XArr.nats ?_ ?_ ?_ | refine XArr.natsA ?_ ?_ ?_ | refine XArr.ptr ?_ ?_ ?_); omega; omega)); conv => whnf) | ((with_reducible apply XBr.mk') <;> (intro h; conv => whnf))
  · conv => whnf
    repeat' first | ((with_reducible first | apply XBr.tt | apply XBr.ff | apply Chk.go | apply ChkA.go | apply ChkF.go | apply ChkB.go | apply XArr.pim0 | apply XArr.pim1); conv => whnf) | (with_reducible apply XBr.not) | ((with_reducible apply XBr.dec) <;> (intro h; first | (exfalso; omega) | ((try simp only [List.length_map] at h); first | (exfalso; omega) | (conv => whnf)))) | ((with_reducible first | apply XBr.beq | apply XBr.bne) <;> (intro h; first | (exfalso; omega) | (conv => whnf))) | ((with_reducible refine XInt.i64 (by omega) (by omega) ?_); conv => whnf) | ((with_reducible refine XHold.mk ?_ ?_); (first | omega | rfl | decide | exact ⟨rfl, by decide, rfl⟩ | exact wideI _ | exact widePr _ | exact wideSk _ | (unfold Room; constructor <;> ((try simp) <;> omega)) | exact ⟨rfl, by simp only [List.length_map], by unfold Room; constructor <;> ((try simp) <;> omega)⟩ | exact ⟨by omega, by omega, by unfold Room; constructor <;> ((try simp) <;> omega)⟩); conv => whnf) | ((first | ((with_reducible refine XIx.nat ?_ ?_ ?_); omega; (intro _; rfl)) | ((with_reducible refine XIx.map ?_ ?_ ?_ ?_); omega; omega; (intro _; rfl))); conv => whnf) | (with_reducible apply XAnd.mk) | (exact XSame.mk rfl rfl) | (exact XSame.mk (by first | rfl | (simp only [List.map_append, List.length_append, List.length_map]; done) | (simp only [List.map_append, List.length_append, List.length_map]; rfl)) (by first | rfl | (simp only [List.map_append]; done) | (simp only [List.map_append]; rfl))) | (with_reducible exact trivial) | ((first | (with_reducible refine xdrop_app (by rw [List.length_map]; omega) ?_) | (with_reducible refine XDrop.desk (by assumption) ?_) | (with_reducible first | refine XArr.ints (by omega) (by omega) (by omega) ?_ | refine XArr.intsA (by omega) (by omega) (by omega) ?_) | ((with_reducible first | refine XArr.nats ?_ ?_ ?_ | refine XArr.natsA ?_ ?_ ?_ | refine XArr.ptr ?_ ?_ ?_); omega; omega)); conv => whnf) | ((with_reducible apply XBr.mk') <;> (intro h; conv => whnf))
    · apply Walk.drawX tab_ok mixed_ok [] [] (hsK _) [_, _, _, _, _, _, _, _, _, _, _, _, _, _, _] (by kernel_rfl) rfl
      · skip
        repeat' first | ((with_reducible first | apply XBr.tt | apply XBr.ff | apply Chk.go | apply ChkA.go | apply ChkF.go | apply ChkB.go | apply XArr.pim0 | apply XArr.pim1); conv => whnf) | (with_reducible apply XBr.not) | ((with_reducible apply XBr.dec) <;> (intro h; first | (exfalso; omega) | ((try simp only [List.length_map] at h); first | (exfalso; omega) | (conv => whnf)))) | ((with_reducible first | apply XBr.beq | apply XBr.bne) <;> (intro h; first | (exfalso; omega) | (conv => whnf))) | ((with_reducible refine XInt.i64 (by omega) (by omega) ?_); conv => whnf) | ((with_reducible refine XHold.mk ?_ ?_); (first | omega | rfl | decide | exact ⟨rfl, by decide, rfl⟩ | exact wideI _ | exact widePr _ | exact wideSk _ | (unfold Room; constructor <;> ((try simp) <;> omega)) | exact ⟨rfl, by simp only [List.length_map], by unfold Room; constructor <;> ((try simp) <;> omega)⟩ | exact ⟨by omega, by omega, by unfold Room; constructor <;> ((try simp) <;> omega)⟩); conv => whnf) | ((first | ((with_reducible refine XIx.nat ?_ ?_ ?_); omega; (intro _; rfl)) | ((with_reducible refine XIx.map ?_ ?_ ?_ ?_); omega; omega; (intro _; rfl))); conv => whnf) | (with_reducible apply XAnd.mk) | (exact XSame.mk rfl rfl) | (exact XSame.mk (by first | rfl | (simp only [List.map_append, List.length_append, List.length_map]; done) | (simp only [List.map_append, List.length_append, List.length_map]; rfl)) (by first | rfl | (simp only [List.map_append]; done) | (simp only [List.map_append]; rfl))) | (with_reducible exact trivial) | ((first | (with_reducible refine xdrop_app (by rw [List.length_map]; omega) ?_) | (with_reducible refine XDrop.desk (by assumption) ?_) | (with_reducible first | refine XArr.ints (by omega) (by omega) (by omega) ?_ | refine XArr.intsA (by omega) (by omega) (by omega) ?_) | ((with_reducible first | refine XArr.nats ?_ ?_ ?_ | refine XArr.natsA ?_ ?_ ?_ | refine XArr.ptr ?_ ?_ ?_); omega; omega) | (refine XInt.w ?_)); conv => whnf) | ((with_reducible apply XBr.mk') <;> (intro h; conv => whnf))
      · skip
        repeat' first | ((with_reducible first | apply XBr.tt | apply XBr.ff | apply Chk.go | apply ChkA.go | apply ChkF.go | apply ChkB.go | apply XArr.pim0 | apply XArr.pim1); conv => whnf) | (with_reducible apply XBr.not) | ((with_reducible apply XBr.dec) <;> (intro h; first | (exfalso; omega) | ((try simp only [List.length_map] at h); first | (exfalso; omega) | (conv => whnf)))) | ((with_reducible first | apply XBr.beq | apply XBr.bne) <;> (intro h; first | (exfalso; omega) | (conv => whnf))) | ((with_reducible refine XInt.i64 (by omega) (by omega) ?_); conv => whnf) | ((with_reducible refine XHold.mk ?_ ?_); (first | omega | rfl | decide | exact ⟨rfl, by decide, rfl⟩ | exact wideI _ | exact widePr _ | exact wideSk _ | (unfold Room; constructor <;> ((try simp) <;> omega)) | exact ⟨rfl, by simp only [List.length_map], by unfold Room; constructor <;> ((try simp) <;> omega)⟩ | exact ⟨by omega, by omega, by unfold Room; constructor <;> ((try simp) <;> omega)⟩); conv => whnf) | ((first | ((with_reducible refine XIx.nat ?_ ?_ ?_); omega; (intro _; rfl)) | ((with_reducible refine XIx.map ?_ ?_ ?_ ?_); omega; omega; (intro _; rfl))); conv => whnf) | (with_reducible apply XAnd.mk) | (exact XSame.mk rfl rfl) | (exact XSame.mk (by first | rfl | (simp only [List.map_append, List.length_append, List.length_map]; done) | (simp only [List.map_append, List.length_append, List.length_map]; rfl)) (by first | rfl | (simp only [List.map_append]; done) | (simp only [List.map_append]; rfl))) | (with_reducible exact trivial) | ((first | (with_reducible refine xdrop_app (by rw [List.length_map]; omega) ?_) | (with_reducible refine XDrop.desk (by assumption) ?_) | (with_reducible first | refine XArr.ints (by omega) (by omega) (by omega) ?_ | refine XArr.intsA (by omega) (by omega) (by omega) ?_) | ((with_reducible first | refine XArr.nats ?_ ?_ ?_ | refine XArr.natsA ?_ ?_ ?_ | refine XArr.ptr ?_ ?_ ?_); omega; omega) | (refine XInt.w ?_)); conv => whnf) | ((with_reducible apply XBr.mk') <;> (intro h; conv => whnf))
      · conv => whnf
        repeat' first | ((with_reducible first | apply XBr.tt | apply XBr.ff | apply Chk.go | apply ChkA.go | apply ChkF.go | apply ChkB.go | apply XArr.pim0 | apply XArr.pim1); conv => whnf) | (with_reducible apply XBr.not) | ((with_reducible apply XBr.dec) <;> (intro h; first | (exfalso; omega) | ((try simp only [List.length_map] at h); first | (exfalso; omega) | (conv => whnf)))) | ((with_reducible first | apply XBr.beq | apply XBr.bne) <;> (intro h; first | (exfalso; omega) | (conv => whnf))) | ((with_reducible refine XInt.i64 (by omega) (by omega) ?_); conv => whnf) | ((with_reducible refine XHold.mk ?_ ?_); (first | omega | rfl | decide | exact ⟨rfl, by decide, rfl⟩ | exact wideI _ | exact widePr _ | exact wideSk _ | (unfold Room; constructor <;> ((try simp) <;> omega)) | exact ⟨rfl, by simp only [List.length_map], by unfold Room; constructor <;> ((try simp) <;> omega)⟩ | exact ⟨by omega, by omega, by unfold Room; constructor <;> ((try simp) <;> omega)⟩); conv => whnf) | ((first | ((with_reducible refine XIx.nat ?_ ?_ ?_); omega; (intro _; rfl)) | ((with_reducible refine XIx.map ?_ ?_ ?_ ?_); omega; omega; (intro _; rfl))); conv => whnf) | (with_reducible apply XAnd.mk) | (exact XSame.mk rfl rfl) | (exact XSame.mk (by first | rfl | (simp only [List.map_append, List.length_append, List.length_map]; done) | (simp only [List.map_append, List.length_append, List.length_map]; rfl)) (by first | rfl | (simp only [List.map_append]; done) | (simp only [List.map_append]; rfl))) | (with_reducible exact trivial) | ((first | (with_reducible refine xdrop_app (by rw [List.length_map]; omega) ?_) | (with_reducible refine XDrop.desk (by assumption) ?_) | (with_reducible first | refine XArr.ints (by omega) (by omega) (by omega) ?_ | refine XArr.intsA (by omega) (by omega) (by omega) ?_) | ((with_reducible first | refine XArr.nats ?_ ?_ ?_ | refine XArr.natsA ?_ ?_ ?_ | refine XArr.ptr ?_ ?_ ?_); omega; omega)); conv => whnf) | ((with_reducible apply XBr.mk') <;> (intro h; conv => whnf))
        apply Walk.drawX tab_ok mixed_ok [] [] (hsK _) [_, _, _, _, _, _, _, _, _, _] (by kernel_rfl) rfl
        · skip
          repeat' first | ((with_reducible first | apply XBr.tt | apply XBr.ff | apply Chk.go | apply ChkA.go | apply ChkF.go | apply ChkB.go | apply XArr.pim0 | apply XArr.pim1); conv => whnf) | (with_reducible apply XBr.not) | ((with_reducible apply XBr.dec) <;> (intro h; first | (exfalso; omega) | ((try simp only [List.length_map] at h); first | (exfalso; omega) | (conv => whnf)))) | ((with_reducible first | apply XBr.beq | apply XBr.bne) <;> (intro h; first | (exfalso; omega) | (conv => whnf))) | ((with_reducible refine XInt.i64 (by omega) (by omega) ?_); conv => whnf) | ((with_reducible refine XHold.mk ?_ ?_); (first | omega | rfl | decide | exact ⟨rfl, by decide, rfl⟩ | exact wideI _ | exact widePr _ | exact wideSk _ | (unfold Room; constructor <;> ((try simp) <;> omega)) | exact ⟨rfl, by simp only [List.length_map], by unfold Room; constructor <;> ((try simp) <;> omega)⟩ | exact ⟨by omega, by omega, by unfold Room; constructor <;> ((try simp) <;> omega)⟩); conv => whnf) | ((first | ((with_reducible refine XIx.nat ?_ ?_ ?_); omega; (intro _; rfl)) | ((with_reducible refine XIx.map ?_ ?_ ?_ ?_); omega; omega; (intro _; rfl))); conv => whnf) | (with_reducible apply XAnd.mk) | (exact XSame.mk rfl rfl) | (exact XSame.mk (by first | rfl | (simp only [List.map_append, List.length_append, List.length_map]; done) | (simp only [List.map_append, List.length_append, List.length_map]; rfl)) (by first | rfl | (simp only [List.map_append]; done) | (simp only [List.map_append]; rfl))) | (with_reducible exact trivial) | ((first | (with_reducible refine xdrop_app (by rw [List.length_map]; omega) ?_) | (with_reducible refine XDrop.desk (by assumption) ?_) | (with_reducible first | refine XArr.ints (by omega) (by omega) (by omega) ?_ | refine XArr.intsA (by omega) (by omega) (by omega) ?_) | ((with_reducible first | refine XArr.nats ?_ ?_ ?_ | refine XArr.natsA ?_ ?_ ?_ | refine XArr.ptr ?_ ?_ ?_); omega; omega)); conv => whnf) | ((with_reducible apply XBr.mk') <;> (intro h; conv => whnf))
        · skip
          repeat' first | ((with_reducible first | apply XBr.tt | apply XBr.ff | apply Chk.go | apply ChkA.go | apply ChkF.go | apply ChkB.go | apply XArr.pim0 | apply XArr.pim1); conv => whnf) | (with_reducible apply XBr.not) | ((with_reducible apply XBr.dec) <;> (intro h; first | (exfalso; omega) | ((try simp only [List.length_map] at h); first | (exfalso; omega) | (conv => whnf)))) | ((with_reducible first | apply XBr.beq | apply XBr.bne) <;> (intro h; first | (exfalso; omega) | (conv => whnf))) | ((with_reducible refine XInt.i64 (by omega) (by omega) ?_); conv => whnf) | ((with_reducible refine XHold.mk ?_ ?_); (first | omega | rfl | decide | exact ⟨rfl, by decide, rfl⟩ | exact wideI _ | exact widePr _ | exact wideSk _ | (unfold Room; constructor <;> ((try simp) <;> omega)) | exact ⟨rfl, by simp only [List.length_map], by unfold Room; constructor <;> ((try simp) <;> omega)⟩ | exact ⟨by omega, by omega, by unfold Room; constructor <;> ((try simp) <;> omega)⟩); conv => whnf) | ((first | ((with_reducible refine XIx.nat ?_ ?_ ?_); omega; (intro _; rfl)) | ((with_reducible refine XIx.map ?_ ?_ ?_ ?_); omega; omega; (intro _; rfl))); conv => whnf) | (with_reducible apply XAnd.mk) | (exact XSame.mk rfl rfl) | (exact XSame.mk (by first | rfl | (simp only [List.map_append, List.length_append, List.length_map]; done) | (simp only [List.map_append, List.length_append, List.length_map]; rfl)) (by first | rfl | (simp only [List.map_append]; done) | (simp only [List.map_append]; rfl))) | (with_reducible exact trivial) | ((first | (with_reducible refine xdrop_app (by rw [List.length_map]; omega) ?_) | (with_reducible refine XDrop.desk (by assumption) ?_) | (with_reducible first | refine XArr.ints (by omega) (by omega) (by omega) ?_ | refine XArr.intsA (by omega) (by omega) (by omega) ?_) | ((with_reducible first | refine XArr.nats ?_ ?_ ?_ | refine XArr.natsA ?_ ?_ ?_ | refine XArr.ptr ?_ ?_ ?_); omega; omega)); conv => whnf) | ((with_reducible apply XBr.mk') <;> (intro h; conv => whnf))
        · conv => whnf
          repeat' first | ((with_reducible first | apply XBr.tt | apply XBr.ff | apply Chk.go | apply ChkA.go | apply ChkF.go | apply ChkB.go | apply XArr.pim0 | apply XArr.pim1); conv => whnf) | (with_reducible apply XBr.not) | ((with_reducible apply XBr.dec) <;> (intro h; first | (exfalso; omega) | ((try simp only [List.length_map] at h); first | (exfalso; omega) | (conv => whnf)))) | ((with_reducible first | apply XBr.beq | apply XBr.bne) <;> (intro h; first | (exfalso; omega) | (conv => whnf))) | ((with_reducible refine XInt.i64 (by omega) (by omega) ?_); conv => whnf) | ((with_reducible refine XHold.mk ?_ ?_); (first | omega | rfl | decide | exact ⟨rfl, by decide, rfl⟩ | exact wideI _ | exact widePr _ | exact wideSk _ | (unfold Room; constructor <;> ((try simp) <;> omega)) | exact ⟨rfl, by simp only [List.length_map], by unfold Room; constructor <;> ((try simp) <;> omega)⟩ | exact ⟨by omega, by omega, by unfold Room; constructor <;> ((try simp) <;> omega)⟩); conv => whnf) | ((first | ((with_reducible refine XIx.nat ?_ ?_ ?_); omega; (intro _; rfl)) | ((with_reducible refine XIx.map ?_ ?_ ?_ ?_); omega; omega; (intro _; rfl))); conv => whnf) | (with_reducible apply XAnd.mk) | (exact XSame.mk rfl rfl) | (exact XSame.mk (by first | rfl | (simp only [List.map_append, List.length_append, List.length_map]; done) | (simp only [List.map_append, List.length_append, List.length_map]; rfl)) (by first | rfl | (simp only [List.map_append]; done) | (simp only [List.map_append]; rfl))) | (with_reducible exact trivial) | ((first | (with_reducible refine xdrop_app (by rw [List.length_map]; omega) ?_) | (with_reducible refine XDrop.desk (by assumption) ?_) | (with_reducible first | refine XArr.ints (by omega) (by omega) (by omega) ?_ | refine XArr.intsA (by omega) (by omega) (by omega) ?_) | ((with_reducible first | refine XArr.nats ?_ ?_ ?_ | refine XArr.natsA ?_ ?_ ?_ | refine XArr.ptr ?_ ?_ ?_); omega; omega) | (refine XInt.w ?_)); conv => whnf) | ((with_reducible apply XBr.mk') <;> (intro h; conv => whnf))
          · exact pick_end (hpM_lt (by assumption)) (hpS_end h)
          · exact pick_end (hpM_lt (by assumption)) (hpS_on h)
    · skip
      apply Walk.drawX tab_ok mixed_ok [] [] (hsK _) [_, _, _, _, _, _, _, _, _, _] (by kernel_rfl) rfl
      · skip
        repeat' first | ((with_reducible first | apply XBr.tt | apply XBr.ff | apply Chk.go | apply ChkA.go | apply ChkF.go | apply ChkB.go | apply XArr.pim0 | apply XArr.pim1); conv => whnf) | (with_reducible apply XBr.not) | ((with_reducible apply XBr.dec) <;> (intro h; first | (exfalso; omega) | ((try simp only [List.length_map] at h); first | (exfalso; omega) | (conv => whnf)))) | ((with_reducible first | apply XBr.beq | apply XBr.bne) <;> (intro h; first | (exfalso; omega) | (conv => whnf))) | ((with_reducible refine XInt.i64 (by omega) (by omega) ?_); conv => whnf) | ((with_reducible refine XHold.mk ?_ ?_); (first | omega | rfl | decide | exact ⟨rfl, by decide, rfl⟩ | exact wideI _ | exact widePr _ | exact wideSk _ | (unfold Room; constructor <;> ((try simp) <;> omega)) | exact ⟨rfl, by simp only [List.length_map], by unfold Room; constructor <;> ((try simp) <;> omega)⟩ | exact ⟨by omega, by omega, by unfold Room; constructor <;> ((try simp) <;> omega)⟩); conv => whnf) | ((first | ((with_reducible refine XIx.nat ?_ ?_ ?_); omega; (intro _; rfl)) | ((with_reducible refine XIx.map ?_ ?_ ?_ ?_); omega; omega; (intro _; rfl))); conv => whnf) | (with_reducible apply XAnd.mk) | (exact XSame.mk rfl rfl) | (exact XSame.mk (by first | rfl | (simp only [List.map_append, List.length_append, List.length_map]; done) | (simp only [List.map_append, List.length_append, List.length_map]; rfl)) (by first | rfl | (simp only [List.map_append]; done) | (simp only [List.map_append]; rfl))) | (with_reducible exact trivial) | ((first | (with_reducible refine xdrop_app (by rw [List.length_map]; omega) ?_) | (with_reducible refine XDrop.desk (by assumption) ?_) | (with_reducible first | refine XArr.ints (by omega) (by omega) (by omega) ?_ | refine XArr.intsA (by omega) (by omega) (by omega) ?_) | ((with_reducible first | refine XArr.nats ?_ ?_ ?_ | refine XArr.natsA ?_ ?_ ?_ | refine XArr.ptr ?_ ?_ ?_); omega; omega)); conv => whnf) | ((with_reducible apply XBr.mk') <;> (intro h; conv => whnf))
      · skip
        repeat' first | ((with_reducible first | apply XBr.tt | apply XBr.ff | apply Chk.go | apply ChkA.go | apply ChkF.go | apply ChkB.go | apply XArr.pim0 | apply XArr.pim1); conv => whnf) | (with_reducible apply XBr.not) | ((with_reducible apply XBr.dec) <;> (intro h; first | (exfalso; omega) | ((try simp only [List.length_map] at h); first | (exfalso; omega) | (conv => whnf)))) | ((with_reducible first | apply XBr.beq | apply XBr.bne) <;> (intro h; first | (exfalso; omega) | (conv => whnf))) | ((with_reducible refine XInt.i64 (by omega) (by omega) ?_); conv => whnf) | ((with_reducible refine XHold.mk ?_ ?_); (first | omega | rfl | decide | exact ⟨rfl, by decide, rfl⟩ | exact wideI _ | exact widePr _ | exact wideSk _ | (unfold Room; constructor <;> ((try simp) <;> omega)) | exact ⟨rfl, by simp only [List.length_map], by unfold Room; constructor <;> ((try simp) <;> omega)⟩ | exact ⟨by omega, by omega, by unfold Room; constructor <;> ((try simp) <;> omega)⟩); conv => whnf) | ((first | ((with_reducible refine XIx.nat ?_ ?_ ?_); omega; (intro _; rfl)) | ((with_reducible refine XIx.map ?_ ?_ ?_ ?_); omega; omega; (intro _; rfl))); conv => whnf) | (with_reducible apply XAnd.mk) | (exact XSame.mk rfl rfl) | (exact XSame.mk (by first | rfl | (simp only [List.map_append, List.length_append, List.length_map]; done) | (simp only [List.map_append, List.length_append, List.length_map]; rfl)) (by first | rfl | (simp only [List.map_append]; done) | (simp only [List.map_append]; rfl))) | (with_reducible exact trivial) | ((first | (with_reducible refine xdrop_app (by rw [List.length_map]; omega) ?_) | (with_reducible refine XDrop.desk (by assumption) ?_) | (with_reducible first | refine XArr.ints (by omega) (by omega) (by omega) ?_ | refine XArr.intsA (by omega) (by omega) (by omega) ?_) | ((with_reducible first | refine XArr.nats ?_ ?_ ?_ | refine XArr.natsA ?_ ?_ ?_ | refine XArr.ptr ?_ ?_ ?_); omega; omega)); conv => whnf) | ((with_reducible apply XBr.mk') <;> (intro h; conv => whnf))
      · conv => whnf
        repeat' first | ((with_reducible first | apply XBr.tt | apply XBr.ff | apply Chk.go | apply ChkA.go | apply ChkF.go | apply ChkB.go | apply XArr.pim0 | apply XArr.pim1); conv => whnf) | (with_reducible apply XBr.not) | ((with_reducible apply XBr.dec) <;> (intro h; first | (exfalso; omega) | ((try simp only [List.length_map] at h); first | (exfalso; omega) | (conv => whnf)))) | ((with_reducible first | apply XBr.beq | apply XBr.bne) <;> (intro h; first | (exfalso; omega) | (conv => whnf))) | ((with_reducible refine XInt.i64 (by omega) (by omega) ?_); conv => whnf) | ((with_reducible refine XHold.mk ?_ ?_); (first | omega | rfl | decide | exact ⟨rfl, by decide, rfl⟩ | exact wideI _ | exact widePr _ | exact wideSk _ | (unfold Room; constructor <;> ((try simp) <;> omega)) | exact ⟨rfl, by simp only [List.length_map], by unfold Room; constructor <;> ((try simp) <;> omega)⟩ | exact ⟨by omega, by omega, by unfold Room; constructor <;> ((try simp) <;> omega)⟩); conv => whnf) | ((first | ((with_reducible refine XIx.nat ?_ ?_ ?_); omega; (intro _; rfl)) | ((with_reducible refine XIx.map ?_ ?_ ?_ ?_); omega; omega; (intro _; rfl))); conv => whnf) | (with_reducible apply XAnd.mk) | (exact XSame.mk rfl rfl) | (exact XSame.mk (by first | rfl | (simp only [List.map_append, List.length_append, List.length_map]; done) | (simp only [List.map_append, List.length_append, List.length_map]; rfl)) (by first | rfl | (simp only [List.map_append]; done) | (simp only [List.map_append]; rfl))) | (with_reducible exact trivial) | ((first | (with_reducible refine xdrop_app (by rw [List.length_map]; omega) ?_) | (with_reducible refine XDrop.desk (by assumption) ?_) | (with_reducible first | refine XArr.ints (by omega) (by omega) (by omega) ?_ | refine XArr.intsA (by omega) (by omega) (by omega) ?_) | ((with_reducible first | refine XArr.nats ?_ ?_ ?_ | refine XArr.natsA ?_ ?_ ?_ | refine XArr.ptr ?_ ?_ ?_); omega; omega) | (refine XInt.w ?_)); conv => whnf) | ((with_reducible apply XBr.mk') <;> (intro h; conv => whnf))
        · exact pick_end (hpM_ge (by assumption)) (hpS_end h)

def modV (h : Hp) (n : Int) : Int := (hpV h).tmod (max 1 (n + 1))
theorem modV_bound (h : Hp) (n : Int) : 0 ≤ modV h n ∧ modV h n ≤ max 0 n := by
  have hb := hpV_bound (hpM h)
  have h1 : 0 ≤ hpV h := hb.1
  unfold modV
  rw [Int.tmod_eq_emod_of_nonneg h1]
  have h2 := Int.emod_nonneg (hpV h) (show max 1 (n + 1) ≠ 0 by omega)
  have h3 := Int.emod_lt_of_pos (hpV h) (show 0 < max 1 (n + 1) by omega)
  omega
theorem hp_end {u u' : Hp} {r : AV} (hr : r.low 1 = true) : XCut [hpC u].length [] [hpC u'] r fun r' H' => r' = r ∧ H' = [hpC u'] :=
  XCut.mk' [hpC u'] [] rfl rfl (fun x hx => by simp only [List.mem_cons, List.not_mem_nil, or_false] at hx; subst hx; exact hpC_low _) hr ⟨rfl, rfl⟩
theorem upto_c (u : Hp) (n : Int) (o : u.Ok) (h1 : -100000 ≤ n) (h2 : n ≤ 100000) : HpOk 23 [.int .i64 n] u (.int .i64 (modV u n)) (hpS u) := by
  refine ⟨rfl, ?_⟩
  refine ACall.bodyK (T := tab) (res := [.tmp 4]) tab_ok [] Try.func23 rfl (by kernel_rfl) Try.ntmps23 rfl (by simp only [List.length_cons, List.length_nil]; decide) ?_; conv => whnf
  refine XCall.hp (j := 0) (pick_c u o) rfl rfl ?_
  conv => whnf
  repeat' first | ((with_reducible first | apply XBr.tt | apply XBr.ff | apply Chk.go | apply ChkA.go | apply ChkF.go | apply ChkB.go | apply XArr.pim0 | apply XArr.pim1); conv => whnf) | (with_reducible apply XBr.not) | ((with_reducible apply XBr.dec) <;> (intro h; first | (exfalso; omega) | ((try simp only [List.length_map] at h); first | (exfalso; omega) | (conv => whnf)))) | ((with_reducible first | apply XBr.beq | apply XBr.bne) <;> (intro h; first | (exfalso; omega) | (conv => whnf))) | ((with_reducible refine XInt.i64 (by omega) (by omega) ?_); conv => whnf) | ((with_reducible refine XHold.mk ?_ ?_); (first | omega | rfl | decide | exact ⟨rfl, by decide, rfl⟩ | exact wideI _ | exact widePr _ | exact wideSk _ | (unfold Room; constructor <;> ((try simp) <;> omega)) | exact ⟨rfl, by simp only [List.length_map], by unfold Room; constructor <;> ((try simp) <;> omega)⟩ | exact ⟨by omega, by omega, by unfold Room; constructor <;> ((try simp) <;> omega)⟩); conv => whnf) | ((first | ((with_reducible refine XIx.nat ?_ ?_ ?_); omega; (intro _; rfl)) | ((with_reducible refine XIx.map ?_ ?_ ?_ ?_); omega; omega; (intro _; rfl))); conv => whnf) | (with_reducible apply XAnd.mk) | (exact XSame.mk rfl rfl) | (exact XSame.mk (by first | rfl | (simp only [List.map_append, List.length_append, List.length_map]; done) | (simp only [List.map_append, List.length_append, List.length_map]; rfl)) (by first | rfl | (simp only [List.map_append]; done) | (simp only [List.map_append]; rfl))) | (with_reducible exact trivial) | ((first | (with_reducible refine xdrop_app (by rw [List.length_map]; omega) ?_) | (with_reducible refine XDrop.desk (by assumption) ?_) | (with_reducible first | refine XArr.ints (by omega) (by omega) (by omega) ?_ | refine XArr.intsA (by omega) (by omega) (by omega) ?_) | ((with_reducible first | refine XArr.nats ?_ ?_ ?_ | refine XArr.natsA ?_ ?_ ?_ | refine XArr.ptr ?_ ?_ ?_); omega; omega)); conv => whnf) | ((with_reducible apply XBr.mk') <;> (intro h; conv => whnf))
  exact hp_end rfl
theorem from_c (u : Hp) (lo hi : Int) (o : u.Ok) (h1 : -10000 ≤ lo) (h2 : lo ≤ 10000) (h3 : -10000 ≤ hi) (h4 : hi ≤ 10000) : HpOk 22 [.int .i64 lo, .int .i64 hi] u (.int .i64 (lo + modV u (hi - lo))) (hpS u) := by
  have hb := modV_bound u (hi - lo)
  refine ⟨rfl, ?_⟩
  refine ACall.bodyK (T := tab) (res := [.tmp 6]) tab_ok [] Try.func22 rfl (by kernel_rfl) Try.ntmps22 rfl (by simp only [List.length_cons, List.length_nil]; decide) ?_; conv => whnf
  repeat' first | ((with_reducible first | apply XBr.tt | apply XBr.ff | apply Chk.go | apply ChkA.go | apply ChkF.go | apply ChkB.go | apply XArr.pim0 | apply XArr.pim1); conv => whnf) | (with_reducible apply XBr.not) | ((with_reducible apply XBr.dec) <;> (intro h; first | (exfalso; omega) | ((try simp only [List.length_map] at h); first | (exfalso; omega) | (conv => whnf)))) | ((with_reducible first | apply XBr.beq | apply XBr.bne) <;> (intro h; first | (exfalso; omega) | (conv => whnf))) | ((with_reducible refine XInt.i64 (by omega) (by omega) ?_); conv => whnf) | ((with_reducible refine XHold.mk ?_ ?_); (first | omega | rfl | decide | exact ⟨rfl, by decide, rfl⟩ | exact wideI _ | exact widePr _ | exact wideSk _ | (unfold Room; constructor <;> ((try simp) <;> omega)) | exact ⟨rfl, by simp only [List.length_map], by unfold Room; constructor <;> ((try simp) <;> omega)⟩ | exact ⟨by omega, by omega, by unfold Room; constructor <;> ((try simp) <;> omega)⟩); conv => whnf) | ((first | ((with_reducible refine XIx.nat ?_ ?_ ?_); omega; (intro _; rfl)) | ((with_reducible refine XIx.map ?_ ?_ ?_ ?_); omega; omega; (intro _; rfl))); conv => whnf) | (with_reducible apply XAnd.mk) | (exact XSame.mk rfl rfl) | (exact XSame.mk (by first | rfl | (simp only [List.map_append, List.length_append, List.length_map]; done) | (simp only [List.map_append, List.length_append, List.length_map]; rfl)) (by first | rfl | (simp only [List.map_append]; done) | (simp only [List.map_append]; rfl))) | (with_reducible exact trivial) | ((first | (with_reducible refine xdrop_app (by rw [List.length_map]; omega) ?_) | (with_reducible refine XDrop.desk (by assumption) ?_) | (with_reducible first | refine XArr.ints (by omega) (by omega) (by omega) ?_ | refine XArr.intsA (by omega) (by omega) (by omega) ?_) | ((with_reducible first | refine XArr.nats ?_ ?_ ?_ | refine XArr.natsA ?_ ?_ ?_ | refine XArr.ptr ?_ ?_ ?_); omega; omega) | (refine XCall.hp (j := 0) (upto_c u (hi - lo) o (by omega) (by omega)) rfl rfl ?_)); conv => whnf) | ((with_reducible apply XBr.mk') <;> (intro h; conv => whnf))
  exact hp_end rfl
end GA
end

section
namespace GA
open Go Go.RowKit Go.Proofs
set_option pp.deepTerms true
set_option maxRecDepth 8000
set_option linter.unusedVariables false
set_option linter.unusedSimpArgs false

structure Prs where
  ap : List (Int × Int)
  wt : List (Int × Int)
  u : Hp
theorem isEmpty_app {α : Type} (l : List α) (x : α) : (l ++ [x]).isEmpty = (l.isEmpty && false) := by cases l <;> rfl
end GA
end

section
namespace GA
open Go Go.RowKit Go.Proofs
set_option pp.deepTerms true
set_option maxRecDepth 8000
set_option linter.unusedVariables false
set_option linter.unusedSimpArgs false

def hp0 (nl : Bool) (bs : List Int) : Hp := ⟨nl, bs, 0, 0⟩
theorem hp0_ok {nl : Bool} {bs : List Int} (h : bs.length < 9223372036854775808) : (hp0 nl bs).Ok := ⟨h, .inr rfl⟩
end GA
end

section
namespace GA
open Go Go.RowKit Go.ChangeShapes Go.WideShapes Go.ChangeAt Go.Proofs Go.Proofs.Ytlbdomhfcghjdaa
set_option linter.unusedVariables false
set_option linter.unusedSimpArgs false

section
variable {P : Program} {w : World} {r : Reach} {base : Nat} {t : TypeId} {v : Value}
theorem okWide_len {e : TypeId} (ht : P.underlying t = some (.slice e)) (h : Value.okWide P w r base t v) : ∃ a len cap, v = .slice a len cap ∧ len < 9223372036854775808 := by
  simp only [Value.okWide, ht, Cell.okWide] at h
  cases v with
  | slice a len cap =>
    refine ⟨a, len, cap, rfl, ?_⟩
    cases a with
    | none =>
      cases len with
      | zero => omega
      | succ n => simp [Cell.ok, ht] at h
    | some a =>
      simp only [Cell.ok, ht] at h
      have h1 : IntKind.i64.max = 9223372036854775807 := by decide
      omega
  | _ => simp_all [Cell.ok]
theorem okWide_has {k : IntKind} (ht : P.underlying t = some (.int k)) (h : Value.okWide P w r base t v) : ∃ n, v = .int k n ∧ k.min ≤ n ∧ n ≤ k.max := by
  obtain ⟨n, rfl⟩ := okWide_int ht h
  refine ⟨n, rfl, ?_⟩
  simp only [Value.okWide, ht, Cell.okWide] at h
  simp only [Cell.ok, ht, IntKind.has] at h
  exact h.2
end
theorem rep_len {P : Program} {h : Nat → Option Obj} {β : Nat → Value} {H : List Blk} {nl : Bool} {els : List AV} {a : Option Addr} {len cap : Nat} (x : Rep P h β H (.sl nl els) (.slice a len cap)) : els.length = len := by
  cases x with
  | slnil => rfl
  | slemp => rfl
  | sl us h1 => exact h1.symm
theorem ownK : ownKnob Try.prog.godebug = none := by kernel_rfl
theorem oByte : Opens Try.prog 5 1 (fun a : {n : Int // IntKind.u8.min ≤ n ∧ n ≤ IntKind.u8.max} => [AV.int .u8 a.1]) := .int (by kernel_rfl) (by kernel_rfl)
theorem oBytes : Opens Try.prog 22 1 (fun p : Bool × List Int => [AV.sl p.1 (bytes p.2)]) :=
  (Opens.slice (t := 22) (by kernel_rfl) (by kernel_rfl) oByte (by decide) (fun a => .int .u8 a.1) (fun _ => rfl)).as (fun p => ⟨(p.1.1, p.1.2.map (·.1)), by simp [bytes]⟩) (fun _ => rfl)
end GA
end

section
namespace GA
open Go Go.RowKit Go.Proofs
set_option maxRecDepth 8000
set_option linter.unusedVariables false
set_option linter.unusedSimpArgs false

theorem bit_ext {a b : Nat} (h : ∀ i, a.testBit i = b.testBit i) : a = b := Nat.eq_of_testBit_eq h
theorem Sub.refl (a : Nat) : Sub a a := fun _ h => h
theorem Sub.trans {a b c : Nat} (h : Sub a b) (k : Sub b c) : Sub a c := fun i x => k i (h i x)
theorem sub_half {a m : Nat} (h : Sub a m) : Sub (a / 2) (m / 2) := fun i x => by
  have := h (i + 1) (by rw [Nat.testBit_succ]; exact x)
  rwa [Nat.testBit_succ] at this
theorem sub_odd {a m : Nat} (h : Sub a m) : a % 2 ≤ m % 2 := by
  have := h 0
  simp only [Nat.testBit_zero, decide_eq_true_eq] at this
  omega
theorem sub_diff (s c : Nat) : Sub (diff s c) s := fun i h => by rw [diff_bit, Bool.and_eq_true] at h; exact h.1
theorem sub_pow {i c : Nat} : Sub (2 ^ i) c ↔ c.testBit i = true := by
  constructor
  · intro h; exact h i (by rw [Nat.testBit_two_pow_self])
  · intro h j hj; rw [Nat.testBit_two_pow, decide_eq_true_eq] at hj; subst hj; exact h
inductive Pk (R : Nat → Bool) : Nat → Nat → Prop
  | nil : Pk R 0 0
  | cons {n set : Nat} (c : Nat) (hr : R c = true) (hs : Sub c set) (h0 : c ≠ 0) (t : Pk R n (diff set c)) : Pk R (n + 1) set
theorem diff_diff (s a b : Nat) : diff (diff s a) b = diff (diff s b) a := bit_ext fun i => by
  simp only [diff_bit]; cases s.testBit i <;> cases a.testBit i <;> cases b.testBit i <;> rfl
theorem Pk.first {R : Nat → Bool} {n set i : Nat} (h : Pk R n set) (hi : set.testBit i = true) : ∃ c k, n = k + 1 ∧ R c = true ∧ Sub c set ∧ c.testBit i = true ∧ Pk R k (diff set c) := by
  induction h with
  | nil => rw [Nat.zero_testBit] at hi; cases hi
  | @cons n set c hr hs h0 t ih =>
    cases hc : c.testBit i
    · obtain ⟨c', k, h1, h2, h3, h4, h5⟩ := ih (by rw [diff_bit, hi, hc]; rfl)
      subst h1
      refine ⟨c', k + 1, rfl, h2, h3.trans (sub_diff _ _), h4, .cons c hr (fun j hj => ?_) h0 (by rw [diff_diff]; exact h5)⟩
      rw [diff_bit, hs j hj]
      cases hc' : c'.testBit j
      · rfl
      · have := h3 j hc'; rw [diff_bit, hj, Bool.not_true, Bool.and_false] at this; cases this
    · exact ⟨c, n, rfl, hr, hs, hc, t⟩
theorem Pk.zero {R : Nat → Bool} {n : Nat} (h : Pk R n 0) : n = 0 := by
  cases h with
  | nil => rfl
  | cons c hr hs h0 t => exact absurd (Nat.le_zero.1 hs.le) h0
theorem Pk.none {R : Nat → Bool} {set : Nat} (h : Pk R 0 set) : set = 0 := by cases h; rfl
theorem Pk.mono {R R' : Nat → Bool} {n set : Nat} (h : Pk R n set) (hR : ∀ c, Sub c set → R c = true → R' c = true) : Pk R' n set := by
  induction h with
  | nil => exact .nil
  | cons c hr hs h0 t ih => exact .cons c (hR c hs hr) hs h0 (ih fun c' hc' => hR c' (hc'.trans (sub_diff _ _)))
structure IsOpt (R : Nat → Bool) (set v : Nat) : Prop where
  le : v ≤ 10
  lo : ∀ n, Pk R n set → v ≤ n
  is : v < 10 → Pk R v set
theorem IsOpt.eq {R : Nat → Bool} {set v v' : Nat} (h : IsOpt R set v) (h' : IsOpt R set v') : v = v' := by
  rcases Nat.lt_trichotomy v v' with hl | hl | hl
  · have := h'.lo v (h.is (by have := h'.le; omega)); omega
  · exact hl
  · have := h.lo v' (h'.is (by have := h.le; omega)); omega
end GA
end

section
namespace GA
open Go Go.RowKit Go.Proofs
set_option maxRecDepth 8000
set_option linter.unusedVariables false
set_option linter.unusedSimpArgs false

def allP (b : List Nat) (p : Int × Int) : Nat := b.getD p.1.toNat 0 ||| b.getD p.2.toNat 0
theorem joinStep_get (b : List Nat) (p : Int × Int) {i : Nat} (hi : i < b.length) : (joinStep b p).getD i 0 = if (allP b p).testBit i = true then b.getD i 0 ||| allP b p else b.getD i 0 := by
  have e : (allP b p).testBit i = decide ((b.getD p.1.toNat 0 ||| b.getD p.2.toNat 0) / 2 ^ i % 2 = 1) := Nat.testBit_eq_decide_div_mod_eq
  rw [e]
  unfold joinStep allP
  simp only [List.getD_eq_getElem?_getD, List.getElem?_mapIdx, List.getElem?_eq_getElem hi, Option.map_some, Option.getD_some, decide_eq_true_eq]
theorem joinStep_none (b : List Nat) (p : Int × Int) {i : Nat} (hi : ¬ i < b.length) : (joinStep b p).getD i 0 = 0 := by
  rw [List.getD_eq_getElem?_getD, List.getElem?_eq_none (by rw [joinStep_len]; omega)]; rfl
theorem joinStep_sub (b : List Nat) (p : Int × Int) (i : Nat) : Sub (b.getD i 0) ((joinStep b p).getD i 0) := by
  by_cases hi : i < b.length
  · rw [joinStep_get b p hi]; split
    · intro j hj; rw [Nat.testBit_or, hj]; rfl
    · exact Sub.refl _
  · rw [List.getD_eq_getElem?_getD, List.getElem?_eq_none (by omega)]; exact Sub.zero _
theorem foldl_sub : ∀ (ps : List (Int × Int)) (b : List Nat) (i : Nat), Sub (b.getD i 0) ((ps.foldl joinStep b).getD i 0)
  | [], _, _ => Sub.refl _
  | p :: ps, b, i => by rw [List.foldl_cons]; exact (joinStep_sub b p i).trans (foldl_sub ps _ i)
theorem closeF_sub (l : Ld) : ∀ (n : Nat) (b : List Nat) (i : Nat), Sub (b.getD i 0) ((closeF l n b).getD i 0)
  | 0, _, _ => Sub.refl _
  | n + 1, b, i => by
    show Sub _ ((if joinR l b = b then b else closeF l n (joinR l b)).getD i 0)
    split
    · exact Sub.refl _
    · exact (foldl_sub _ b i).trans (closeF_sub l n _ i)
theorem closeF_fix (l : Ld) : ∀ (n : Nat) (b : List Nat), msr b < n → (∀ i, b.getD i 0 < 512) → joinR l (closeF l n b) = closeF l n b
  | 0, _, h, _ => absurd h (Nat.not_lt_zero _)
  | n + 1, b, h, hs => by
    show joinR l (if joinR l b = b then b else closeF l n (joinR l b)) = if joinR l b = b then b else closeF l n (joinR l b)
    split
    · assumption
    · rename_i hne
      have := msr_lt b (joinR l b) (joinR_len l b).symm (joinR_ge l b) (joinR_small l b hs) (Ne.symm hne)
      exact closeF_fix l n _ (by omega) (joinR_small l b hs)
theorem foldl_fix : ∀ (ps : List (Int × Int)) (b : List Nat), ps.foldl joinStep b = b → ∀ p ∈ ps, joinStep b p = b
  | [], _, _, _, h => by simp at h
  | q :: ps, b, h, p, hp => by
    rw [List.foldl_cons] at h
    have hq : joinStep b q = b := by
      refine eq_of_getD (d := 0) (joinStep_len b q) fun j _ => ?_
      have h1 := joinStep_ge b q j
      have h2 := foldl_ge ps (joinStep b q) j
      rw [h] at h2; omega
    rcases List.mem_cons.1 hp with rfl | hp
    · exact hq
    · rw [hq] at h; exact foldl_fix ps b h p hp
def Cl (l : Ld) (c : Nat) : Prop := ∀ p ∈ l.wth, c.testBit p.1.toNat = c.testBit p.2.toNat
def Inv (c : Nat) (b : List Nat) : Prop := ∀ i, (c.testBit i = true → Sub (b.getD i 0) c) ∧ (c.testBit i = false → ∀ j, (b.getD i 0).testBit j = true → c.testBit j = false)
theorem Inv.step {c : Nat} {b : List Nat} {p : Int × Int} (h : Inv c b) (hp : c.testBit p.1.toNat = c.testBit p.2.toNat) : Inv c (joinStep b p) := by
  intro i
  by_cases hi : i < b.length
  · rw [joinStep_get b p hi]
    split
    · rename_i ha
      unfold allP at ha ⊢
      cases h1 : c.testBit p.1.toNat
      · have k1 := (h p.1.toNat).2 h1
        have k2 := (h p.2.toNat).2 (hp ▸ h1)
        have hci : c.testBit i = false := by
          rw [Nat.testBit_or, Bool.or_eq_true] at ha
          exact ha.elim (k1 i) (k2 i)
        refine ⟨fun e => (by rw [hci] at e; cases e), fun _ j hj => ?_⟩
        rw [Nat.testBit_or, Nat.testBit_or, Bool.or_eq_true, Bool.or_eq_true] at hj
        rcases hj with hj | hj | hj
        · exact (h i).2 hci j hj
        · exact k1 j hj
        · exact k2 j hj
      · have k1 := (h p.1.toNat).1 h1
        have k2 := (h p.2.toNat).1 (hp ▸ h1)
        have hci : c.testBit i = true := by
          rw [Nat.testBit_or, Bool.or_eq_true] at ha
          exact ha.elim (k1 i) (k2 i)
        refine ⟨fun _ j hj => ?_, fun e => (by rw [hci] at e; cases e)⟩
        rw [Nat.testBit_or, Nat.testBit_or, Bool.or_eq_true, Bool.or_eq_true] at hj
        rcases hj with hj | hj | hj
        · exact (h i).1 hci j hj
        · exact k1 j hj
        · exact k2 j hj
    · exact h i
  · rw [joinStep_none b p hi]
    exact ⟨fun _ => Sub.zero _, fun _ j hj => by rw [Nat.zero_testBit] at hj; cases hj⟩
theorem Inv.fold {c : Nat} : ∀ (ps : List (Int × Int)) (b : List Nat), (∀ p ∈ ps, c.testBit p.1.toNat = c.testBit p.2.toNat) → Inv c b → Inv c (ps.foldl joinStep b)
  | [], _, _, h => h
  | p :: ps, b, hp, h => by rw [List.foldl_cons]; exact Inv.fold ps _ (fun q hq => hp q (List.mem_cons_of_mem _ hq)) (h.step (hp p List.mem_cons_self))
theorem Inv.close {l : Ld} {c : Nat} (hc : Cl l c) : ∀ (n : Nat) (b : List Nat), Inv c b → Inv c (closeF l n b)
  | 0, _, h => h
  | n + 1, b, h => by
    show Inv c (if joinR l b = b then b else closeF l n (joinR l b))
    split
    · exact h
    · exact Inv.close hc n _ (Inv.fold _ _ hc h)
theorem ndI_get {n i : Nat} (hi : i < 9) : (ndI n).getD i 0 = if i < n then 2 ^ i else 0 := by
  unfold ndI; rw [List.getD_eq_getElem?_getD, List.getElem?_map, List.getElem?_range hi]; rfl
theorem Inv.zero (c n : Nat) : Inv c (ndI n) := by
  intro i
  by_cases hi : i < 9
  · rw [ndI_get hi]
    split
    · refine ⟨fun h => sub_pow.2 h, fun h j hj => ?_⟩
      rw [Nat.testBit_two_pow, decide_eq_true_eq] at hj; subst hj; exact h
    · exact ⟨fun _ => Sub.zero _, fun _ j hj => by rw [Nat.zero_testBit] at hj; cases hj⟩
  · rw [List.getD_eq_getElem?_getD, List.getElem?_eq_none (by rw [ndI_len]; omega)]
    exact ⟨fun _ => Sub.zero _, fun _ j hj => by rw [Option.getD_none, Nat.zero_testBit] at hj; cases hj⟩
theorem nd_self {l : Ld} (o : LdOk l) {i : Nat} (hi : i < l.sacks.length) : ((openD l).nd.getD i 0).testBit i = true := by
  refine closeF_sub l 5000 (ndI l.sacks.length) i i ?_
  rw [ndI_get (by have := o.n; omega), if_pos hi, Nat.testBit_two_pow_self]
theorem nd_least {l : Ld} {c : Nat} (hc : Cl l c) {i : Nat} (hi : c.testBit i = true) : Sub ((openD l).nd.getD i 0) c :=
  (Inv.close hc 5000 _ (Inv.zero c _) i).1 hi
theorem nd_fix {l : Ld} (o : LdOk l) : ∀ p ∈ l.wth, joinStep (openD l).nd p = (openD l).nd :=
  foldl_fix _ _ (closeF_fix l 5000 _ (by have := msr_le (ndI l.sacks.length) (ndI_len _); omega) (ndI_small _))
theorem nd_len {l : Ld} : (openD l).nd.length = 9 := by show (closeF l 5000 _).length = 9; rw [closeF_len, ndI_len]
structure RightP (l : Ld) (c : Nat) : Prop where
  w : (sumW (wts l) c : Int) ≤ l.bears
  wp : Cl l c
  ap : ∀ p ∈ l.apart, ¬ (c.testBit p.1.toNat = true ∧ c.testBit p.2.toNat = true)
end GA
end

section
namespace GA
open Go Go.RowKit Go.Proofs
set_option maxRecDepth 8000
set_option linter.unusedVariables false
set_option linter.unusedSimpArgs false

theorem diff_half (a b : Nat) : diff a b / 2 = diff (a / 2) (b / 2) := bit_ext fun i => by
  rw [← Nat.testBit_succ, diff_bit, diff_bit, Nat.testBit_succ, Nat.testBit_succ]
theorem diff_odd {a b : Nat} (h : Sub b a) : diff a b % 2 + b % 2 = a % 2 := by
  have e := diff_bit a b 0
  have hs := sub_odd h
  simp only [Nat.testBit_zero] at e
  rcases Nat.mod_two_eq_zero_or_one a with ha | ha <;> rcases Nat.mod_two_eq_zero_or_one b with hb | hb <;> rcases Nat.mod_two_eq_zero_or_one (diff a b) with hc | hc <;> simp [ha, hb, hc] at e hs ⊢
theorem sumW_split : ∀ (ws : List Nat) (s c : Nat), Sub c s → sumW ws (diff s c) + sumW ws c = sumW ws s
  | [], _, _, _ => rfl
  | w :: ws, s, c, h => by
    have ih := sumW_split ws (s / 2) (c / 2) (sub_half h)
    have ho := diff_odd h
    unfold sumW
    rw [diff_half]
    rcases Nat.mod_two_eq_zero_or_one s with ha | ha <;> rcases Nat.mod_two_eq_zero_or_one c with hb | hb <;> rcases Nat.mod_two_eq_zero_or_one (diff s c) with hc | hc <;> simp only [ha, hb, hc] at ho ⊢ <;> simp <;> omega
theorem Pk.sum {R : Nat → Bool} {n set : Nat} (h : Pk R n set) (ws : List Nat) (k : Nat) (hR : ∀ c, Sub c set → R c = true → sumW ws c ≤ k) : sumW ws set ≤ n * k := by
  induction h with
  | nil => rw [sumW_zero]; exact Nat.zero_le _
  | @cons n set c hr hs h0 t ih =>
    have h1 := ih fun c' hc' => hR c' (hc'.trans (sub_diff _ _))
    have h2 := hR c hs hr
    have h3 := sumW_split ws set c hs
    rw [Nat.succ_mul]; omega
theorem ones_pos : ∀ (k c : Nat), c ≠ 0 → c < 2 ^ k → 1 ≤ sumW (List.replicate k 1) c
  | 0, c, h0, h => absurd (by simpa using h) h0
  | k + 1, c, h0, h => by
    show 1 ≤ sumW (1 :: List.replicate k 1) c
    unfold sumW
    rcases Nat.mod_two_eq_zero_or_one c with hc | hc
    · have := ones_pos k (c / 2) (by omega) (by rw [Nat.pow_succ] at h; omega)
      omega
    · rw [if_pos hc]; omega
theorem Pk.count {R : Nat → Bool} {n set k : Nat} (h : Pk R n set) (hs : set < 2 ^ k) : n ≤ sumW (List.replicate k 1) set := by
  induction h with
  | nil => exact Nat.zero_le _
  | @cons n set c hr hsb h0 t ih =>
    have h1 := ih (Nat.lt_of_le_of_lt (diff_le _ _) hs)
    have h2 := ones_pos k c h0 (Nat.lt_of_le_of_lt hsb.le hs)
    have h3 := sumW_split (List.replicate k 1) set c hsb
    omega
theorem ones_le (k set : Nat) : sumW (List.replicate k 1) set ≤ k := by
  induction k generalizing set with
  | zero => exact Nat.zero_le _
  | succ k ih =>
    show sumW (1 :: List.replicate k 1) set ≤ _
    have := ih (set / 2)
    unfold sumW; split <;> omega
theorem Pk.len {R : Nat → Bool} {n k : Nat} (h : Pk R n (2 ^ k - 1)) : n ≤ k := by
  have hp := Nat.two_pow_pos k
  have := h.count (k := k) (by omega)
  have := ones_le k (2 ^ k - 1)
  omega
theorem Pk.tail {R R' : Nat → Bool} (hR : ∀ c, R c = true → R' (c / 2) = true) {n set : Nat} (h : Pk R n set) : ∃ k, k ≤ n ∧ Pk R' k (set / 2) := by
  induction h with
  | nil => exact ⟨0, Nat.le_refl _, .nil⟩
  | @cons n set c hr hs h0 t ih =>
    obtain ⟨k, hk, hp⟩ := ih
    rw [diff_half] at hp
    by_cases hc : c / 2 = 0
    · refine ⟨k, by omega, ?_⟩
      have e : diff (set / 2) (c / 2) = set / 2 := by
        rw [hc]; exact bit_ext fun i => by rw [diff_bit, Nat.zero_testBit]; cases (set / 2).testBit i <;> rfl
      rwa [e] at hp
    · exact ⟨k + 1, by omega, .cons (c / 2) (hR c hr) (sub_half hs) hc hp⟩
theorem RightP.free {l : Ld} (ha : l.apart = []) (hw : l.wth = []) {c : Nat} : RightP l c ↔ (sumW (wts l) c : Int) ≤ l.bears :=
  ⟨fun h => h.w, fun h => ⟨h, fun p hp => by rw [hw] at hp; simp at hp, fun p hp => by rw [ha] at hp; simp at hp⟩⟩
end GA
end

section
namespace GA
open Go Go.RowKit Go.Proofs
set_option maxRecDepth 8000
set_option linter.unusedVariables false
set_option linter.unusedSimpArgs false

theorem XPut.ints {els : List AV} {n e : Nat} {k : List AV → Prop} (xs : List Int) (x : Int) (hE : els = GA.ints xs) (h1 : n = xs.length) (h2 : e < n) (h : k (GA.ints (xs.set e x))) : XPut els n e (.int .i64 x) k := by
  subst hE; exact XPut.map (f := .int .i64) x rfl h1 h2 h
theorem dup_g (nl : Bool) (xs : List Int) (hx : xs.length ≤ 100000) : Gives Try.prog 26 [.sl nl (ints xs)] (.gr 0 xs.length) [.grow 3 false (ints xs)] := by
  refine Gives.body (T := tab) (res := [.tmp 2]) tab_ok [] Try.func26 rfl (by kernel_rfl) Try.ntmps26 rfl (by simp only [List.length_cons, List.length_nil]; decide) (by simp only [lowL, AV.low, lowI]; rfl) rfl (fun x hx => by simp only [List.mem_cons, List.not_mem_nil, or_false] at hx; subst hx; exact lowI _) ?_; conv => whnf
  refine XHold.mk ⟨by omega, by simp, by unfold Room; simp; omega⟩ ?_
  conv => whnf
  refine XHold.mk (wideI xs) ?_
  conv => whnf
  refine XHold.mk ⟨rfl, rfl, by unfold Room; simp; omega⟩ ?_
  conv => whnf
  exact XGive.mk' [0] rfl (by decide) ⟨congrArg some (ren_grow _ _ _ _).symm, trivial⟩ (by show AV.gr 0 _ = AV.gr 0 _; congr 1; show 0 + (ints xs).length = _; rw [List.length_map, Nat.zero_add])
end GA
end

section
namespace GA
open Go Go.RowKit
set_option linter.unusedVariables false

section
variable {P : Program} {T : Tab} {N : Nat} {ρ : Option Nat} {H : List Blk} {σ : St} {D : List Nat}
theorem Walk.place {c : Code} {Q : Post} (x : Walk P N ρ c Q D σ (H ++ [.free])) : Walk P N ρ c Q D σ H := by
  constructor
  intro E h β a w s
  obtain ⟨s', X⟩ := s.sr.push (w' := w) s.sr.env (fun _ _ => rfl) (.pointer none) .free (by intro b hb; simp [anchor] at hb) (fun _ => trivial)
  exact wpIn_mono (x.o E h _ a w ⟨s', fun u r e => let ⟨v, h1, h2⟩ := s.fits u r e; ⟨v, h1, X.rep h2⟩, s.size, s.df.ext X⟩) fun _ _ _ => Conc.ext X
theorem XFree.at {H : List Blk} {b : Blk} {k : Nat → List Blk → Prop} (i : Nat) (h1 : lget H i = some .free) (h2 : hset H i b fun H' => k i H') : XFree H b k := ⟨i, h1, h2⟩
end
end GA
end

section
namespace GA
open Go Go.RowKit Go.Proofs
set_option pp.deepTerms true
set_option maxRecDepth 8000
set_option linter.unusedVariables false
set_option linter.unusedSimpArgs false

theorem XArr.gp {i m' e o : Nat} {n : Int} {m w : Nat} {k : AV → Prop} (h1 : 0 ≤ n) (h2 : n < m) (h : k (.gp i m' e (o + n.toNat * w))) : XArr (.gp i m' e o) n m w k := ⟨h1, h2, h⟩
end GA
end

section
namespace GA
open Go Go.RowKit Go.Proofs
set_option maxRecDepth 8000
set_option linter.unusedVariables false
set_option linter.unusedSimpArgs false

structure Eqv (n : Nat) (b : List Nat) : Prop where
  self : ∀ i, i < n → (b.getD i 0).testBit i = true
  same : ∀ i j, (b.getD j 0).testBit i = true → b.getD i 0 = b.getD j 0
  lt : ∀ i j, (b.getD j 0).testBit i = true → i < n ∧ j < n
theorem Eqv.zero {n : Nat} (hn : n ≤ 9) : Eqv n (ndI n) := by
  have g : ∀ i j, ((ndI n).getD j 0).testBit i = true → i = j ∧ j < n := by
    intro i j h
    by_cases hj : j < 9
    · rw [ndI_get hj] at h
      split at h
      · rw [Nat.testBit_two_pow, decide_eq_true_eq] at h; exact ⟨h.symm, by assumption⟩
      · rw [Nat.zero_testBit] at h; cases h
    · rw [List.getD_eq_getElem?_getD, List.getElem?_eq_none (by rw [ndI_len]; omega), Option.getD_none, Nat.zero_testBit] at h; cases h
  refine ⟨fun i hi => ?_, fun i j h => by rw [(g i j h).1], fun i j h => ?_⟩
  · rw [ndI_get (by omega), if_pos hi, Nat.testBit_two_pow_self]
  · have := g i j h; omega
theorem Eqv.step {n : Nat} {b : List Nat} {p : Int × Int} (h : Eqv n b) (hn : n ≤ 9) (hb : b.length = 9) (h1 : p.1.toNat < n) (h2 : p.2.toNat < n) : Eqv n (joinStep b p) := by
  have ain : ∀ x, (allP b p).testBit x = true → (b.getD p.1.toNat 0).testBit x = true ∨ (b.getD p.2.toNat 0).testBit x = true := fun x hx => by
    unfold allP at hx; rw [Nat.testBit_or, Bool.or_eq_true] at hx; exact hx
  have sub : ∀ x, (allP b p).testBit x = true → Sub (b.getD x 0) (allP b p) := by
    intro x hx y hy
    unfold allP; rw [Nat.testBit_or, Bool.or_eq_true]
    rcases ain x hx with hx | hx
    · rw [h.same _ _ hx] at hy; exact .inl hy
    · rw [h.same _ _ hx] at hy; exact .inr hy
  have alt : ∀ x, (allP b p).testBit x = true → x < n := fun x hx => (ain x hx).elim (fun e => (h.lt _ _ e).1) (fun e => (h.lt _ _ e).1)
  have yes : ∀ x, (allP b p).testBit x = true → (joinStep b p).getD x 0 = allP b p := by
    intro x hx
    have := alt x hx
    rw [joinStep_get b p (by omega), if_pos hx]
    apply bit_ext; intro i; rw [Nat.testBit_or]
    cases hi : (b.getD x 0).testBit i
    · rfl
    · rw [sub x hx i hi]; rfl
  have no : ∀ x, x < 9 → (allP b p).testBit x = false → (joinStep b p).getD x 0 = b.getD x 0 := fun x hx ha => by
    rw [joinStep_get b p (by omega), if_neg (by rw [ha]; simp)]
  have big : ∀ x, ¬ x < 9 → (joinStep b p).getD x 0 = 0 := fun x hx => joinStep_none b p (by omega)
  refine ⟨fun i hi => joinStep_sub b p i i (h.self i hi), fun i j hij => ?_, fun i j hij => ?_⟩
  · by_cases hj : j < 9
    · cases ha : (allP b p).testBit j
      · rw [no j hj ha] at hij ⊢
        have hl := h.lt i j hij
        have hi : (allP b p).testBit i = false := by
          cases hb' : (allP b p).testBit i
          · rfl
          · have h3 := sub i hb'
            rw [h.same i j hij] at h3
            have := h3 j (h.self j hl.2)
            rw [ha] at this; cases this
        rw [no i (by omega) hi, h.same i j hij]
      · rw [yes j ha] at hij ⊢
        exact yes i hij
    · rw [big j hj, Nat.zero_testBit] at hij; cases hij
  · by_cases hj : j < 9
    · cases ha : (allP b p).testBit j
      · rw [no j hj ha] at hij; exact h.lt i j hij
      · rw [yes j ha] at hij; exact ⟨alt i hij, alt j ha⟩
    · rw [big j hj, Nat.zero_testBit] at hij; cases hij
theorem Eqv.fold {n : Nat} (hn : n ≤ 9) : ∀ (ps : List (Int × Int)) (b : List Nat), (∀ p ∈ ps, p.1.toNat < n ∧ p.2.toNat < n) → b.length = 9 → Eqv n b → Eqv n (ps.foldl joinStep b)
  | [], _, _, _, h => h
  | p :: ps, b, hp, hb, h => by
    rw [List.foldl_cons]
    have := hp p List.mem_cons_self
    exact Eqv.fold hn ps _ (fun q hq => hp q (List.mem_cons_of_mem _ hq)) (by rw [joinStep_len]; exact hb) (h.step hn hb this.1 this.2)
theorem Eqv.close {l : Ld} {n : Nat} (hn : n ≤ 9) (hp : ∀ p ∈ l.wth, p.1.toNat < n ∧ p.2.toNat < n) : ∀ (k : Nat) (b : List Nat), b.length = 9 → Eqv n b → Eqv n (closeF l k b)
  | 0, _, _, h => h
  | k + 1, b, hb, h => by
    show Eqv n (if joinR l b = b then b else closeF l k (joinR l b))
    split
    · exact h
    · exact Eqv.close hn hp k _ (by rw [joinR_len]; exact hb) (Eqv.fold hn _ _ hp hb h)
def ndS (l : Ld) (i : Nat) : Nat := (openD l).nd.getD i 0
theorem nd_eqv {l : Ld} (o : LdOk l) : Eqv l.sacks.length (openD l).nd :=
  Eqv.close o.n (fun p hp => by have := o.wp p hp; omega) 5000 _ (ndI_len _) (Eqv.zero o.n)
theorem nd_cl {l : Ld} (o : LdOk l) (i : Nat) : Cl l (ndS l i) := by
  have E := nd_eqv o
  intro p hp
  have b := o.wp p hp
  have hn := o.n
  have e := nd_fix o p hp
  have k1 := nd_self o (i := p.1.toNat) (by omega)
  have k2 := nd_self o (i := p.2.toNat) (by omega)
  have g1 : (allP (openD l).nd p).testBit p.1.toNat = true := by unfold allP; rw [Nat.testBit_or, k1]; rfl
  have g2 : (allP (openD l).nd p).testBit p.2.toNat = true := by unfold allP; rw [Nat.testBit_or, k2, Bool.or_true]
  have e1 := joinStep_get (openD l).nd p (i := p.1.toNat) (by rw [nd_len]; omega)
  have e2 := joinStep_get (openD l).nd p (i := p.2.toNat) (by rw [nd_len]; omega)
  rw [e, if_pos g1] at e1
  rw [e, if_pos g2] at e2
  have s1 : (ndS l i).testBit p.1.toNat = true → (ndS l i).testBit p.2.toNat = true := fun h => by
    have := E.same _ _ h
    show ((openD l).nd.getD i 0).testBit _ = true
    rw [← this, e1, Nat.testBit_or, g2, Bool.or_true]
  have s2 : (ndS l i).testBit p.2.toNat = true → (ndS l i).testBit p.1.toNat = true := fun h => by
    have := E.same _ _ h
    show ((openD l).nd.getD i 0).testBit _ = true
    rw [← this, e2, Nat.testBit_or, g1, Bool.or_true]
  cases h1 : (ndS l i).testBit p.1.toNat
  · cases h2 : (ndS l i).testBit p.2.toNat
    · rfl
    · rw [s2 h2] at h1; cases h1
  · rw [s1 h1]
def setN : List Bool → Nat
  | [] => 0
  | b :: bs => 2 * setN bs + b.toNat
theorem setN_bit : ∀ (bs : List Bool) (k : Nat), (setN bs).testBit k = bs.getD k false
  | [], k => by simp [setN]
  | b :: bs, 0 => by
    unfold setN; rw [Nat.testBit_zero]; cases b <;> simp <;> omega
  | b :: bs, k + 1 => by
    unfold setN; rw [Nat.testBit_succ, show (2 * setN bs + b.toNat) / 2 = setN bs by cases b <;> simp <;> omega, setN_bit bs k]; rfl
def boolN (n s : Nat) : List Bool := (List.range n).map fun k => s.testBit k
theorem boolN_len (n s : Nat) : (boolN n s).length = n := by simp [boolN]
theorem boolN_get {n s k : Nat} (hk : k < n) : (boolN n s).getD k false = s.testBit k := by
  unfold boolN; rw [List.getD_eq_getElem?_getD, List.getElem?_map, List.getElem?_range hk]; rfl
theorem bool_ext {bs : List Bool} {n s : Nat} (hl : bs.length = n) (h : ∀ k, k < n → bs.getD k false = s.testBit k) : bs = boolN n s :=
  eq_of_getD (d := false) (by rw [boolN_len, hl]) fun j hj => by rw [h j (by omega), boolN_get (by omega)]
structure BunOk (l : Ld) (i : Nat) (bs : List Bool) : Prop where
  n : bs.length = l.sacks.length
  me : bs.getD i false = true
  sub : ∀ k, bs.getD k false = true → (ndS l i).testBit k = true
theorem BunOk.done {l : Ld} (o : LdOk l) {i : Nat} {bs : List Bool} (h : BunOk l i bs) (hi : i < l.sacks.length) (hc : ∀ p ∈ l.wth, bs.getD p.1.toNat false = bs.getD p.2.toNat false) : bs = boolN l.sacks.length (ndS l i) := by
  refine bool_ext h.n fun k hk => ?_
  have cl : Cl l (setN bs) := fun p hp => by rw [setN_bit, setN_bit]; exact hc p hp
  have hl := nd_least cl (i := i) (by rw [setN_bit]; exact h.me)
  cases hb : bs.getD k false
  · cases ht : (ndS l i).testBit k
    · rfl
    · have := hl k ht; rw [setN_bit, hb] at this; cases this
  · exact (h.sub k hb).symm
theorem getD_setB (xs : List Bool) (i j : Nat) (v : Bool) : (xs.set i v).getD j false = if i = j ∧ i < xs.length then v else xs.getD j false := getD_set xs i j v false
theorem BunOk.both {l : Ld} (o : LdOk l) {i : Nat} {bs : List Bool} (h : BunOk l i bs) {p : Int × Int} (hp : p ∈ l.wth) (hne : bs.getD p.1.toNat false ≠ bs.getD p.2.toNat false) : BunOk l i ((bs.set p.1.toNat true).set p.2.toNat true) := by
  have hcl := nd_cl o i p hp
  have hin : (ndS l i).testBit p.1.toNat = true ∧ (ndS l i).testBit p.2.toNat = true := by
    cases h1 : bs.getD p.1.toNat false
    · cases h2 : bs.getD p.2.toNat false
      · rw [h1, h2] at hne; exact absurd rfl hne
      · have := h.sub _ h2; exact ⟨by rw [hcl]; exact this, this⟩
    · have := h.sub _ h1; exact ⟨this, by rw [← hcl]; exact this⟩
  refine ⟨by rw [List.length_set, List.length_set]; exact h.n, ?_, fun k hk => ?_⟩
  · rw [getD_setB, getD_setB]; split
    · rfl
    · split
      · rfl
      · exact h.me
  · rw [getD_setB, getD_setB] at hk
    split at hk
    · rename_i e; rw [← e.1]; exact hin.2
    · split at hk
      · rename_i e; rw [← e.1]; exact hin.1
      · exact h.sub k hk
end GA
end

section
namespace GA
open Go Go.RowKit Go.Proofs
set_option pp.deepTerms true
set_option maxRecDepth 8000
set_option linter.unusedVariables false
set_option linter.unusedSimpArgs false

theorem drop_next {α : Type} [Inhabited α] {xs : List α} {k : Nat} (h : k < xs.length) : xs.drop k = xs.getD k default :: xs.drop (k + 1) := by
  rw [List.drop_eq_getElem_cons h, List.getD_eq_getElem?_getD, List.getElem?_eq_getElem h]; rfl
end GA
end

section
namespace GA
open Go Go.RowKit
set_option linter.unusedVariables false
section
variable {P : Program} {N : Nat} {ρ : Option Nat} {E : Env} {h h' : Nat → Option Obj} {β : Nat → Value} {H H' : List Blk} {w : World} {σ : St}

theorem gr_frz (s : SR P E h β H w) {i n : Nat} {t : TypeId} {nl : Bool} {els : List AV} (hi : H[i]? = some (.grow t nl els)) (hn : els.length = n) {v : Value} (hr : Rep P h β H (.gr i n) v) (X : Ext h β H h' β H')
    (hfz : ∀ b o, blkOf β H i = some b → w.heap[b]? = some o → h' b = some o) : Rep P h' β H' (.sl nl els) v := by
  cases hr with
  | gr ho hl hv =>
    obtain ⟨_, h2⟩ := hv _ _ _ hi
    have hβ := h2 hn
    subst hβ
    rcases s.blk i _ hi with ⟨rfl, rfl, h3⟩ | ⟨rfl, rfl, b, h3⟩ | ⟨rfl, b, cap, c, h3, h4, h5, h6, h7, h8, h9, h10, h11, us, h12, h13⟩
    · rw [h3]; exact .slnil
    · rw [h3]; exact .slemp
    · rw [h3]
      cases els with
      | nil => exact .slemp
      | cons e0 l0 =>
        have hbo : blkOf β H i = some b := by simp only [blkOf, hi, h3, anchor]; rw [if_neg (by omega)]
        exact .sl us rfl (by simp) (hfz b _ hbo h5) h10 h9 h11 h6 (fun j x e => by rw [Nat.zero_add]; exact h12 j x e) (fun j x e => X.rep (h13 j x e))

theorem Walk.freeze {c : Code} {Q : Post} {D : List Nat} (u i n : Nat) {t : TypeId} {nl : Bool} {els : List AV} (hu : σ u = some (.gr i n)) (hi : lget H i = some (.grow t nl els)) (hn : els.length = n) (x : Walk P N ρ c Q D (updX σ u (.sl nl els)) (H.set i .dead)) : Walk P N ρ c Q D σ H := by
  constructor
  intro E h β a w s
  rw [lget_eq] at hi
  obtain ⟨h', s1, X, hfz⟩ := s.sr.freeze hi
  refine wpIn_mono (x.o E h' _ a w ⟨s1, fun t' r e => ?_, s.size, s.df.ext X⟩) fun _ _ _ => Conc.ext X
  rw [updX_eq] at e; unfold upd at e
  split at e
  · rename_i hh; subst hh; cases e
    obtain ⟨v, h1, h2⟩ := s.fits _ _ hu
    exact ⟨v, h1, gr_frz s.sr hi hn h2 X hfz⟩
  · obtain ⟨v, h1, h2⟩ := s.fits t' r e
    exact ⟨v, h1, X.rep h2⟩
theorem Walk.freezeCell {c : Code} {Q : Post} {D : List Nat} (j o i n : Nat) {cs : List AV} {t : TypeId} {nl : Bool} {els : List AV} (hj : lget H j = some (.cells cs)) (hc : lget cs o = some (.gr i n)) (hi : lget H i = some (.grow t nl els)) (hn : els.length = n)
    (x : Walk P N ρ c Q D σ ((H.set i .dead).set j (.cells (cs.set o (.sl nl els))))) : Walk P N ρ c Q D σ H := by
  constructor
  intro E h β a w s
  rw [lget_eq] at hi hj hc
  have hlo := (List.getElem?_eq_some_iff.1 hc).1
  have hij : i ≠ j := by rintro rfl; rw [hi] at hj; cases hj
  obtain ⟨h', s1, X1, hfz⟩ := s.sr.freeze hi
  have hj1 : (H.set i .dead)[j]? = some (.cells cs) := by rw [List.getElem?_set_ne hij]; exact hj
  obtain ⟨s2, X2⟩ := s1.modify (β' := β) (w' := w) (x' := .cells (cs.set o (.sl nl els))) hj1 (fun _ _ => rfl) (.inr ⟨_, rfl, rfl⟩) s1.env (fun _ _ _ => rfl) (fun b e => .inl (by unfold blkOf; rw [hj1]; exact e)) (fun X => by
    obtain ⟨b, c, t, h1, h2, h3, h4, us, h5, h6⟩ := s.sr.blk j _ hj
    refine ⟨b, c, t, h1, h2, by rw [List.length_set]; exact h3, fun y hy => ?_, us, fun i y e => ?_, fun i y e => ?_⟩
    · rcases List.mem_or_eq_of_mem_set hy with hy | rfl
      · exact h4 y hy
      · rfl
    · by_cases hio : o = i
      · subst hio; exact h5 o _ hc
      · rw [List.getElem?_set_ne hio] at e; exact h5 i y e
    · by_cases hio : o = i
      · subst hio
        rw [List.getElem?_set_self hlo] at e; cases e
        exact gr_frz s.sr hi hn (h6 o _ hc) (X1.trans X) hfz
      · rw [List.getElem?_set_ne hio] at e; exact (X1.trans X).rep (h6 i y e))
  exact wpIn_mono (x.o E h' _ a w ⟨s2, fun u r e => let ⟨v, h1, h2⟩ := s.fits u r e; ⟨v, h1, (X1.trans X2).rep h2⟩, s.size, s.df.ext (X1.trans X2)⟩) fun _ _ _ => Conc.ext (X1.trans X2)

structure FrzL (i n : Nat) (nl : Bool) (els : List AV) (rs rs' : List AV) : Prop where
  l : rs'.length = rs.length
  o : ∀ (j : Nat) x', rs'[j]? = some x' → ∃ x, rs[j]? = some x ∧ (x' = x ∨ (x = .gr i n ∧ x' = .sl nl els))
theorem FrzL.nil {i n : Nat} {nl : Bool} {els : List AV} : FrzL i n nl els [] [] := ⟨rfl, by simp⟩
theorem FrzL.same {i n : Nat} {nl : Bool} {els : List AV} {x : AV} {rs rs' : List AV} (h : FrzL i n nl els rs rs') : FrzL i n nl els (x :: rs) (x :: rs') := by
  refine ⟨by simp [h.l], fun j y e => ?_⟩
  cases j with
  | zero => simp at e; subst e; exact ⟨_, rfl, .inl rfl⟩
  | succ j => exact h.o j y (by simpa using e)
theorem FrzL.gr {i n : Nat} {nl : Bool} {els : List AV} {rs rs' : List AV} (h : FrzL i n nl els rs rs') : FrzL i n nl els (.gr i n :: rs) (.sl nl els :: rs') := by
  refine ⟨by simp [h.l], fun j y e => ?_⟩
  cases j with
  | zero => simp at e; subst e; exact ⟨_, rfl, .inr ⟨rfl, rfl⟩⟩
  | succ j => exact h.o j y (by simpa using e)
theorem XCall.frz {f : FuncId} {rs rs' : List AV} {k : AV → List Blk → Prop} (i n : Nat) {t : TypeId} {nl : Bool} {els : List AV} (hi : lget H i = some (.grow t nl els)) (hn : els.length = n) (hv : FrzL i n nl els rs rs')
    (H' : List Blk) (hH : ∀ E h β w, SR P E h β H w → ∀ h', SR P E h' β (H.set i .dead) w → Ext h β H h' β (H.set i .dead) → (∀ b o, blkOf β H i = some b → w.heap[b]? = some o → h' b = some o) → SR P E h' β H' w ∧ Ext h β H h' β H') (x : XCall P f rs' H' k) : XCall P f rs H k := by
  rw [lget_eq] at hi
  refine ⟨x.o.1, fun E h β w vs s hr => ?_⟩
  obtain ⟨h', s1, X, hfz⟩ := s.freeze hi
  obtain ⟨s2, X2⟩ := hH E h β w s h' s1 X hfz
  have hr' : RepL P h' β H' rs' vs := ⟨by rw [hv.l]; exact hr.1, fun j y e => by
    obtain ⟨z, e1, e2⟩ := hv.o j y e
    obtain ⟨v, e3, e4⟩ := hr.2 j z e1
    refine ⟨v, e3, ?_⟩
    rcases e2 with rfl | ⟨rfl, rfl⟩
    · exact X2.rep e4
    · exact gr_frz s hi hn e4 X2 hfz⟩
  refine (x.o.2 E h' β w vs s2 hr').mono ?_
  rintro e w' ⟨r, H'', h'', β'', v, e1, e2, e3, e4⟩
  exact ⟨r, H'', h'', β'', v, e1, e2, X2.trans e3, e4⟩
theorem XCall.freeze {f : FuncId} {rs rs' : List AV} {k : AV → List Blk → Prop} (i n : Nat) {t : TypeId} {nl : Bool} {els : List AV} (hi : lget H i = some (.grow t nl els)) (hn : els.length = n) (hv : FrzL i n nl els rs rs')
    (x : XCall P f rs' (H.set i .dead) k) : XCall P f rs H k :=
  .frz i n hi hn hv _ (fun _ _ _ _ _ _ s X _ => ⟨s, X⟩) x
theorem XCall.freezeCell {f : FuncId} {rs rs' : List AV} {k : AV → List Blk → Prop} (j o i n : Nat) {cs : List AV} {t : TypeId} {nl : Bool} {els : List AV} (hj : lget H j = some (.cells cs)) (hc : lget cs o = some (.gr i n)) (hi : lget H i = some (.grow t nl els)) (hn : els.length = n)
    (hv : FrzL i n nl els rs rs') (x : XCall P f rs' ((H.set i .dead).set j (.cells (cs.set o (.sl nl els)))) k) : XCall P f rs H k := by
  refine .frz i n hi hn hv _ (fun E h β w s h' s1 X1 hfz => ?_) x
  rw [lget_eq] at hi hj hc
  have hlo := (List.getElem?_eq_some_iff.1 hc).1
  have hij : i ≠ j := by rintro rfl; rw [hi] at hj; cases hj
  have hj1 : (H.set i .dead)[j]? = some (.cells cs) := by rw [List.getElem?_set_ne hij]; exact hj
  obtain ⟨s2, X2⟩ := s1.modify (β' := β) (w' := w) (x' := .cells (cs.set o (.sl nl els))) hj1 (fun _ _ => rfl) (.inr ⟨_, rfl, rfl⟩) s1.env (fun _ _ _ => rfl) (fun b e => .inl (by unfold blkOf; rw [hj1]; exact e)) (fun X => by
    obtain ⟨b, c, t, h1, h2, h3, h4, us, h5, h6⟩ := s.blk j _ hj
    refine ⟨b, c, t, h1, h2, by rw [List.length_set]; exact h3, fun y hy => ?_, us, fun i y e => ?_, fun i y e => ?_⟩
    · rcases List.mem_or_eq_of_mem_set hy with hy | rfl
      · exact h4 y hy
      · rfl
    · by_cases hio : o = i
      · subst hio; exact h5 o _ hc
      · rw [List.getElem?_set_ne hio] at e; exact h5 i y e
    · by_cases hio : o = i
      · subst hio
        rw [List.getElem?_set_self hlo] at e; cases e
        exact gr_frz s hi hn (h6 o _ hc) (X1.trans X) hfz
      · rw [List.getElem?_set_ne hio] at e; exact (X1.trans X).rep (h6 i y e))
  exact ⟨s2, X1.trans X2⟩
end
end GA
end

section
namespace GA
open Go Go.RowKit Go.Proofs
set_option pp.deepTerms true
set_option maxRecDepth 8000
set_option linter.unusedVariables false
set_option linter.unusedSimpArgs false

theorem sized11_c (x g : Int) : Comp Try.prog 37 [.int .i64 x, .pim [.int .i64 g]] (.bool (decide (x < g))) := by
  refine Comp.body (T := tab) (res := [.tmp 3]) tab_ok [] Try.func37 rfl (by kernel_rfl) Try.ntmps37 rfl (by simp only [List.length_cons, List.length_nil]; decide) (by rfl) ?_; conv => whnf
  exact XOut.bool rfl
theorem kept_all {xs : List Int} {g : Int} (h : ∀ x ∈ xs, ¬ x < g) : keptL xs g = xs := by
  unfold keptL; rw [List.filter_eq_self]; intro x hx; have := h x hx; simp; omega
theorem kept_app (xs ys : List Int) (g : Int) : keptL (xs ++ ys) g = keptL xs g ++ keptL ys g := List.filter_append ..
theorem idxR_cases {α : Type} [Inhabited α] (p : α → Bool) (xs : List α) : (idxR p xs = -1 ∧ ∀ x ∈ xs, p x = false) ∨ ∃ i : Nat, idxR p xs = i ∧ i < xs.length ∧ p (xs.getD i default) = true ∧ ∀ x ∈ xs.take i, p x = false := by
  unfold idxR
  cases h : xs.findIdx? p with
  | none => left; rw [List.findIdx?_eq_none_iff] at h; exact ⟨rfl, fun x hx => by simpa using h x hx⟩
  | some i =>
    right
    rw [List.findIdx?_eq_some_iff_getElem] at h
    obtain ⟨h1, h2, h3⟩ := h
    refine ⟨i, rfl, h1, by rw [List.getD_eq_getElem?_getD, List.getElem?_eq_getElem h1]; exact h2, fun x hx => ?_⟩
    obtain ⟨j, hj, rfl⟩ := List.mem_iff_getElem.1 hx
    rw [List.length_take] at hj
    rw [List.getElem_take]
    have := h3 j (by omega); simpa using this
structure DelOk (xs : List Int) (g : Int) (j : Nat) (ys : List Int) : Prop where
  n : ys.length = xs.length
  h : ys.take (keptL (xs.take j) g).length = keptL (xs.take j) g
  t : ∀ i, j ≤ i → ys.getD i default = xs.getD i default
  lt : (keptL (xs.take j) g).length < j
theorem DelOk.stay {xs : List Int} {g : Int} {j : Nat} {ys : List Int} (o : DelOk xs g j ys) (hj : j < xs.length) (hv : xs.getD j default < g) : DelOk xs g (j + 1) ys := by
  have e := kept_next (g := g) hj
  rw [if_neg (by omega)] at e
  exact ⟨o.n, by rw [e]; exact o.h, fun i hi => o.t i (by omega), by rw [e]; have := o.lt; omega⟩
theorem DelOk.put {xs : List Int} {g : Int} {j : Nat} {ys : List Int} (o : DelOk xs g j ys) (hj : j < xs.length) (hv : ¬ xs.getD j default < g) : DelOk xs g (j + 1) (ys.set (keptL (xs.take j) g).length (xs.getD j default)) ∧ (keptL (xs.take (j + 1)) g).length = (keptL (xs.take j) g).length + 1 := by
  have e := kept_next (g := g) hj
  rw [if_pos (by omega)] at e
  have hlt := o.lt
  have hn := o.n
  refine ⟨⟨by rw [List.length_set]; exact o.n, ?_, fun i hi => ?_, ?_⟩, by rw [e, List.length_append]; rfl⟩
  · rw [e, List.length_append]
    generalize hk : (keptL (xs.take j) g) = K at hlt
    have hh := o.h
    rw [hk] at hh
    show (ys.set K.length _).take (K.length + 1) = _
    rw [take_next (by rw [List.length_set]; omega)]
    congr 1
    · rw [List.take_set_of_le (Nat.le_refl _)]; exact hh
    · rw [List.getD_eq_getElem?_getD, List.getElem?_set_self (by omega)]; rfl
  · rw [← o.t i (by omega), List.getD_eq_getElem?_getD, List.getElem?_set_ne (by omega), ← List.getD_eq_getElem?_getD]
  · rw [e, List.length_append]; show _ + 1 < _; omega
theorem keeps_c (nl : Bool) (xs : List Int) (g : Int) (hx : xs.length ≤ 100000) : Comp Try.prog 35 [.int .i64 g, .pim [.sl nl (ints xs)]] (.int .i64 (keptL xs g).length) := by
  have hd := dup_g nl xs hx
  have hi := idxf_int false xs 37 [.pim [.int .i64 g]] (fun x => decide (x < g)) rfl hx (fun x _ => sized11_c x g)
  have e1 : ((ints xs).length : Int) = xs.length := by rw [List.length_map]
  refine Comp.body' (T := tab) (res := [.tmp 3]) tab_ok [] Try.func35 rfl (by kernel_rfl) Try.ntmps35 rfl (by simp only [List.length_cons, List.length_nil]; decide) (by simp only [lowL, AV.low, lowI]; rfl) ?_; conv => whnf
  refine XCall.give hd ?_
  rw [List.map_cons, ren_grow, List.map_nil]; conv => whnf
  refine XCall.inl (T := tab) (res := [.tmp 4]) tab_ok [] Try.func36 rfl (by kernel_rfl) Try.ntmps36 rfl (by simp only [List.length_append, List.length_cons, List.length_nil]; decide) ?_; conv => whnf
  refine XCall.lend hi (.cons (Froz.grow (i := 0) rfl (by rw [List.length_map]) (lowI _)) (.cons (Froz.low rfl) .nil)) rfl ?_
  conv => whnf
  rcases idxR_cases (fun x => decide (x < g)) xs with ⟨hr, hall⟩ | ⟨i, hr, hil, hip, hpre⟩
  · rw [hr]
    repeat' first | ((with_reducible first | apply XBr.tt | apply XBr.ff | apply Chk.go | apply ChkA.go | apply ChkF.go | apply ChkB.go | apply XArr.pim0 | apply XArr.pim1); conv => whnf) | (with_reducible apply XBr.not) | ((with_reducible apply XBr.dec) <;> (intro h; first | (exfalso; omega) | ((try simp only [List.length_map] at h); first | (exfalso; omega) | (conv => whnf)))) | ((with_reducible first | apply XBr.beq | apply XBr.bne) <;> (intro h; first | (exfalso; omega) | (conv => whnf))) | ((with_reducible refine XInt.i64 (by omega) (by omega) ?_); conv => whnf) | ((with_reducible refine XHold.mk ?_ ?_); (first | omega | rfl | decide | exact ⟨rfl, by decide, rfl⟩ | exact wideI _ | exact widePr _ | exact wideSk _ | (unfold Room; constructor <;> ((try simp) <;> omega)) | exact ⟨rfl, by simp only [List.length_map], by unfold Room; constructor <;> ((try simp) <;> omega)⟩ | exact ⟨by omega, by omega, by unfold Room; constructor <;> ((try simp) <;> omega)⟩); conv => whnf) | ((first | ((with_reducible refine XIx.nat ?_ ?_ ?_); omega; (intro _; rfl)) | ((with_reducible refine XIx.map ?_ ?_ ?_ ?_); omega; omega; (intro _; rfl))); conv => whnf) | (with_reducible apply XAnd.mk) | (exact XSame.mk rfl rfl) | (exact XSame.mk (by first | rfl | (simp only [List.map_append, List.length_append, List.length_map]; done) | (simp only [List.map_append, List.length_append, List.length_map]; rfl)) (by first | rfl | (simp only [List.map_append]; done) | (simp only [List.map_append]; rfl))) | (with_reducible exact trivial) | ((first | (with_reducible refine xdrop_app (by rw [List.length_map]; omega) ?_) | (with_reducible refine XDrop.desk (by assumption) ?_) | (with_reducible first | refine XArr.ints (by omega) (by omega) (by omega) ?_ | refine XArr.intsA (by omega) (by omega) (by omega) ?_) | ((with_reducible first | refine XArr.nats ?_ ?_ ?_ | refine XArr.natsA ?_ ?_ ?_ | refine XArr.ptr ?_ ?_ ?_); omega; omega)); conv => whnf) | ((with_reducible apply XBr.mk') <;> (intro h; conv => whnf))
    refine XOut.int ?_
    rw [kept_all fun x hm => by have := hall x hm; simpa using this]
  · rw [hr]
    have hpre' : keptL (xs.take i) g = xs.take i := kept_all fun x hm => by have := hpre x hm; simpa using this
    have hv : xs.getD i default < g := by simpa using hip
    have hk1 : keptL (xs.take (i + 1)) g = xs.take i := by rw [kept_next hil, if_neg (by omega), hpre']
    have hl1 : (xs.take i).length = i := by rw [List.length_take]; omega
    repeat' first | ((with_reducible first | apply XBr.tt | apply XBr.ff | apply Chk.go | apply ChkA.go | apply ChkF.go | apply ChkB.go | apply XArr.pim0 | apply XArr.pim1); conv => whnf) | (with_reducible apply XBr.not) | ((with_reducible apply XBr.dec) <;> (intro h; first | (exfalso; omega) | ((try simp only [List.length_map] at h); first | (exfalso; omega) | (conv => whnf)))) | ((with_reducible first | apply XBr.beq | apply XBr.bne) <;> (intro h; first | (exfalso; omega) | (conv => whnf))) | ((with_reducible refine XInt.i64 (by omega) (by omega) ?_); conv => whnf) | ((with_reducible refine XHold.mk ?_ ?_); (first | omega | rfl | decide | exact ⟨rfl, by decide, rfl⟩ | exact wideI _ | exact widePr _ | exact wideSk _ | (unfold Room; constructor <;> ((try simp) <;> omega)) | exact ⟨rfl, by simp only [List.length_map], by unfold Room; constructor <;> ((try simp) <;> omega)⟩ | exact ⟨by omega, by omega, by unfold Room; constructor <;> ((try simp) <;> omega)⟩); conv => whnf) | ((first | ((with_reducible refine XIx.nat ?_ ?_ ?_); omega; (intro _; rfl)) | ((with_reducible refine XIx.map ?_ ?_ ?_ ?_); omega; omega; (intro _; rfl))); conv => whnf) | (with_reducible apply XAnd.mk) | (exact XSame.mk rfl rfl) | (exact XSame.mk (by first | rfl | (simp only [List.map_append, List.length_append, List.length_map]; done) | (simp only [List.map_append, List.length_append, List.length_map]; rfl)) (by first | rfl | (simp only [List.map_append]; done) | (simp only [List.map_append]; rfl))) | (with_reducible exact trivial) | ((first | (with_reducible refine xdrop_app (by rw [List.length_map]; omega) ?_) | (with_reducible refine XDrop.desk (by assumption) ?_) | (with_reducible first | refine XArr.ints (by omega) (by omega) (by omega) ?_ | refine XArr.intsA (by omega) (by omega) (by omega) ?_) | ((with_reducible first | refine XArr.nats ?_ ?_ ?_ | refine XArr.natsA ?_ ?_ ?_ | refine XArr.ptr ?_ ?_ ?_); omega; omega)); conv => whnf) | ((with_reducible apply XBr.mk') <;> (intro h; conv => whnf))
    refine Walk.loop tab_ok [] (fun p : Nat × List Int => p.1 ≤ xs.length ∧ DelOk xs g p.1 p.2) (fun p => [(0, .gr 0 xs.length), (1, .fn 37 [.pim [.int .i64 g]]), (4, .sl true []), (5, natA (keptL (xs.take p.1) g).length), (6, natA p.1)]) (fun p => [.grow 3 false (ints p.2)]) (fun p => xs.length - p.1) (i + 1, xs) ⟨by dsimp only; omega, rfl, by rw [hk1, hl1], fun _ _ => rfl, by rw [hk1, hl1]; dsimp only; omega⟩ rfl ⟨rfl, rfl, rfl, ?_, rfl, trivial⟩ ?_
    · show some (AV.int .i64 _) = some (natA (keptL (xs.take (i + 1)) g).length)
      rw [hk1, hl1]; rfl
    rintro ⟨j, ys⟩ ⟨hj, o⟩
    dsimp only at hj o ⊢
    have hn := o.n
    have hlt := o.lt
    have hst := fun h h' => o.stay (h : j < xs.length) h'
    have hpu := fun h h' => o.put (h : j < xs.length) h'
    have hg : ys.getD j default = xs.getD j default := o.t j (Nat.le_refl _)
    have hall : j = xs.length → xs.take j = xs := fun h => by rw [h, List.take_length]
    have hks : j < xs.length → xs.getD j default < g → keptL (xs.take (j + 1)) g = keptL (xs.take j) g := fun h h' => by rw [kept_next h, if_neg (by omega)]
    generalize hK : (keptL (xs.take j) g).length = K at hlt hpu
    conv => whnf
    rw [← hg] at hst hpu hks
    repeat' first | ((with_reducible first | apply XBr.tt | apply XBr.ff | apply Chk.go | apply ChkA.go | apply ChkF.go | apply ChkB.go | apply XArr.pim0 | apply XArr.pim1); conv => whnf) | (with_reducible apply XBr.not) | ((with_reducible apply XBr.dec) <;> (intro h; first | (exfalso; omega) | ((try simp only [List.length_map] at h); first | (exfalso; omega) | (conv => whnf)))) | ((with_reducible first | apply XBr.beq | apply XBr.bne) <;> (intro h; first | (exfalso; omega) | (conv => whnf))) | ((with_reducible refine XInt.i64 (by omega) (by omega) ?_); conv => whnf) | ((with_reducible refine XHold.mk ?_ ?_); (first | omega | rfl | decide | exact ⟨rfl, by decide, rfl⟩ | exact wideI _ | exact widePr _ | exact wideSk _ | (unfold Room; constructor <;> ((try simp) <;> omega)) | exact ⟨rfl, by simp only [List.length_map], by unfold Room; constructor <;> ((try simp) <;> omega)⟩ | exact ⟨by omega, by omega, by unfold Room; constructor <;> ((try simp) <;> omega)⟩); conv => whnf) | ((first | ((with_reducible refine XIx.nat ?_ ?_ ?_); omega; (intro _; rfl)) | ((with_reducible refine XIx.map ?_ ?_ ?_ ?_); omega; omega; (intro _; rfl))); conv => whnf) | (with_reducible apply XAnd.mk) | (exact XSame.mk rfl rfl) | (exact XSame.mk (by first | rfl | (simp only [List.map_append, List.length_append, List.length_map]; done) | (simp only [List.map_append, List.length_append, List.length_map]; rfl)) (by first | rfl | (simp only [List.map_append]; done) | (simp only [List.map_append]; rfl))) | (with_reducible exact trivial) | ((first | (with_reducible refine xdrop_app (by rw [List.length_map]; omega) ?_) | (with_reducible refine XDrop.desk (by assumption) ?_) | (with_reducible first | refine XArr.ints (by omega) (by omega) (by omega) ?_ | refine XArr.intsA (by omega) (by omega) (by omega) ?_) | ((with_reducible first | refine XArr.nats ?_ ?_ ?_ | refine XArr.natsA ?_ ?_ ?_ | refine XArr.ptr ?_ ?_ ?_); omega; omega) | (refine XHold.mk (by rw [List.length_map]; exact hn) ?_) | (refine XHold.mk ⟨by rw [List.length_map]; exact hn, rfl, by omega, by omega⟩ ?_) | (refine XGet.map hn.symm (by omega) ?_) | (refine XCall.ret (sized11_c _ g) ?_) | (refine XPut.map (f := .int .i64) _ rfl hn.symm (by omega) ?_) | (refine XHold.mk ⟨⟨by omega, by omega, by omega, by omega⟩, by rw [List.length_map]; exact hn, rfl⟩ ?_) | (refine XPutEls.mk ?_)); conv => whnf) | ((with_reducible apply XBr.mk') <;> (intro h; conv => whnf))
    · have hv' : ys.getD j default < g := h
      refine XAgain.go (j + 1, ys) ⟨by dsimp only; omega, hst (by omega) hv'⟩ (by dsimp only; omega) rfl ⟨rfl, rfl, rfl, ?_, rfl, trivial⟩
      show some (AV.int .i64 _) = some (natA (keptL (xs.take (j + 1)) g).length)
      rw [hks (by omega) hv', hK]; rfl
    · have hv' : ¬ ys.getD j default < g := h
      obtain ⟨q1, q2⟩ := hpu (by omega) hv'
      refine XAgain.go (j + 1, ys.set K (ys.getD j default)) ⟨by dsimp only; omega, q1⟩ (by dsimp only; omega) rfl ⟨rfl, rfl, rfl, ?_, rfl, trivial⟩
      show some (AV.int .i64 _) = some (natA (keptL (xs.take (j + 1)) g).length)
      rw [q2]; rfl
    · refine XHold.mk ⟨rfl, by rw [List.length_map]; exact hn, by omega⟩ ?_
      conv => whnf
      refine XPutEls.mk ?_
      conv => whnf
      have hsl : (splice (ints ys) (K : Int).toNat (List.take (xs.length - K : Int).toNat (List.replicate (xs.length - K : Int).toNat (AV.int IntKind.i64 0)))).length = xs.length := by
        rw [splice_length (by rw [List.length_map, List.length_take, List.length_replicate]; omega), List.length_map]; exact hn
      refine XHold.mk ⟨⟨by omega, by omega, by omega, by omega⟩, hsl, rfl⟩ ?_
      conv => whnf
      refine XOut.int ?_
      rw [← hK, hall (by omega)]
      rw [← hK, hall (by omega)] at hlt
      omega
end GA
end

section
namespace GA
open Go Go.RowKit Go.Proofs
set_option pp.deepTerms true
set_option maxRecDepth 8000
set_option linter.unusedVariables false
set_option linter.unusedSimpArgs false

def szK (u : Hp) : Nat → List Int × Hp
  | 0 => ([], u)
  | k + 1 => ((szK u k).1 ++ [1 + modV (szK u k).2 39], hpS (szK u k).2)
theorem szK_ok {u : Hp} (o : u.Ok) : ∀ k, (szK u k).2.Ok ∧ (szK u k).1.length = k ∧ ∀ x ∈ (szK u k).1, 1 ≤ x ∧ x ≤ 40
  | 0 => ⟨o, rfl, by simp [szK]⟩
  | k + 1 => by
    obtain ⟨h1, h2, h3⟩ := szK_ok o k
    refine ⟨hpS_ok h1, by simp [szK, h2], fun x hx => ?_⟩
    rw [szK, List.mem_append] at hx
    rcases hx with hx | hx
    · exact h3 x hx
    · simp at hx; subst hx
      have := modV_bound (szK u k).2 39
      omega
theorem kept_thru : ∀ (xs : List Int) (g : Int), (keptL xs g).length + (thruL xs g).length = xs.length
  | [], _ => rfl
  | x :: xs, g => by
    have ih := kept_thru xs g
    unfold keptL thruL at *
    by_cases h : g ≤ x
    · rw [List.filter_cons_of_pos (by simpa using h), List.filter_cons_of_neg (by simpa using h), List.length_cons, List.length_cons]; omega
    · rw [List.filter_cons_of_neg (by simpa using h), List.filter_cons_of_pos (by simp; omega), List.length_cons, List.length_cons]; omega
theorem kept_at {xs : List Int} {g : Int} {k : Nat} (hk : k < xs.length) (hv : g ≤ xs.getD k default) : (keptL (xs.take k) g).length < (keptL xs g).length ∧ (keptL xs g).getD (keptL (xs.take k) g).length default = xs.getD k default := by
  have e : keptL xs g = keptL (xs.take k) g ++ (xs.getD k default :: keptL (xs.drop (k + 1)) g) := by
    have : xs = xs.take k ++ (xs.getD k default :: xs.drop (k + 1)) := by rw [← drop_next hk, List.take_append_drop]
    conv => lhs; rw [this]
    rw [kept_app]; congr 1
    unfold keptL; rw [List.filter_cons_of_pos (by simpa using hv)]
  rw [e]
  refine ⟨by simp, ?_⟩
  rw [List.getD_eq_getElem?_getD, List.getElem?_append_right (Nat.le_refl _), Nat.sub_self]; rfl
theorem thru_app (xs ys : List Int) (g : Int) : thruL (xs ++ ys) g = thruL xs g ++ thruL ys g := List.filter_append ..
theorem thru_at {xs : List Int} {g : Int} {k : Nat} (hk : k < xs.length) (hv : xs.getD k default < g) : (thruL (xs.take k) g).length < (thruL xs g).length ∧ (thruL xs g).getD (thruL (xs.take k) g).length default = xs.getD k default := by
  have e : thruL xs g = thruL (xs.take k) g ++ (xs.getD k default :: thruL (xs.drop (k + 1)) g) := by
    have : xs = xs.take k ++ (xs.getD k default :: xs.drop (k + 1)) := by rw [← drop_next hk, List.take_append_drop]
    conv => lhs; rw [this]
    rw [thru_app]; congr 1
    unfold thruL; rw [List.filter_cons_of_pos (by simpa using hv)]
  rw [e]
  refine ⟨by simp, ?_⟩
  rw [List.getD_eq_getElem?_getD, List.getElem?_append_right (Nat.le_refl _), Nat.sub_self]; rfl
theorem leastG_is (xs : List Int) (m : Int) : ∀ (f : Nat) (g : Int), (∀ r, leastG xs m f g = some r → g ≤ r ∧ r < g + f ∧ ((keptL xs r).length : Int) ≤ m ∧ ∀ q, g ≤ q → q < r → m < (keptL xs q).length) ∧ (leastG xs m f g = none → ∀ q, g ≤ q → q < g + f → m < (keptL xs q).length)
  | 0, g => ⟨nofun, fun _ q h1 h2 => by omega⟩
  | f + 1, g => by
    obtain ⟨h1, h2⟩ := leastG_is xs m f (g + 1)
    have hct : ∀ q, cnt xs q = ((keptL xs q).length : Int) := fun _ => rfl
    unfold leastG
    split
    · rename_i hc
      rw [hct] at hc
      refine ⟨fun r h => ?_, nofun⟩
      cases h
      exact ⟨by omega, by omega, hc, fun q hq hq' => by omega⟩
    · rename_i hc
      rw [hct] at hc
      refine ⟨fun r h => ?_, fun h q hq hq' => ?_⟩
      · obtain ⟨a, b, c, d⟩ := h1 r h
        refine ⟨by omega, by omega, c, fun q hq hq' => ?_⟩
        by_cases e : q = g
        · subst e; omega
        · exact d q (by omega) hq'
      · by_cases e : q = g
        · subst e; omega
        · exact h2 h q (by omega) (by omega)
theorem kept_len_le (xs : List Int) (g : Int) : (keptL xs g).length ≤ xs.length := List.length_filter_le _ _
theorem sackSized_c (n1 : Bool) (xs : List Int) (a b : Int) (hx : xs.length < 9223372036854775808) (ha : 0 ≤ a ∧ a ≤ 255) (hb : 0 ≤ b ∧ b ≤ 255) : Comp Try.prog 7 [.sl n1 (bytes xs), .int .u8 a, .int .u8 b] (.bool true) := by
  have o0 := hp0_ok (nl := n1) hx
  have mb := modV_bound (hp0 n1 xs) 60
  have o1 := hpS_ok o0
  have hup := upto_c (hp0 n1 xs) 60 o0 (by omega) (by omega)
  have hsz := szK_ok o1
  generalize hu1 : hpS (hp0 n1 xs) = u1 at o1 hsz hup
  obtain ⟨N, hN⟩ := Int.eq_ofNat_of_zero_le mb.1
  rw [hN] at mb hup
  refine Comp.body' (T := tab) (res := [.tmp 6]) tab_ok [] Try.func7 rfl (by kernel_rfl) Try.ntmps7 rfl (by simp only [List.length_cons, List.length_nil]; decide) (by simp only [lowL, AV.low, lowBy]; rfl) ?_; conv => whnf
  repeat' first | ((with_reducible first | apply XBr.tt | apply XBr.ff | apply Chk.go | apply ChkA.go | apply ChkF.go | apply ChkB.go | apply XArr.pim0 | apply XArr.pim1); conv => whnf) | (with_reducible apply XBr.not) | ((with_reducible apply XBr.dec) <;> (intro h; first | (exfalso; omega) | ((try simp only [List.length_map] at h); first | (exfalso; omega) | (conv => whnf)))) | ((with_reducible first | apply XBr.beq | apply XBr.bne) <;> (intro h; first | (exfalso; omega) | (conv => whnf))) | ((with_reducible refine XInt.i64 (by omega) (by omega) ?_); conv => whnf) | ((with_reducible refine XHold.mk ?_ ?_); (first | omega | rfl | decide | exact ⟨rfl, by decide, rfl⟩ | exact wideI _ | exact widePr _ | exact wideSk _ | (unfold Room; constructor <;> ((try simp) <;> omega)) | exact ⟨rfl, by simp only [List.length_map], by unfold Room; constructor <;> ((try simp) <;> omega)⟩ | exact ⟨by omega, by omega, by unfold Room; constructor <;> ((try simp) <;> omega)⟩); conv => whnf) | ((first | ((with_reducible refine XIx.nat ?_ ?_ ?_); omega; (intro _; rfl)) | ((with_reducible refine XIx.map ?_ ?_ ?_ ?_); omega; omega; (intro _; rfl))); conv => whnf) | (with_reducible apply XAnd.mk) | (exact XSame.mk rfl rfl) | (exact XSame.mk (by first | rfl | (simp only [List.map_append, List.length_append, List.length_map]; done) | (simp only [List.map_append, List.length_append, List.length_map]; rfl)) (by first | rfl | (simp only [List.map_append]; done) | (simp only [List.map_append]; rfl))) | (with_reducible exact trivial) | ((first | (with_reducible refine xdrop_app (by rw [List.length_map]; omega) ?_) | (with_reducible refine XDrop.desk (by assumption) ?_) | (with_reducible first | refine XArr.ints (by omega) (by omega) (by omega) ?_ | refine XArr.intsA (by omega) (by omega) (by omega) ?_) | ((with_reducible first | refine XArr.nats ?_ ?_ ?_ | refine XArr.natsA ?_ ?_ ?_ | refine XArr.ptr ?_ ?_ ?_); omega; omega)); conv => whnf) | (refine XCall.inl (T := tab) (res := [.tmp 2]) tab_ok [5] Try.func17 rfl (by kernel_rfl) Try.ntmps17 rfl (by simp only [List.length_append, List.length_cons, List.length_nil]; decide) ?_; conv => whnf) | ((refine XCall.hp (j := 0) hup rfl rfl ?_); conv => whnf) | ((with_reducible apply XBr.mk') <;> (intro h; conv => whnf))
  refine Walk.nilcell 1 0 3 rfl rfl ?_
  refine Walk.loop tab_ok [] (fun k : Nat => k ≤ N) (fun k => [(1, .int .u8 a), (2, .int .u8 b), (6, .bool false), (7, .ptr 0 0), (8, .ptr 1 0), (23, natA N), (24, natA k)])
    (fun k => [hpC (szK u1 k).2, .cells [.gr 2 k], .grow 3 (szK u1 k).1.isEmpty (ints (szK u1 k).1)]) (fun k => N - k) 0 (Nat.zero_le _) rfl ⟨rfl, rfl, rfl, rfl, rfl, rfl, rfl, trivial⟩ ?_
  intro k hk
  have hkk := hsz k
  have hnx : szK u1 (k + 1) = ((szK u1 k).1 ++ [1 + modV (szK u1 k).2 39], hpS (szK u1 k).2) := rfl
  generalize szK u1 k = st at hkk hnx
  obtain ⟨ss, v⟩ := st
  obtain ⟨vo, hl, hbd⟩ := hkk
  dsimp only at vo hl hbd hnx
  have vb := modV_bound v 39
  have hfr := from_c v 1 40 vo (by omega) (by omega) (by omega) (by omega)
  conv => whnf
  repeat' first | ((with_reducible first | apply XBr.tt | apply XBr.ff | apply Chk.go | apply ChkA.go | apply ChkF.go | apply ChkB.go | apply XArr.pim0 | apply XArr.pim1); conv => whnf) | (with_reducible apply XBr.not) | ((with_reducible apply XBr.dec) <;> (intro h; first | (exfalso; omega) | ((try simp only [List.length_map] at h); first | (exfalso; omega) | (conv => whnf)))) | ((with_reducible first | apply XBr.beq | apply XBr.bne) <;> (intro h; first | (exfalso; omega) | (conv => whnf))) | ((with_reducible refine XInt.i64 (by omega) (by omega) ?_); conv => whnf) | ((with_reducible refine XHold.mk ?_ ?_); (first | omega | rfl | decide | exact ⟨rfl, by decide, rfl⟩ | exact wideI _ | exact widePr _ | exact wideSk _ | (unfold Room; constructor <;> ((try simp) <;> omega)) | exact ⟨rfl, by simp only [List.length_map], by unfold Room; constructor <;> ((try simp) <;> omega)⟩ | exact ⟨by omega, by omega, by unfold Room; constructor <;> ((try simp) <;> omega)⟩); conv => whnf) | ((first | ((with_reducible refine XIx.nat ?_ ?_ ?_); omega; (intro _; rfl)) | ((with_reducible refine XIx.map ?_ ?_ ?_ ?_); omega; omega; (intro _; rfl))); conv => whnf) | (with_reducible apply XAnd.mk) | (exact XSame.mk rfl rfl) | (exact XSame.mk (by first | rfl | (simp only [List.map_append, List.length_append, List.length_map]; done) | (simp only [List.map_append, List.length_append, List.length_map]; rfl)) (by first | rfl | (simp only [List.map_append]; done) | (simp only [List.map_append]; rfl))) | (with_reducible exact trivial) | ((first | (with_reducible refine xdrop_app (by rw [List.length_map]; omega) ?_) | (with_reducible refine XDrop.desk (by assumption) ?_) | (with_reducible first | refine XArr.ints (by omega) (by omega) (by omega) ?_ | refine XArr.intsA (by omega) (by omega) (by omega) ?_) | ((with_reducible first | refine XArr.nats ?_ ?_ ?_ | refine XArr.natsA ?_ ?_ ?_ | refine XArr.ptr ?_ ?_ ?_); omega; omega)); conv => whnf) | ((with_reducible apply XBr.mk') <;> (intro h; conv => whnf))
  · apply Walk.drawX tab_ok mixed_ok [] [2, 4, 5] (hsC [[hpC v, .cells [.gr 2 k], .grow 3 ss.isEmpty (ints ss)], [hpC (hpS v), .cells [.gr 2 k], .grow 3 ss.isEmpty (ints ss)], [hpC (hpS v), .cells [.gr 2 k], .grow 3 (ss.isEmpty && false) (ints ss ++ [.int .i64 (1 + modV v 39)])], [hpC (hpS v), .cells [.gr 2 (k + 1)], .grow 3 (ss.isEmpty && false) (ints ss ++ [.int .i64 (1 + modV v 39)])]]) [_, _, _, _, _, _] (by kernel_rfl) rfl
    · skip
      repeat' first | ((with_reducible first | apply XBr.tt | apply XBr.ff | apply Chk.go | apply ChkA.go | apply ChkF.go | apply ChkB.go | apply XArr.pim0 | apply XArr.pim1); conv => whnf) | (with_reducible apply XBr.not) | ((with_reducible apply XBr.dec) <;> (intro h; first | (exfalso; omega) | ((try simp only [List.length_map] at h); first | (exfalso; omega) | (conv => whnf)))) | ((with_reducible first | apply XBr.beq | apply XBr.bne) <;> (intro h; first | (exfalso; omega) | (conv => whnf))) | ((with_reducible refine XInt.i64 (by omega) (by omega) ?_); conv => whnf) | ((with_reducible refine XHold.mk ?_ ?_); (first | omega | rfl | decide | exact ⟨rfl, by decide, rfl⟩ | exact wideI _ | exact widePr _ | exact wideSk _ | (unfold Room; constructor <;> ((try simp) <;> omega)) | exact ⟨rfl, by simp only [List.length_map], by unfold Room; constructor <;> ((try simp) <;> omega)⟩ | exact ⟨by omega, by omega, by unfold Room; constructor <;> ((try simp) <;> omega)⟩); conv => whnf) | ((first | ((with_reducible refine XIx.nat ?_ ?_ ?_); omega; (intro _; rfl)) | ((with_reducible refine XIx.map ?_ ?_ ?_ ?_); omega; omega; (intro _; rfl))); conv => whnf) | (with_reducible apply XAnd.mk) | (exact XSame.mk rfl rfl) | (exact XSame.mk (by first | rfl | (simp only [List.map_append, List.length_append, List.length_map]; done) | (simp only [List.map_append, List.length_append, List.length_map]; rfl)) (by first | rfl | (simp only [List.map_append]; done) | (simp only [List.map_append]; rfl))) | (with_reducible exact trivial) | ((first | (with_reducible refine xdrop_app (by rw [List.length_map]; omega) ?_) | (with_reducible refine XDrop.desk (by assumption) ?_) | (with_reducible first | refine XArr.ints (by omega) (by omega) (by omega) ?_ | refine XArr.intsA (by omega) (by omega) (by omega) ?_) | ((with_reducible first | refine XArr.nats ?_ ?_ ?_ | refine XArr.natsA ?_ ?_ ?_ | refine XArr.ptr ?_ ?_ ?_); omega; omega) | (refine XCall.hp (j := 0) hfr rfl rfl ?_)); conv => whnf) | ((with_reducible apply XBr.mk') <;> (intro h; conv => whnf))
    · skip
      repeat' first | ((with_reducible first | apply XBr.tt | apply XBr.ff | apply Chk.go | apply ChkA.go | apply ChkF.go | apply ChkB.go | apply XArr.pim0 | apply XArr.pim1); conv => whnf) | (with_reducible apply XBr.not) | ((with_reducible apply XBr.dec) <;> (intro h; first | (exfalso; omega) | ((try simp only [List.length_map] at h); first | (exfalso; omega) | (conv => whnf)))) | ((with_reducible first | apply XBr.beq | apply XBr.bne) <;> (intro h; first | (exfalso; omega) | (conv => whnf))) | ((with_reducible refine XInt.i64 (by omega) (by omega) ?_); conv => whnf) | ((with_reducible refine XHold.mk ?_ ?_); (first | omega | rfl | decide | exact ⟨rfl, by decide, rfl⟩ | exact wideI _ | exact widePr _ | exact wideSk _ | (unfold Room; constructor <;> ((try simp) <;> omega)) | exact ⟨rfl, by simp only [List.length_map], by unfold Room; constructor <;> ((try simp) <;> omega)⟩ | exact ⟨by omega, by omega, by unfold Room; constructor <;> ((try simp) <;> omega)⟩); conv => whnf) | ((first | ((with_reducible refine XIx.nat ?_ ?_ ?_); omega; (intro _; rfl)) | ((with_reducible refine XIx.map ?_ ?_ ?_ ?_); omega; omega; (intro _; rfl))); conv => whnf) | (with_reducible apply XAnd.mk) | (exact XSame.mk rfl rfl) | (exact XSame.mk (by first | rfl | (simp only [List.map_append, List.length_append, List.length_map]; done) | (simp only [List.map_append, List.length_append, List.length_map]; rfl)) (by first | rfl | (simp only [List.map_append]; done) | (simp only [List.map_append]; rfl))) | (with_reducible exact trivial) | ((first | (with_reducible refine xdrop_app (by rw [List.length_map]; omega) ?_) | (with_reducible refine XDrop.desk (by assumption) ?_) | (with_reducible first | refine XArr.ints (by omega) (by omega) (by omega) ?_ | refine XArr.intsA (by omega) (by omega) (by omega) ?_) | ((with_reducible first | refine XArr.nats ?_ ?_ ?_ | refine XArr.natsA ?_ ?_ ?_ | refine XArr.ptr ?_ ?_ ?_); omega; omega) | (refine XCall.hp (j := 0) hfr rfl rfl ?_)); conv => whnf) | ((with_reducible apply XBr.mk') <;> (intro h; conv => whnf))
    conv => whnf
    repeat' first | ((with_reducible first | apply XBr.tt | apply XBr.ff | apply Chk.go | apply ChkA.go | apply ChkF.go | apply ChkB.go | apply XArr.pim0 | apply XArr.pim1); conv => whnf) | (with_reducible apply XBr.not) | ((with_reducible apply XBr.dec) <;> (intro h; first | (exfalso; omega) | ((try simp only [List.length_map] at h); first | (exfalso; omega) | (conv => whnf)))) | ((with_reducible first | apply XBr.beq | apply XBr.bne) <;> (intro h; first | (exfalso; omega) | (conv => whnf))) | ((with_reducible refine XInt.i64 (by omega) (by omega) ?_); conv => whnf) | ((with_reducible refine XHold.mk ?_ ?_); (first | omega | rfl | decide | exact ⟨rfl, by decide, rfl⟩ | exact wideI _ | exact widePr _ | exact wideSk _ | (unfold Room; constructor <;> ((try simp) <;> omega)) | exact ⟨rfl, by simp only [List.length_map], by unfold Room; constructor <;> ((try simp) <;> omega)⟩ | exact ⟨by omega, by omega, by unfold Room; constructor <;> ((try simp) <;> omega)⟩); conv => whnf) | ((first | ((with_reducible refine XIx.nat ?_ ?_ ?_); omega; (intro _; rfl)) | ((with_reducible refine XIx.map ?_ ?_ ?_ ?_); omega; omega; (intro _; rfl))); conv => whnf) | (with_reducible apply XAnd.mk) | (exact XSame.mk rfl rfl) | (exact XSame.mk (by first | rfl | (simp only [List.map_append, List.length_append, List.length_map]; done) | (simp only [List.map_append, List.length_append, List.length_map]; rfl)) (by first | rfl | (simp only [List.map_append]; done) | (simp only [List.map_append]; rfl))) | (with_reducible exact trivial) | ((first | (with_reducible refine xdrop_app (by rw [List.length_map]; omega) ?_) | (with_reducible refine XDrop.desk (by assumption) ?_) | (with_reducible first | refine XArr.ints (by omega) (by omega) (by omega) ?_ | refine XArr.intsA (by omega) (by omega) (by omega) ?_) | ((with_reducible first | refine XArr.nats ?_ ?_ ?_ | refine XArr.natsA ?_ ?_ ?_ | refine XArr.ptr ?_ ?_ ?_); omega; omega)); conv => whnf) | ((with_reducible apply XBr.mk') <;> (intro h; conv => whnf))
    refine XAgain.go (k + 1) (by omega) (by omega) ?_ ⟨rfl, rfl, rfl, rfl, rfl, rfl, rfl, trivial⟩
    rw [hnx]; simp only [List.map_append, isEmpty_app]; rfl
  · have hg : 0 ≤ a.tmod 40 ∧ a.tmod 40 ≤ 39 := by rw [Int.tmod_eq_emod_of_nonneg ha.1]; omega
    have hm : 0 ≤ b.tmod 30 ∧ b.tmod 30 ≤ 29 := by rw [Int.tmod_eq_emod_of_nonneg hb.1]; omega
    have hl6 : ss.length ≤ 60 := by omega
    generalize hgg : a.tmod 40 = g0 at hg
    generalize hmm : b.tmod 30 = m at hm
    have hall : ss.all (inB · 1 40) = true := List.all_eq_true.2 fun x hx => by have := hbd x hx; unfold inB; simp; omega
    have hr0 : ∀ g, 1 ≤ g → g ≤ 40 → riddledR ss g = 0 := fun g h1 h2 => by
      unfold riddledR; rw [if_neg (by omega), hall, if_pos (by unfold inB; simp; omega)]
    have hrd := riddle_c ss.isEmpty ss (1 + g0) (by omega)
    unfold riddleR at hrd
    rw [if_pos (hr0 _ (by omega) (by omega))] at hrd
    unfold riddleA at hrd
    have hga := gauge_c ss.isEmpty ss m (by omega)
    unfold gaugeR at hga
    rw [hr0 1 (by omega) (by omega), if_neg (by omega), if_neg (by omega)] at hga
    repeat' first | ((with_reducible first | apply XBr.tt | apply XBr.ff | apply Chk.go | apply ChkA.go | apply ChkF.go | apply ChkB.go | apply XArr.pim0 | apply XArr.pim1); conv => whnf) | (with_reducible apply XBr.not) | ((with_reducible apply XBr.dec) <;> (intro h; first | (exfalso; omega) | ((try simp only [List.length_map] at h); first | (exfalso; omega) | (conv => whnf)))) | ((with_reducible first | apply XBr.beq | apply XBr.bne) <;> (intro h; first | (exfalso; omega) | (conv => whnf))) | ((with_reducible refine XInt.i64 (by omega) (by omega) ?_); conv => whnf) | ((with_reducible refine XHold.mk ?_ ?_); (first | omega | rfl | decide | exact ⟨rfl, by decide, rfl⟩ | exact wideI _ | exact widePr _ | exact wideSk _ | (unfold Room; constructor <;> ((try simp) <;> omega)) | exact ⟨rfl, by simp only [List.length_map], by unfold Room; constructor <;> ((try simp) <;> omega)⟩ | exact ⟨by omega, by omega, by unfold Room; constructor <;> ((try simp) <;> omega)⟩); conv => whnf) | ((first | ((with_reducible refine XIx.nat ?_ ?_ ?_); omega; (intro _; rfl)) | ((with_reducible refine XIx.map ?_ ?_ ?_ ?_); omega; omega; (intro _; rfl))); conv => whnf) | (with_reducible apply XAnd.mk) | (exact XSame.mk rfl rfl) | (exact XSame.mk (by first | rfl | (simp only [List.map_append, List.length_append, List.length_map]; done) | (simp only [List.map_append, List.length_append, List.length_map]; rfl)) (by first | rfl | (simp only [List.map_append]; done) | (simp only [List.map_append]; rfl))) | (with_reducible exact trivial) | ((first | (with_reducible refine xdrop_app (by rw [List.length_map]; omega) ?_) | (with_reducible refine XDrop.desk (by assumption) ?_) | (with_reducible first | refine XArr.ints (by omega) (by omega) (by omega) ?_ | refine XArr.intsA (by omega) (by omega) (by omega) ?_) | ((with_reducible first | refine XArr.nats ?_ ?_ ?_ | refine XArr.natsA ?_ ?_ ?_ | refine XArr.ptr ?_ ?_ ?_); omega; omega)); conv => whnf) | ((with_reducible apply XBr.mk') <;> (intro h; conv => whnf))
    refine XCall.freezeCell 1 0 2 k (t := 3) (nl := ss.isEmpty) (els := ints ss) rfl rfl rfl (by rw [List.length_map]; exact hl) (.gr (.same .nil)) ?_
    refine XCall.ret hrd ?_
    conv => whnf
    have hkt := kept_thru ss (1 + g0)
    have ka := fun j h h' => kept_at (xs := ss) (g := 1 + g0) (k := j) h h'
    have ta := fun j h h' => thru_at (xs := ss) (g := 1 + g0) (k := j) h h'
    have eK : ((ints (keptL ss (1 + g0))).length : Int) = (keptL ss (1 + g0)).length := by rw [List.length_map]
    have eT : ((ints (thruL ss (1 + g0))).length : Int) = (thruL ss (1 + g0)).length := by rw [List.length_map]
    have eS : ((ints ss).length : Int) = k := by rw [List.length_map, hl]
    unfold slA
    generalize keptL ss (1 + g0) = K at hkt ka eK
    generalize thruL ss (1 + g0) = T at hkt ta eT
    repeat' first | ((with_reducible first | apply XBr.tt | apply XBr.ff | apply Chk.go | apply ChkA.go | apply ChkF.go | apply ChkB.go | apply XArr.pim0 | apply XArr.pim1); conv => whnf) | (with_reducible apply XBr.not) | ((with_reducible apply XBr.dec) <;> (intro h; first | (exfalso; omega) | ((try simp only [List.length_map] at h); first | (exfalso; omega) | (conv => whnf)))) | ((with_reducible first | apply XBr.beq | apply XBr.bne) <;> (intro h; first | (exfalso; omega) | (conv => whnf))) | ((with_reducible refine XInt.i64 (by omega) (by omega) ?_); conv => whnf) | ((with_reducible refine XHold.mk ?_ ?_); (first | omega | rfl | decide | exact ⟨rfl, by decide, rfl⟩ | exact wideI _ | exact widePr _ | exact wideSk _ | (unfold Room; constructor <;> ((try simp) <;> omega)) | exact ⟨rfl, by simp only [List.length_map], by unfold Room; constructor <;> ((try simp) <;> omega)⟩ | exact ⟨by omega, by omega, by unfold Room; constructor <;> ((try simp) <;> omega)⟩); conv => whnf) | ((first | ((with_reducible refine XIx.nat ?_ ?_ ?_); omega; (intro _; rfl)) | ((with_reducible refine XIx.map ?_ ?_ ?_ ?_); omega; omega; (intro _; rfl))); conv => whnf) | (with_reducible apply XAnd.mk) | (exact XSame.mk rfl rfl) | (exact XSame.mk (by first | rfl | (simp only [List.map_append, List.length_append, List.length_map]; done) | (simp only [List.map_append, List.length_append, List.length_map]; rfl)) (by first | rfl | (simp only [List.map_append]; done) | (simp only [List.map_append]; rfl))) | (with_reducible exact trivial) | ((first | (with_reducible refine xdrop_app (by rw [List.length_map]; omega) ?_) | (with_reducible refine XDrop.desk (by assumption) ?_) | (with_reducible first | refine XArr.ints (by omega) (by omega) (by omega) ?_ | refine XArr.intsA (by omega) (by omega) (by omega) ?_) | ((with_reducible first | refine XArr.nats ?_ ?_ ?_ | refine XArr.natsA ?_ ?_ ?_ | refine XArr.ptr ?_ ?_ ?_); omega; omega)); conv => whnf) | ((with_reducible apply XBr.mk') <;> (intro h; conv => whnf))
    refine Walk.loop tab_ok [] (fun j : Nat => j ≤ k) (fun j => [(2, .int .u8 b), (8, .ptr 1 0), (9, .int .i64 (1 + g0)), (10, .sl K.isEmpty (ints K)), (11, .sl T.isEmpty (ints T)), (55, .sl ss.isEmpty (ints ss)), (56, natA k), (6, .bool false), (13, natA (keptL (ss.take j) (1 + g0)).length), (14, natA (thruL (ss.take j) (1 + g0)).length), (57, natA j)])
      (fun _ => [hpC v, .cells [.sl ss.isEmpty (ints ss)], .dead]) (fun j => k - j) 0 (Nat.zero_le _) rfl ⟨rfl, rfl, rfl, rfl, rfl, rfl, congrArg (fun n => some (AV.int .i64 n)) eS, rfl, rfl, rfl, rfl, trivial⟩ ?_
    intro j hj
    have kj := fun h h' => ka j (by omega : j < ss.length) (h' : 1 + g0 ≤ ss.getD j default)
    have tj := fun h h' => ta j (by omega : j < ss.length) (h' : ss.getD j default < 1 + g0)
    have kn := fun h => kept_next (xs := ss) (g := 1 + g0) (i := j) h
    have tn := fun h => thru_next (xs := ss) (g := 1 + g0) (i := j) h
    have lk := kept_le ss (1 + g0) j
    have lt := thru_le ss (1 + g0) j
    generalize hk1 : (keptL (ss.take j) (1 + g0)) = K1 at kj kn lk
    generalize hk2 : (thruL (ss.take j) (1 + g0)) = T1 at tj tn lt
    conv => whnf
    repeat' first | ((with_reducible first | apply XBr.tt | apply XBr.ff | apply Chk.go | apply ChkA.go | apply ChkF.go | apply ChkB.go | apply XArr.pim0 | apply XArr.pim1); conv => whnf) | (with_reducible apply XBr.not) | ((with_reducible apply XBr.dec) <;> (intro h; first | (exfalso; omega) | ((try simp only [List.length_map] at h); first | (exfalso; omega) | (conv => whnf)))) | ((with_reducible first | apply XBr.beq | apply XBr.bne) <;> (intro h; first | (exfalso; omega) | (conv => whnf))) | ((with_reducible refine XInt.i64 (by omega) (by omega) ?_); conv => whnf) | ((with_reducible refine XHold.mk ?_ ?_); (first | omega | rfl | decide | exact ⟨rfl, by decide, rfl⟩ | exact wideI _ | exact widePr _ | exact wideSk _ | (unfold Room; constructor <;> ((try simp) <;> omega)) | exact ⟨rfl, by simp only [List.length_map], by unfold Room; constructor <;> ((try simp) <;> omega)⟩ | exact ⟨by omega, by omega, by unfold Room; constructor <;> ((try simp) <;> omega)⟩); conv => whnf) | ((first | ((with_reducible refine XIx.nat ?_ ?_ ?_); omega; (intro _; rfl)) | ((with_reducible refine XIx.map ?_ ?_ ?_ ?_); omega; omega; (intro _; rfl))); conv => whnf) | (with_reducible apply XAnd.mk) | (exact XSame.mk rfl rfl) | (exact XSame.mk (by first | rfl | (simp only [List.map_append, List.length_append, List.length_map]; done) | (simp only [List.map_append, List.length_append, List.length_map]; rfl)) (by first | rfl | (simp only [List.map_append]; done) | (simp only [List.map_append]; rfl))) | (with_reducible exact trivial) | ((first | (with_reducible refine xdrop_app (by rw [List.length_map]; omega) ?_) | (with_reducible refine XDrop.desk (by assumption) ?_) | (with_reducible first | refine XArr.ints (by omega) (by omega) (by omega) ?_ | refine XArr.intsA (by omega) (by omega) (by omega) ?_) | ((with_reducible first | refine XArr.nats ?_ ?_ ?_ | refine XArr.natsA ?_ ?_ ?_ | refine XArr.ptr ?_ ?_ ?_); omega; omega)); conv => whnf) | ((with_reducible apply XBr.mk') <;> (intro h; conv => whnf))
    · refine XAgain.go (j + 1) (by omega) (by omega) rfl ⟨rfl, rfl, rfl, rfl, rfl, rfl, rfl, rfl, ?_, ?_, rfl, trivial⟩
      · rw [kn (by omega), if_pos (by assumption), List.length_append]; rfl
      · rw [tn (by omega), if_neg (by omega)]; rfl
    · refine XAgain.go (j + 1) (by omega) (by omega) rfl ⟨rfl, rfl, rfl, rfl, rfl, rfl, rfl, rfl, ?_, ?_, rfl, trivial⟩
      · rw [kn (by omega), if_neg (by omega)]; rfl
      · rw [tn (by omega), if_pos (by assumption), List.length_append]; rfl
    subst hmm
    obtain ⟨l1, l2⟩ := leastG_is ss (b.tmod 30) 40 1
    have hke := fun q => keeps_c ss.isEmpty ss q (by omega)
    have hfz : FrozL Try.prog [hpC v, .cells [.sl ss.isEmpty (ints ss)], .dead] [.ptr 1 0] [.pim [.sl ss.isEmpty (ints ss)]] := .cons (Froz.ptr rfl (by simp [AV.one]) (.cons (Froz.low (lowI _)) .nil)) .nil
    cases hL : leastG ss (b.tmod 30) 40 1 with
    | none =>
      rw [hL] at hga
      have l2 := l2 hL 40 (by omega) (by omega)
      dsimp only at hga
      repeat' first | ((with_reducible first | apply XBr.tt | apply XBr.ff | apply Chk.go | apply ChkA.go | apply ChkF.go | apply ChkB.go | apply XArr.pim0 | apply XArr.pim1); conv => whnf) | (with_reducible apply XBr.not) | ((with_reducible apply XBr.dec) <;> (intro h; first | (exfalso; omega) | ((try simp only [List.length_map] at h); first | (exfalso; omega) | (conv => whnf)))) | ((with_reducible first | apply XBr.beq | apply XBr.bne) <;> (intro h; first | (exfalso; omega) | (conv => whnf))) | ((with_reducible refine XInt.i64 (by omega) (by omega) ?_); conv => whnf) | ((with_reducible refine XHold.mk ?_ ?_); (first | omega | rfl | decide | exact ⟨rfl, by decide, rfl⟩ | exact wideI _ | exact widePr _ | exact wideSk _ | (unfold Room; constructor <;> ((try simp) <;> omega)) | exact ⟨rfl, by simp only [List.length_map], by unfold Room; constructor <;> ((try simp) <;> omega)⟩ | exact ⟨by omega, by omega, by unfold Room; constructor <;> ((try simp) <;> omega)⟩); conv => whnf) | ((first | ((with_reducible refine XIx.nat ?_ ?_ ?_); omega; (intro _; rfl)) | ((with_reducible refine XIx.map ?_ ?_ ?_ ?_); omega; omega; (intro _; rfl))); conv => whnf) | (with_reducible apply XAnd.mk) | (exact XSame.mk rfl rfl) | (exact XSame.mk (by first | rfl | (simp only [List.map_append, List.length_append, List.length_map]; done) | (simp only [List.map_append, List.length_append, List.length_map]; rfl)) (by first | rfl | (simp only [List.map_append]; done) | (simp only [List.map_append]; rfl))) | (with_reducible exact trivial) | ((first | (with_reducible refine xdrop_app (by rw [List.length_map]; omega) ?_) | (with_reducible refine XDrop.desk (by assumption) ?_) | (with_reducible first | refine XArr.ints (by omega) (by omega) (by omega) ?_ | refine XArr.intsA (by omega) (by omega) (by omega) ?_) | ((with_reducible first | refine XArr.nats ?_ ?_ ?_ | refine XArr.natsA ?_ ?_ ?_ | refine XArr.ptr ?_ ?_ ?_); omega; omega) | (refine XCall.ret hga ?_) | (refine XCall.lend (hke _) (.cons (Froz.low rfl) hfz) rfl ?_) | (refine XCall.ret awake_c ?_)); conv => whnf) | ((with_reducible apply XBr.mk') <;> (intro h; conv => whnf))
      exact XOut.bool rfl
    | some r =>
      rw [hL] at hga
      obtain ⟨r1, r2, r3, r4⟩ := l1 r hL
      have r5 := r4 (r - 1)
      have r6 : (keptL ss r).length ≤ ss.length := kept_len_le ss r
      have r7 : (keptL ss (r - 1)).length ≤ ss.length := kept_len_le ss (r - 1)
      dsimp only at hga
      repeat' first | ((with_reducible first | apply XBr.tt | apply XBr.ff | apply Chk.go | apply ChkA.go | apply ChkF.go | apply ChkB.go | apply XArr.pim0 | apply XArr.pim1); conv => whnf) | (with_reducible apply XBr.not) | ((with_reducible apply XBr.dec) <;> (intro h; first | (exfalso; omega) | ((try simp only [List.length_map] at h); first | (exfalso; omega) | (conv => whnf)))) | ((with_reducible first | apply XBr.beq | apply XBr.bne) <;> (intro h; first | (exfalso; omega) | (conv => whnf))) | ((with_reducible refine XInt.i64 (by omega) (by omega) ?_); conv => whnf) | ((with_reducible refine XHold.mk ?_ ?_); (first | omega | rfl | decide | exact ⟨rfl, by decide, rfl⟩ | exact wideI _ | exact widePr _ | exact wideSk _ | (unfold Room; constructor <;> ((try simp) <;> omega)) | exact ⟨rfl, by simp only [List.length_map], by unfold Room; constructor <;> ((try simp) <;> omega)⟩ | exact ⟨by omega, by omega, by unfold Room; constructor <;> ((try simp) <;> omega)⟩); conv => whnf) | ((first | ((with_reducible refine XIx.nat ?_ ?_ ?_); omega; (intro _; rfl)) | ((with_reducible refine XIx.map ?_ ?_ ?_ ?_); omega; omega; (intro _; rfl))); conv => whnf) | (with_reducible apply XAnd.mk) | (exact XSame.mk rfl rfl) | (exact XSame.mk (by first | rfl | (simp only [List.map_append, List.length_append, List.length_map]; done) | (simp only [List.map_append, List.length_append, List.length_map]; rfl)) (by first | rfl | (simp only [List.map_append]; done) | (simp only [List.map_append]; rfl))) | (with_reducible exact trivial) | ((first | (with_reducible refine xdrop_app (by rw [List.length_map]; omega) ?_) | (with_reducible refine XDrop.desk (by assumption) ?_) | (with_reducible first | refine XArr.ints (by omega) (by omega) (by omega) ?_ | refine XArr.intsA (by omega) (by omega) (by omega) ?_) | ((with_reducible first | refine XArr.nats ?_ ?_ ?_ | refine XArr.natsA ?_ ?_ ?_ | refine XArr.ptr ?_ ?_ ?_); omega; omega) | (refine XCall.ret hga ?_) | (refine XCall.lend (hke _) (.cons (Froz.low rfl) hfz) rfl ?_) | (refine XCall.ret awake_c ?_)); conv => whnf) | ((with_reducible apply XBr.mk') <;> (intro h; conv => whnf))
      refine Walk.norm tab_ok [] [(8, .ptr 1 0), (12, .int .i64 0), (17, .int .i64 (b.tmod 30)), (18, .int .i64 r), (19, .fn 35 [.ptr 1 0])] ⟨rfl, rfl, rfl, rfl, rfl, trivial⟩ ?_
      conv => whnf
      repeat' first | ((with_reducible first | apply XBr.tt | apply XBr.ff | apply Chk.go | apply ChkA.go | apply ChkF.go | apply ChkB.go | apply XArr.pim0 | apply XArr.pim1); conv => whnf) | (with_reducible apply XBr.not) | ((with_reducible apply XBr.dec) <;> (intro h; first | (exfalso; omega) | ((try simp only [List.length_map] at h); first | (exfalso; omega) | (conv => whnf)))) | ((with_reducible first | apply XBr.beq | apply XBr.bne) <;> (intro h; first | (exfalso; omega) | (conv => whnf))) | ((with_reducible refine XInt.i64 (by omega) (by omega) ?_); conv => whnf) | ((with_reducible refine XHold.mk ?_ ?_); (first | omega | rfl | decide | exact ⟨rfl, by decide, rfl⟩ | exact wideI _ | exact widePr _ | exact wideSk _ | (unfold Room; constructor <;> ((try simp) <;> omega)) | exact ⟨rfl, by simp only [List.length_map], by unfold Room; constructor <;> ((try simp) <;> omega)⟩ | exact ⟨by omega, by omega, by unfold Room; constructor <;> ((try simp) <;> omega)⟩); conv => whnf) | ((first | ((with_reducible refine XIx.nat ?_ ?_ ?_); omega; (intro _; rfl)) | ((with_reducible refine XIx.map ?_ ?_ ?_ ?_); omega; omega; (intro _; rfl))); conv => whnf) | (with_reducible apply XAnd.mk) | (exact XSame.mk rfl rfl) | (exact XSame.mk (by first | rfl | (simp only [List.map_append, List.length_append, List.length_map]; done) | (simp only [List.map_append, List.length_append, List.length_map]; rfl)) (by first | rfl | (simp only [List.map_append]; done) | (simp only [List.map_append]; rfl))) | (with_reducible exact trivial) | ((first | (with_reducible refine xdrop_app (by rw [List.length_map]; omega) ?_) | (with_reducible refine XDrop.desk (by assumption) ?_) | (with_reducible first | refine XArr.ints (by omega) (by omega) (by omega) ?_ | refine XArr.intsA (by omega) (by omega) (by omega) ?_) | ((with_reducible first | refine XArr.nats ?_ ?_ ?_ | refine XArr.natsA ?_ ?_ ?_ | refine XArr.ptr ?_ ?_ ?_); omega; omega) | (refine XCall.lend (hke _) (.cons (Froz.low rfl) hfz) rfl ?_) | (refine XCall.ret awake_c ?_)); conv => whnf) | ((with_reducible apply XBr.mk') <;> (intro h; conv => whnf))
      all_goals first | exact XOut.bool rfl | skip
end GA
end
