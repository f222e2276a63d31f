/- Contracts: right carts, one after the other. -/
import Derived.Test.YtlbdomhfcghjdaaS11
namespace GA
open Go Go.RowKit Go.Proofs
set_option pp.deepTerms true
set_option maxRecDepth 8000
set_option linter.unusedVariables false
set_option linter.unusedSimpArgs false

/-- The first of a set. -/
def lowb (s : Nat) : Nat := diff s (s - 1)
theorem low_all : ∀ s : Fin 512, iand .i64 (s.val : Int) (0 - (s.val : Int)) = ((lowb s.val : Nat) : Int) := by decide +kernel
theorem low_int {s : Nat} (h : s < 512) : iand .i64 (s : Int) (0 - (s : Int)) = ((lowb s : Nat) : Int) := low_all ⟨s, h⟩
theorem AYield.mono {P : Program} {i : Nat} {rs : List AV} {H : List Blk} {k k' : AV → List Blk → Prop} (x : AYield P i rs H k) (hk : ∀ r H', k r H' → k' r H') : AYield P i rs H k' :=
  ⟨x.1, fun E h β w b vs s r e => let ⟨f, tmps, assign, body, h1, h2⟩ := x.2 E h β w b vs s r e; ⟨f, tmps, assign, body, h1, h2.mono fun _ _ => Ends.mono hk⟩⟩
/-- What comes of it if these are yielded, one after the other. -/
def IterOk (P : Program) (i : Nat) (K : List Blk → Prop) : List Nat → List Blk → Prop
  | [], H => K H
  | c :: cs, H => XYield P i [natA c] H fun r H' => (r = .bool true ∧ IterOk P i K cs H') ∨ (r = .bool false ∧ K H')

theorem diff_le (a b : Nat) : diff a b ≤ a := by
  unfold diff
  have h : a ^^^ (a &&& b) = a &&& (a ^^^ b) := by
    apply Nat.eq_of_testBit_eq; intro i; simp only [Nat.testBit_xor, Nat.testBit_and]
    cases a.testBit i <;> cases b.testBit i <;> rfl
  rw [h]; exact Nat.and_le_left
theorem or9 {a b : Nat} (ha : a < 512) (hb : b < 512) : a ||| b < 512 := Nat.or_lt_two_pow (n := 9) ha hb
theorem lowb_le (s : Nat) : lowb s ≤ s := diff_le ..
def cartsF (d : Dk) (set : Nat) : Nat → Nat → List Nat
  | 0, _ => []
  | f + 1, rest => (if rightB d (rest ||| lowb set) then [rest ||| lowb set] else []) ++ (if rest = 0 then [] else cartsF d set f (diff ((rest - 1) &&& set) (lowb set)))
def cartsL (d : Dk) (set : Nat) : List Nat := cartsF d set 512 (diff set (lowb set))

theorem cartsF_succ (d : Dk) (set f rest : Nat) : cartsF d set (f + 1) rest = (if rightB d (rest ||| lowb set) then [rest ||| lowb set] else []) ++ (if rest = 0 then [] else cartsF d set f (diff ((rest - 1) &&& set) (lowb set))) := rfl
theorem carts1_c (d : Dk) (ok : DkFull d) (set i : Nat) (hs : set < 512) (H : List Blk) (K : List Blk → Prop) (hK : IterOk Try.prog i K (cartsL d set) H) :
    XCall Try.prog 133 [.yld i, .pim [.int .i64 set], .pim [.pim (deskC d)]] H fun _ H' => K H' := by
  refine XCall.inl (T := tab) (res := []) tab_ok [] Try.func133 rfl (by kernel_rfl) Try.ntmps133 rfl (by simp only [List.length_append, List.length_cons, List.length_nil]; decide) ?_; conv => whnf
  repeat' first
      | ((with_reducible apply XBr.tt); conv => whnf)
      | ((with_reducible apply XBr.ff); conv => whnf)
      | (with_reducible apply XBr.not)
      | ((with_reducible apply XBr.dec) <;> (intro h; first | (exfalso; omega) | ((try simp only [List.length_map] at h); first | (exfalso; omega) | (conv => whnf))))
      | ((with_reducible apply XBr.beq) <;> (intro h; first | (exfalso; omega) | (conv => whnf)))
      | ((with_reducible apply XBr.bne) <;> (intro h; first | (exfalso; omega) | (conv => whnf)))
      | ((with_reducible refine XInt.i64 (by omega) (by omega) ?_); conv => whnf)
      | ((with_reducible refine XHold.mk ?_ ?_); (first | omega | rfl | decide | exact ⟨rfl, by decide, rfl⟩ | exact wideI _ | exact widePr _ | exact wideSk _ | (unfold Room; constructor <;> ((try simp) <;> omega)) | exact ⟨rfl, by simp only [List.length_map], by unfold Room; constructor <;> ((try simp) <;> omega)⟩ | exact ⟨by omega, by omega, by unfold Room; constructor <;> ((try simp) <;> omega)⟩); conv => whnf)
      | ((with_reducible refine XIx.nat ?_ ?_ ?_); omega; (intro _; rfl); conv => whnf)
      | ((with_reducible refine XIx.map ?_ ?_ ?_ ?_); omega; omega; (intro _; rfl); conv => whnf)
      | (with_reducible apply XAnd.mk)
      | ((with_reducible apply Chk.go); conv => whnf)
      | ((with_reducible apply ChkA.go); conv => whnf)
      | ((with_reducible apply ChkF.go); conv => whnf)
      | ((with_reducible apply ChkB.go); conv => whnf)
      | (exact XSame.mk rfl rfl)
      | (exact XSame.mk (by first | rfl | (simp only [List.map_append, List.length_append, List.length_map]; done) | (simp only [List.map_append, List.length_append, List.length_map]; rfl)) (by first | rfl | (simp only [List.map_append]; done) | (simp only [List.map_append]; rfl)))
      | (with_reducible exact trivial)
      | ((with_reducible refine xdrop_app (by rw [List.length_map]; omega) ?_); conv => whnf)
      | ((with_reducible refine XArr.ints (by omega) (by omega) (by omega) ?_); conv => whnf)
      | ((with_reducible refine XArr.intsA (by omega) (by omega) (by omega) ?_); conv => whnf)
      | ((with_reducible refine XArr.nats ?_ ?_ ?_); omega; omega; conv => whnf)
      | ((with_reducible refine XArr.natsA ?_ ?_ ?_); omega; omega; conv => whnf)
      | ((with_reducible apply XArr.pim0); conv => whnf)
      | ((with_reducible apply XArr.pim1); conv => whnf)
      | ((with_reducible refine XArr.ptr ?_ ?_ ?_); omega; omega; conv => whnf)
      | ((with_reducible apply XBr.mk') <;> (intro h; conv => whnf))
  have hl := lowb_le set
  have hd := diff_le set (lowb set)
  have e1 : iand .i64 (set : Int) (0 - (set : Int)) = ((lowb set : Nat) : Int) := low_int hs
  have e2 : iandn .i64 (set : Int) ((lowb set : Nat) : Int) = ((diff set (lowb set) : Nat) : Int) := iandn_nat (by omega) (by omega)
  refine Walk.loop tab_ok [] (fun g : Nat × Nat × List Blk => g.1 < 512 ∧ g.1 < g.2.1 ∧ IterOk Try.prog i K (cartsF d set g.2.1 g.1) g.2.2) (fun g => [(0, .yld i), (1, .pim [.int .i64 set]), (2, .pim [.pim (deskC d)]), (4, .int .i64 (lowb set : Nat)), (5, .int .i64 g.1)]) (fun g => g.2.2) (fun g => g.1) (diff set (lowb set), 512, H) ⟨by dsimp only; omega, by dsimp only; omega, hK⟩ rfl ⟨rfl, rfl, rfl, congrArg (fun n => some (AV.int .i64 n)) e1, ?_, trivial⟩ ?_
  · show some (AV.int .i64 (iandn .i64 (set : Int) (iand .i64 (set : Int) (0 - (set : Int))))) = _
    rw [e1, e2]
  rintro ⟨rest, f, H'⟩ ⟨h1, h2, h3⟩
  dsimp only at h1 h2 h3 ⊢
  conv => whnf
  have e3 : ior .i64 (rest : Int) ((lowb set : Nat) : Int) = ((rest ||| lowb set : Nat) : Int) := ior_nat (by omega) (by omega)
  have h4 : rest ||| lowb set < 512 := or9 h1 (by omega)
  have hf : f = (f - 1) + 1 := by omega
  rw [hf] at h3
  have hn := diff_le ((rest - 1) &&& set) (lowb set)
  have hn2 : (rest - 1) &&& set ≤ rest - 1 := Nat.and_le_left
  have e5 : 0 < rest → iandn .i64 (iand .i64 ((rest : Int) - 1) (set : Int)) ((lowb set : Nat) : Int) = ((diff ((rest - 1) &&& set) (lowb set) : Nat) : Int) := by
    intro h0
    have : (rest : Int) - 1 = ((rest - 1 : Nat) : Int) := by omega
    rw [this, iand_nat (by omega) (by omega), iandn_nat (by omega) (by omega)]
  rw [e3]
  refine XCall.ret (right_c d ok _ h4) ?_
  conv => whnf
  repeat' first
      | ((with_reducible apply XBr.tt); conv => whnf)
      | ((with_reducible apply XBr.ff); conv => whnf)
      | (with_reducible apply XBr.not)
      | ((with_reducible apply XBr.dec) <;> (intro h; first | (exfalso; omega) | ((try simp only [List.length_map] at h); first | (exfalso; omega) | (conv => whnf))))
      | ((with_reducible apply XBr.beq) <;> (intro h; first | (exfalso; omega) | (conv => whnf)))
      | ((with_reducible apply XBr.bne) <;> (intro h; first | (exfalso; omega) | (conv => whnf)))
      | ((with_reducible refine XInt.i64 (by omega) (by omega) ?_); conv => whnf)
      | ((with_reducible refine XHold.mk ?_ ?_); (first | omega | rfl | decide | exact ⟨rfl, by decide, rfl⟩ | exact wideI _ | exact widePr _ | exact wideSk _ | (unfold Room; constructor <;> ((try simp) <;> omega)) | exact ⟨rfl, by simp only [List.length_map], by unfold Room; constructor <;> ((try simp) <;> omega)⟩ | exact ⟨by omega, by omega, by unfold Room; constructor <;> ((try simp) <;> omega)⟩); conv => whnf)
      | ((with_reducible refine XIx.nat ?_ ?_ ?_); omega; (intro _; rfl); conv => whnf)
      | ((with_reducible refine XIx.map ?_ ?_ ?_ ?_); omega; omega; (intro _; rfl); conv => whnf)
      | (with_reducible apply XAnd.mk)
      | ((with_reducible apply Chk.go); conv => whnf)
      | ((with_reducible apply ChkA.go); conv => whnf)
      | ((with_reducible apply ChkF.go); conv => whnf)
      | ((with_reducible apply ChkB.go); conv => whnf)
      | (exact XSame.mk rfl rfl)
      | (exact XSame.mk (by first | rfl | (simp only [List.map_append, List.length_append, List.length_map]; done) | (simp only [List.map_append, List.length_append, List.length_map]; rfl)) (by first | rfl | (simp only [List.map_append]; done) | (simp only [List.map_append]; rfl)))
      | (with_reducible exact trivial)
      | ((with_reducible refine xdrop_app (by rw [List.length_map]; omega) ?_); conv => whnf)
      | ((with_reducible refine XArr.ints (by omega) (by omega) (by omega) ?_); conv => whnf)
      | ((with_reducible refine XArr.intsA (by omega) (by omega) (by omega) ?_); conv => whnf)
      | ((with_reducible refine XArr.nats ?_ ?_ ?_); omega; omega; conv => whnf)
      | ((with_reducible refine XArr.natsA ?_ ?_ ?_); omega; omega; conv => whnf)
      | ((with_reducible apply XArr.pim0); conv => whnf)
      | ((with_reducible apply XArr.pim1); conv => whnf)
      | ((with_reducible refine XArr.ptr ?_ ?_ ?_); omega; omega; conv => whnf)
      | ((with_reducible apply XBr.mk') <;> (intro h; conv => whnf))
  · rw [e3]
    have hc : cartsF d set (f - 1 + 1) rest = (rest ||| lowb set) :: (if rest = 0 then [] else cartsF d set (f - 1) (diff ((rest - 1) &&& set) (lowb set))) := by
      rw [cartsF_succ, if_pos h]; rfl
    rw [hc] at h3
    refine ⟨AYield.mono h3.o ?_⟩
    rintro r H'' (⟨rfl, h5⟩ | ⟨rfl, h5⟩)
    · conv => whnf
      repeat' first
          | ((with_reducible apply XBr.tt); conv => whnf)
          | ((with_reducible apply XBr.ff); conv => whnf)
          | (with_reducible apply XBr.not)
          | ((with_reducible apply XBr.dec) <;> (intro h; first | (exfalso; omega) | ((try simp only [List.length_map] at h); first | (exfalso; omega) | (conv => whnf))))
          | ((with_reducible apply XBr.beq) <;> (intro h; first | (exfalso; omega) | (conv => whnf)))
          | ((with_reducible apply XBr.bne) <;> (intro h; first | (exfalso; omega) | (conv => whnf)))
          | ((with_reducible refine XInt.i64 (by omega) (by omega) ?_); conv => whnf)
          | ((with_reducible refine XHold.mk ?_ ?_); (first | omega | rfl | decide | exact ⟨rfl, by decide, rfl⟩ | exact wideI _ | exact widePr _ | exact wideSk _ | (unfold Room; constructor <;> ((try simp) <;> omega)) | exact ⟨rfl, by simp only [List.length_map], by unfold Room; constructor <;> ((try simp) <;> omega)⟩ | exact ⟨by omega, by omega, by unfold Room; constructor <;> ((try simp) <;> omega)⟩); conv => whnf)
          | ((with_reducible refine XIx.nat ?_ ?_ ?_); omega; (intro _; rfl); conv => whnf)
          | ((with_reducible refine XIx.map ?_ ?_ ?_ ?_); omega; omega; (intro _; rfl); conv => whnf)
          | (with_reducible apply XAnd.mk)
          | ((with_reducible apply Chk.go); conv => whnf)
          | ((with_reducible apply ChkA.go); conv => whnf)
          | ((with_reducible apply ChkF.go); conv => whnf)
          | ((with_reducible apply ChkB.go); conv => whnf)
          | (exact XSame.mk rfl rfl)
          | (exact XSame.mk (by first | rfl | (simp only [List.map_append, List.length_append, List.length_map]; done) | (simp only [List.map_append, List.length_append, List.length_map]; rfl)) (by first | rfl | (simp only [List.map_append]; done) | (simp only [List.map_append]; rfl)))
          | (with_reducible exact trivial)
          | ((with_reducible refine xdrop_app (by rw [List.length_map]; omega) ?_); conv => whnf)
          | ((with_reducible refine XArr.ints (by omega) (by omega) (by omega) ?_); conv => whnf)
          | ((with_reducible refine XArr.intsA (by omega) (by omega) (by omega) ?_); conv => whnf)
          | ((with_reducible refine XArr.nats ?_ ?_ ?_); omega; omega; conv => whnf)
          | ((with_reducible refine XArr.natsA ?_ ?_ ?_); omega; omega; conv => whnf)
          | ((with_reducible apply XArr.pim0); conv => whnf)
          | ((with_reducible apply XArr.pim1); conv => whnf)
          | ((with_reducible refine XArr.ptr ?_ ?_ ?_); omega; omega; conv => whnf)
          | ((with_reducible apply XBr.mk') <;> (intro h; conv => whnf))
      · rename_i h0
        rw [if_pos (by omega)] at h5; exact h5
      · rename_i h0
        rw [if_neg (by omega)] at h5
        refine XAgain.go (diff ((rest - 1) &&& set) (lowb set), f - 1, H'') ⟨by dsimp only; omega, by dsimp only; omega, h5⟩ (by dsimp only; omega) rfl ⟨rfl, rfl, rfl, rfl, ?_, trivial⟩
        exact congrArg (fun n => some (AV.int .i64 n)) (e5 (by omega))
    · conv => whnf
      repeat' first
          | ((with_reducible apply XBr.tt); conv => whnf)
          | ((with_reducible apply XBr.ff); conv => whnf)
          | (with_reducible apply XBr.not)
          | ((with_reducible apply XBr.dec) <;> (intro h; first | (exfalso; omega) | ((try simp only [List.length_map] at h); first | (exfalso; omega) | (conv => whnf))))
          | ((with_reducible apply XBr.beq) <;> (intro h; first | (exfalso; omega) | (conv => whnf)))
          | ((with_reducible apply XBr.bne) <;> (intro h; first | (exfalso; omega) | (conv => whnf)))
          | ((with_reducible refine XInt.i64 (by omega) (by omega) ?_); conv => whnf)
          | ((with_reducible refine XHold.mk ?_ ?_); (first | omega | rfl | decide | exact ⟨rfl, by decide, rfl⟩ | exact wideI _ | exact widePr _ | exact wideSk _ | (unfold Room; constructor <;> ((try simp) <;> omega)) | exact ⟨rfl, by simp only [List.length_map], by unfold Room; constructor <;> ((try simp) <;> omega)⟩ | exact ⟨by omega, by omega, by unfold Room; constructor <;> ((try simp) <;> omega)⟩); conv => whnf)
          | ((with_reducible refine XIx.nat ?_ ?_ ?_); omega; (intro _; rfl); conv => whnf)
          | ((with_reducible refine XIx.map ?_ ?_ ?_ ?_); omega; omega; (intro _; rfl); conv => whnf)
          | (with_reducible apply XAnd.mk)
          | ((with_reducible apply Chk.go); conv => whnf)
          | ((with_reducible apply ChkA.go); conv => whnf)
          | ((with_reducible apply ChkF.go); conv => whnf)
          | ((with_reducible apply ChkB.go); conv => whnf)
          | (exact XSame.mk rfl rfl)
          | (exact XSame.mk (by first | rfl | (simp only [List.map_append, List.length_append, List.length_map]; done) | (simp only [List.map_append, List.length_append, List.length_map]; rfl)) (by first | rfl | (simp only [List.map_append]; done) | (simp only [List.map_append]; rfl)))
          | (with_reducible exact trivial)
          | ((with_reducible refine xdrop_app (by rw [List.length_map]; omega) ?_); conv => whnf)
          | ((with_reducible refine XArr.ints (by omega) (by omega) (by omega) ?_); conv => whnf)
          | ((with_reducible refine XArr.intsA (by omega) (by omega) (by omega) ?_); conv => whnf)
          | ((with_reducible refine XArr.nats ?_ ?_ ?_); omega; omega; conv => whnf)
          | ((with_reducible refine XArr.natsA ?_ ?_ ?_); omega; omega; conv => whnf)
          | ((with_reducible apply XArr.pim0); conv => whnf)
          | ((with_reducible apply XArr.pim1); conv => whnf)
          | ((with_reducible refine XArr.ptr ?_ ?_ ?_); omega; omega; conv => whnf)
          | ((with_reducible apply XBr.mk') <;> (intro h; conv => whnf))
      exact h5
  · have hc : cartsF d set (f - 1 + 1) rest = (if rest = 0 then [] else cartsF d set (f - 1) (diff ((rest - 1) &&& set) (lowb set))) := by
      rw [cartsF_succ, if_neg (by simp [*])]; rfl
    rw [hc] at h3
    rename_i h0
    rw [if_pos (by omega)] at h3; exact h3
  · have hc : cartsF d set (f - 1 + 1) rest = (if rest = 0 then [] else cartsF d set (f - 1) (diff ((rest - 1) &&& set) (lowb set))) := by
      rw [cartsF_succ, if_neg (by simp [*])]; rfl
    rw [hc] at h3
    rename_i h0
    rw [if_neg (by omega)] at h3
    refine XAgain.go (diff ((rest - 1) &&& set) (lowb set), f - 1, H') ⟨by dsimp only; omega, by dsimp only; omega, h3⟩ (by dsimp only; omega) rfl ⟨rfl, rfl, rfl, rfl, ?_, trivial⟩
    exact congrArg (fun n => some (AV.int .i64 n)) (e5 (by omega))
end GA
