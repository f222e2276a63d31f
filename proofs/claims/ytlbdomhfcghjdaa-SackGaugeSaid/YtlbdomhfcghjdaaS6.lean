/- Contracts: weights, lists of sets. -/
import Derived.Test.YtlbdomhfcghjdaaS5
namespace GA
open Go Go.RowKit Go.Proofs
set_option pp.deepTerms true
set_option maxRecDepth 8000
set_option linter.unusedVariables false
set_option linter.unusedSimpArgs false

def weightR (l : Ld) (s : Sk) : Int := s.m - s.m * l.shrink / 100
theorem weight_c (l : Ld) (s : Sk) (h : 0 ≤ s.m) (h' : s.m ≤ 100) (h2 : 0 ≤ l.shrink) (h3 : l.shrink ≤ 100) : Comp Try.prog 85 [ldA l, skA s] (.int .i64 (weightR l s)) := by
  refine Comp.body (T := tab) (res := [.tmp 4]) tab_ok [] Try.func85 rfl (by kernel_rfl) Try.ntmps85 rfl (by simp only [List.length_cons, List.length_nil]; decide) (by simp only [lowL, AV.low, ldL, skL]; rfl) ?_; conv => whnf
  have e1 : 0 ≤ s.m * l.shrink := Int.mul_nonneg h h2
  have e2 : s.m * l.shrink ≤ 100 * 100 := Int.mul_le_mul h' h3 h2 (by omega)
  have e3 : (s.m * l.shrink).tdiv 100 = (s.m * l.shrink) / 100 := Int.tdiv_eq_ediv_of_nonneg e1
  repeat' first
      | ((with_reducible apply XBr.tt); conv => whnf)
      | ((with_reducible apply XBr.ff); conv => whnf)
      | (with_reducible apply XBr.not)
      | ((with_reducible apply XBr.dec) <;> (intro h; first | (exfalso; omega) | ((try simp only [List.length_map] at h); first | (exfalso; omega) | (conv => whnf))))
      | ((with_reducible apply XBr.beq) <;> (intro h; first | (exfalso; omega) | (conv => whnf)))
      | ((with_reducible apply XBr.bne) <;> (intro h; first | (exfalso; omega) | (conv => whnf)))
      | ((with_reducible refine XInt.i64 (by omega) (by omega) ?_); conv => whnf)
      | ((with_reducible refine XHold.mk ?_ ?_); (first | omega | rfl | decide | exact ⟨rfl, by decide, rfl⟩ | exact wideI _ | exact widePr _ | exact wideSk _ | (unfold Room; constructor <;> ((try simp) <;> omega)) | exact ⟨rfl, by simp only [List.length_map], by unfold Room; constructor <;> ((try simp) <;> omega)⟩ | exact ⟨by omega, by omega, by unfold Room; constructor <;> ((try simp) <;> omega)⟩); conv => whnf)
      | ((with_reducible refine XIx.nat ?_ ?_ ?_); omega; (intro _; rfl); conv => whnf)
      | ((with_reducible refine XIx.map ?_ ?_ ?_ ?_); omega; omega; (intro _; rfl); conv => whnf)
      | (with_reducible apply XAnd.mk)
      | ((with_reducible apply Chk.go); conv => whnf)
      | ((with_reducible apply ChkA.go); conv => whnf)
      | ((with_reducible apply ChkF.go); conv => whnf)
      | ((with_reducible apply ChkB.go); conv => whnf)
      | (exact XSame.mk rfl rfl)
      | (exact XSame.mk (by first | rfl | (simp only [List.map_append, List.length_append, List.length_map]; done) | (simp only [List.map_append, List.length_append, List.length_map]; rfl)) (by first | rfl | (simp only [List.map_append]; done) | (simp only [List.map_append]; rfl)))
      | (with_reducible exact trivial)
      | ((with_reducible refine xdrop_app (by rw [List.length_map]; omega) ?_); conv => whnf)
      | ((with_reducible refine XArr.ints (by omega) (by omega) (by omega) ?_); conv => whnf)
      | ((with_reducible refine XArr.intsA (by omega) (by omega) (by omega) ?_); conv => whnf)
      | ((with_reducible refine XArr.nats ?_ ?_ ?_); omega; omega; conv => whnf)
      | ((with_reducible refine XArr.natsA ?_ ?_ ?_); omega; omega; conv => whnf)
      | ((with_reducible apply XArr.pim0); conv => whnf)
      | ((with_reducible apply XArr.pim1); conv => whnf)
      | ((with_reducible refine XArr.ptr ?_ ?_ ?_); omega; omega; conv => whnf)
      | ((with_reducible apply XBr.mk') <;> (intro h; conv => whnf))
  · refine XOut.int ?_
    rw [e3]; rfl

/-- The numbers of a set. -/
def bitsF : Nat → Nat → Nat → List Int
  | 0, _, _ => []
  | f + 1, i, s => if s = 0 then [] else if s % 2 = 1 then (i : Int) :: bitsF f (i + 1) (s / 2) else bitsF f (i + 1) (s / 2)
theorem bitsF_zero : ∀ (f i : Nat), bitsF f i 0 = []
  | 0, _ => rfl
  | f + 1, _ => by simp [bitsF]
theorem bitsF_length : ∀ (f i s : Nat), (bitsF f i s).length ≤ f
  | 0, _, _ => by simp [bitsF]
  | f + 1, i, s => by
    unfold bitsF; have := bitsF_length f (i + 1) (s / 2)
    split
    · simp
    · split <;> simp <;> omega
def bits (s : Nat) : List Int := bitsF 62 0 s
theorem list_c (n : Nat) (hn : n < 4611686018427387904) : Comp Try.prog 81 [.int .i64 n] (slA (bits n)) := by
  refine Comp.body (T := tab) (res := [.tmp 2]) tab_ok [] Try.func81 rfl (by kernel_rfl) Try.ntmps81 rfl (by simp only [List.length_cons, List.length_nil]; decide) (by rfl) ?_; conv => whnf
  refine Walk.nilgr 3 3 rfl ?_
  refine Walk.loop tab_ok [] (fun g : Nat × Nat × List Int => g.1 ≤ 62 ∧ g.2.1 < 2 ^ (62 - g.1) ∧ g.2.2 ++ bitsF (62 - g.1) g.1 g.2.1 = bits n) (fun g => [(0, .int .i64 g.2.1), (3, .gr 0 g.2.2.length), (4, .int .i64 g.1)]) (fun g => [.grow 3 g.2.2.isEmpty (ints g.2.2)]) (fun g => g.2.1) (0, n, []) ⟨by omega, by simpa using hn, rfl⟩ rfl ⟨rfl, rfl, rfl, trivial⟩ ?_
  rintro ⟨i, s, out⟩ ⟨h1, h2, h3⟩
  simp only at h1 h2 h3
  have hlen : (out ++ bitsF (62 - i) i s).length = (bits n).length := by rw [h3]
  have hb := bitsF_length 62 0 n
  have hl : out.length ≤ 62 := by unfold bits at hlen; rw [List.length_append] at hlen; omega
  have hp : 2 ^ (62 - i) ≤ 2 ^ 62 := Nat.pow_le_pow_right (by omega) (by omega)
  have e1 : (s : Int).tdiv 2 = ((s / 2 : Nat) : Int) := rfl
  have e2 : (s : Int).tmod 2 = ((s % 2 : Nat) : Int) := rfl
  have step : 0 < s → 62 - i = (62 - (i + 1)) + 1 := fun h => by
    rcases Nat.lt_or_ge i 62 with h | h
    · omega
    · rw [show 62 - i = 0 by omega] at h2; simp at h2; omega
  have half : 0 < s → s / 2 < 2 ^ (62 - (i + 1)) := fun h => by
    rw [step h, Nat.pow_succ] at h2; omega
  dsimp only
  conv => whnf
  repeat' first
      | ((with_reducible apply XBr.tt); conv => whnf)
      | ((with_reducible apply XBr.ff); conv => whnf)
      | (with_reducible apply XBr.not)
      | ((with_reducible apply XBr.dec) <;> (intro h; first | (exfalso; omega) | ((try simp only [List.length_map] at h); first | (exfalso; omega) | (conv => whnf))))
      | ((with_reducible apply XBr.beq) <;> (intro h; first | (exfalso; omega) | (conv => whnf)))
      | ((with_reducible apply XBr.bne) <;> (intro h; first | (exfalso; omega) | (conv => whnf)))
      | ((with_reducible refine XInt.i64 (by omega) (by omega) ?_); conv => whnf)
      | ((with_reducible refine XHold.mk ?_ ?_); (first | omega | rfl | decide | exact ⟨rfl, by decide, rfl⟩ | exact wideI _ | exact widePr _ | exact wideSk _ | (unfold Room; constructor <;> ((try simp) <;> omega)) | exact ⟨rfl, by simp only [List.length_map], by unfold Room; constructor <;> ((try simp) <;> omega)⟩ | exact ⟨by omega, by omega, by unfold Room; constructor <;> ((try simp) <;> omega)⟩); conv => whnf)
      | ((with_reducible refine XIx.nat ?_ ?_ ?_); omega; (intro _; rfl); conv => whnf)
      | ((with_reducible refine XIx.map ?_ ?_ ?_ ?_); omega; omega; (intro _; rfl); conv => whnf)
      | (with_reducible apply XAnd.mk)
      | ((with_reducible apply Chk.go); conv => whnf)
      | ((with_reducible apply ChkA.go); conv => whnf)
      | ((with_reducible apply ChkF.go); conv => whnf)
      | ((with_reducible apply ChkB.go); conv => whnf)
      | (exact XSame.mk rfl rfl)
      | (exact XSame.mk (by first | rfl | (simp only [List.map_append, List.length_append, List.length_map]; done) | (simp only [List.map_append, List.length_append, List.length_map]; rfl)) (by first | rfl | (simp only [List.map_append]; done) | (simp only [List.map_append]; rfl)))
      | (with_reducible exact trivial)
      | ((with_reducible refine xdrop_app (by rw [List.length_map]; omega) ?_); conv => whnf)
      | ((with_reducible refine XArr.ints (by omega) (by omega) (by omega) ?_); conv => whnf)
      | ((with_reducible refine XArr.intsA (by omega) (by omega) (by omega) ?_); conv => whnf)
      | ((with_reducible refine XArr.nats ?_ ?_ ?_); omega; omega; conv => whnf)
      | ((with_reducible refine XArr.natsA ?_ ?_ ?_); omega; omega; conv => whnf)
      | ((with_reducible apply XArr.pim0); conv => whnf)
      | ((with_reducible apply XArr.pim1); conv => whnf)
      | ((with_reducible refine XArr.ptr ?_ ?_ ?_); omega; omega; conv => whnf)
      | ((with_reducible apply XBr.mk') <;> (intro h; conv => whnf))
  · have hs := step (by omega)
    refine XAgain.go (i + 1, s / 2, out ++ [(i : Int)]) ⟨by dsimp only; omega, half (by omega), ?_⟩ (by dsimp only; omega) ?_ ⟨rfl, ?_, rfl, trivial⟩
    · rw [← h3, hs]
      have : s % 2 = 1 := by rw [e2] at h; omega
      simp only [bitsF, if_neg (show ¬ s = 0 by omega), if_pos this, List.append_assoc, List.singleton_append, Nat.add_sub_cancel]
    · simp
    · simp only [List.length_append]; rfl
  · have hs := step (by omega)
    refine XAgain.go (i + 1, s / 2, out) ⟨by dsimp only; omega, half (by omega), ?_⟩ (by dsimp only; omega) rfl ⟨rfl, rfl, rfl, trivial⟩
    rw [← h3, hs]
    have : ¬ s % 2 = 1 := by rw [e2] at h; omega
    simp only [bitsF, if_neg (show ¬ s = 0 by omega), if_neg this, Nat.add_sub_cancel]
  · have hs : s = 0 := by omega
    subst hs
    rw [bitsF_zero, List.append_nil] at h3
    subst h3
    exact ⟨Froz.grow rfl (by simp) (lowI _)⟩
end GA
