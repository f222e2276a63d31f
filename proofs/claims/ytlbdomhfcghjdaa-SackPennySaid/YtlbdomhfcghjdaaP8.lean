/- Part 8 of a proof: S32, S33, S34, S30b, S35. -/
import Derived.Test.YtlbdomhfcghjdaaP7
section
namespace GA
open Go Go.RowKit Go.Proofs
set_option pp.deepTerms true
set_option maxRecDepth 8000
set_option linter.unusedVariables false
set_option linter.unusedSimpArgs false

/-- The quotients of the last pennies. -/
def usedK (parts s : List Int) : Nat → List (Int × Int)
  | 0 => []
  | k + 1 => if 0 < s.getD k 0 then usedK parts s k ++ [(parts.getD k 0, 2 * s.getD k 0 - 1)] else usedK parts s k
theorem usedK_len (parts s : List Int) : ∀ k, (usedK parts s k).length ≤ k
  | 0 => Nat.le_refl _
  | k + 1 => by
    have := usedK_len parts s k
    unfold usedK; split
    · simp; omega
    · omega
theorem usedK_mem {parts s : List Int} : ∀ {k : Nat} {q : Int × Int}, q ∈ usedK parts s k ↔ ∃ i, i < k ∧ 0 < s.getD i 0 ∧ q = lsQ parts s i
  | 0, q => by simp [usedK]
  | k + 1, q => by
    have ih := usedK_mem (parts := parts) (s := s) (k := k) (q := q)
    unfold usedK
    constructor
    · intro h
      split at h
      · rename_i hk
        rcases List.mem_append.1 h with h | h
        · obtain ⟨i, h1, h2, h3⟩ := ih.1 h; exact ⟨i, by omega, h2, h3⟩
        · simp only [List.mem_singleton] at h; exact ⟨k, by omega, hk, h⟩
      · obtain ⟨i, h1, h2, h3⟩ := ih.1 h; exact ⟨i, by omega, h2, h3⟩
    · rintro ⟨i, h1, h2, h3⟩
      by_cases e : i = k
      · subst e; rw [if_pos h2]; exact List.mem_append.2 (.inr (by rw [h3]; exact List.mem_singleton.2 rfl))
      · split
        · exact List.mem_append.2 (.inl (ih.2 ⟨i, by omega, h2, h3⟩))
        · exact ih.2 ⟨i, by omega, h2, h3⟩
def leastQ (parts s : List Int) : Int × Int := minI (usedK parts s 6) ((usedK parts s 6).length - 1)
def leastD (parts s : List Int) : Int × Int := lowR ((leastQ parts s).1.toNat, (leastQ parts s).2.toNat)
/-- The greatest divisor of a sharing that is right, or that there is none. -/
def dvsR (parts s : List Int) : (Int × Int) × Int :=
  if usedK parts s 6 = [] then ((0, 0), 6) else if 0 < (leastQ parts s).1 ∧ dvB parts s (leastD parts s) = true then (leastD parts s, 0) else ((0, 0), 6)
def divisorR (l : Ld) (s : List Int) : (Int × Int) × Int := if sharedE l s = 0 then dvsR (partsR l) s else ((0, 0), sharedE l s)
theorem shared_ok {l : Ld} {s : List Int} (h : sharedE l s = 0) : LdOk l ∧ OutOk 500 s := by
  unfold sharedE at h
  split at h
  · omega
  · split at h
    · omega
    · split at h
      · omega
      · exact ⟨(checkR_ok l).1 (by omega), by omega, all500 (by assumption)⟩
theorem divisor_c (l : Ld) (nl : Bool) (s : List Int) (o : LdW l) (hx : s.length ≤ 100000) : Comp Try.prog 54 [ldA l, .sl nl (ints s)] (.tup [rtA (divisorR l s).1, .int .i64 (divisorR l s).2]) := by
  refine Comp.body' (T := tab) (res := [.cell 4 87, .tmp 5]) tab_ok [] Try.func54 rfl (by kernel_rfl) Try.ntmps54 rfl (by simp only [List.length_cons, List.length_nil]; decide) (by simp only [lowL, AV.low, ldL, lowI]; rfl) ?_; conv => whnf
  refine XCall.ret (shared_c l nl s o hx) ?_
  conv => whnf
  repeat' first
      | ((with_reducible apply XBr.tt); conv => whnf)
      | ((with_reducible apply XBr.ff); conv => whnf)
      | (with_reducible apply XBr.not)
      | ((with_reducible apply XBr.dec) <;> (intro h; first | (exfalso; omega) | ((try simp only [List.length_map] at h); first | (exfalso; omega) | (conv => whnf))))
      | ((with_reducible apply XBr.beq) <;> (intro h; first | (exfalso; omega) | (conv => whnf)))
      | ((with_reducible apply XBr.bne) <;> (intro h; first | (exfalso; omega) | (conv => whnf)))
      | ((with_reducible refine XInt.i64 (by omega) (by omega) ?_); conv => whnf)
      | ((with_reducible refine XHold.mk ?_ ?_); (first | omega | rfl | decide | exact ⟨rfl, by decide, rfl⟩ | exact wideI _ | exact widePr _ | exact wideSk _ | (unfold Room; constructor <;> ((try simp) <;> omega)) | exact ⟨rfl, by simp only [List.length_map], by unfold Room; constructor <;> ((try simp) <;> omega)⟩ | exact ⟨by omega, by omega, by unfold Room; constructor <;> ((try simp) <;> omega)⟩); conv => whnf)
      | ((with_reducible refine XIx.nat ?_ ?_ ?_); omega; (intro _; rfl); conv => whnf)
      | ((with_reducible refine XIx.map ?_ ?_ ?_ ?_); omega; omega; (intro _; rfl); conv => whnf)
      | (with_reducible apply XAnd.mk)
      | ((with_reducible apply Chk.go); conv => whnf)
      | ((with_reducible apply ChkA.go); conv => whnf)
      | ((with_reducible apply ChkF.go); conv => whnf)
      | ((with_reducible apply ChkB.go); conv => whnf)
      | (exact XSame.mk rfl rfl)
      | (exact XSame.mk (by first | rfl | (simp only [List.map_append, List.length_append, List.length_map]; done) | (simp only [List.map_append, List.length_append, List.length_map]; rfl)) (by first | rfl | (simp only [List.map_append]; done) | (simp only [List.map_append]; rfl)))
      | (with_reducible exact trivial)
      | ((with_reducible refine xdrop_app (by rw [List.length_map]; omega) ?_); conv => whnf)
      | ((with_reducible refine XArr.ints (by omega) (by omega) (by omega) ?_); conv => whnf)
      | ((with_reducible refine XArr.intsA (by omega) (by omega) (by omega) ?_); conv => whnf)
      | ((with_reducible refine XArr.nats ?_ ?_ ?_); omega; omega; conv => whnf)
      | ((with_reducible refine XArr.natsA ?_ ?_ ?_); omega; omega; conv => whnf)
      | ((with_reducible apply XArr.pim0); conv => whnf)
      | ((with_reducible apply XArr.pim1); conv => whnf)
      | ((with_reducible refine XArr.ptr ?_ ?_ ?_); omega; omega; conv => whnf)
      | ((with_reducible apply XBr.mk') <;> (intro h; conv => whnf))
  · unfold divisorR; rw [if_neg (by assumption)]
    exact ⟨Froz.low rfl⟩
  · have h0 := h
    clear h
    obtain ⟨ok, so⟩ := shared_ok h0
    have pk := parts_ok ok
    have hp := parts_c l ok
    have hdv := divides_c l nl s (leastD (partsR l) s) ok so
    unfold divisorR; rw [if_pos h0]
    generalize partsR l = parts at pk hp hdv
    repeat' first
        | ((with_reducible apply XBr.tt); conv => whnf)
        | ((with_reducible apply XBr.ff); conv => whnf)
        | (with_reducible apply XBr.not)
        | ((with_reducible apply XBr.dec) <;> (intro h; first | (exfalso; omega) | ((try simp only [List.length_map] at h); first | (exfalso; omega) | (conv => whnf))))
        | ((with_reducible apply XBr.beq) <;> (intro h; first | (exfalso; omega) | (conv => whnf)))
        | ((with_reducible apply XBr.bne) <;> (intro h; first | (exfalso; omega) | (conv => whnf)))
        | ((with_reducible refine XInt.i64 (by omega) (by omega) ?_); conv => whnf)
        | ((with_reducible refine XHold.mk ?_ ?_); (first | omega | rfl | decide | exact ⟨rfl, by decide, rfl⟩ | exact wideI _ | exact widePr _ | exact wideSk _ | (unfold Room; constructor <;> ((try simp) <;> omega)) | exact ⟨rfl, by simp only [List.length_map], by unfold Room; constructor <;> ((try simp) <;> omega)⟩ | exact ⟨by omega, by omega, by unfold Room; constructor <;> ((try simp) <;> omega)⟩); conv => whnf)
        | ((with_reducible refine XIx.nat ?_ ?_ ?_); omega; (intro _; rfl); conv => whnf)
        | ((with_reducible refine XIx.map ?_ ?_ ?_ ?_); omega; omega; (intro _; rfl); conv => whnf)
        | (with_reducible apply XAnd.mk)
        | ((with_reducible apply Chk.go); conv => whnf)
        | ((with_reducible apply ChkA.go); conv => whnf)
        | ((with_reducible apply ChkF.go); conv => whnf)
        | ((with_reducible apply ChkB.go); conv => whnf)
        | (exact XSame.mk rfl rfl)
        | (exact XSame.mk (by first | rfl | (simp only [List.map_append, List.length_append, List.length_map]; done) | (simp only [List.map_append, List.length_append, List.length_map]; rfl)) (by first | rfl | (simp only [List.map_append]; done) | (simp only [List.map_append]; rfl)))
        | (with_reducible exact trivial)
        | ((with_reducible refine xdrop_app (by rw [List.length_map]; omega) ?_); conv => whnf)
        | ((with_reducible refine XArr.ints (by omega) (by omega) (by omega) ?_); conv => whnf)
        | ((with_reducible refine XArr.intsA (by omega) (by omega) (by omega) ?_); conv => whnf)
        | ((with_reducible refine XArr.nats ?_ ?_ ?_); omega; omega; conv => whnf)
        | ((with_reducible refine XArr.natsA ?_ ?_ ?_); omega; omega; conv => whnf)
        | ((with_reducible apply XArr.pim0); conv => whnf)
        | ((with_reducible apply XArr.pim1); conv => whnf)
        | ((with_reducible refine XArr.ptr ?_ ?_ ?_); omega; omega; conv => whnf)
        | ((refine XCall.ret hp ?_); conv => whnf)
        | ((with_reducible apply XBr.mk') <;> (intro h; conv => whnf))
    refine Walk.nilgr 7 148 rfl ?_
    have pl := pk.1
    have sl := so.1
    refine Walk.loop tab_ok [] (fun k : Nat => k ≤ 6) (fun k => [(1, .sl nl (ints s)), (2, .pim (ldC l)), (4, .ptr 0 0), (5, .int .i64 0), (7, .gr 1 (usedK parts s k).length), (21, .sl false (ints parts)), (22, .int .i64 6), (23, natA k)])
      (fun k => [.cells [.int .i64 0, .int .i64 0], .grow 148 (usedK parts s k).isEmpty ((usedK parts s k).map qA)]) (fun k => 6 - k) 0 (by omega) rfl ⟨rfl, rfl, rfl, rfl, rfl, rfl, congrArg (fun n : Nat => some (AV.int .i64 n)) (by rw [List.length_map, pl]), rfl, trivial⟩ ?_
    intro k hk
    have hul := usedK_len parts s k
    have sv := so.2 k
    have sv2 : 0 ≤ s.getD k default ∧ s.getD k default ≤ 500 := sv
    have hnx : usedK parts s (k + 1) = if 0 < s.getD k 0 then usedK parts s k ++ [(parts.getD k 0, 2 * s.getD k 0 - 1)] else usedK parts s k := rfl
    have hfin : k = 6 → usedK parts s 6 = usedK parts s k := fun h => by rw [h]
    generalize usedK parts s k = us at hul hnx hfin
    conv => whnf
    repeat' first
        | ((with_reducible apply XBr.tt); conv => whnf)
        | ((with_reducible apply XBr.ff); conv => whnf)
        | (with_reducible apply XBr.not)
        | ((with_reducible apply XBr.dec) <;> (intro h; first | (exfalso; omega) | ((try simp only [List.length_map] at h); first | (exfalso; omega) | (conv => whnf))))
        | ((with_reducible apply XBr.beq) <;> (intro h; first | (exfalso; omega) | (conv => whnf)))
        | ((with_reducible apply XBr.bne) <;> (intro h; first | (exfalso; omega) | (conv => whnf)))
        | ((with_reducible refine XInt.i64 (by omega) (by omega) ?_); conv => whnf)
        | ((with_reducible refine XHold.mk ?_ ?_); (first | omega | rfl | decide | exact ⟨rfl, by decide, rfl⟩ | exact wideI _ | exact widePr _ | exact wideSk _ | (unfold Room; constructor <;> ((try simp) <;> omega)) | exact ⟨rfl, by simp only [List.length_map], by unfold Room; constructor <;> ((try simp) <;> omega)⟩ | exact ⟨by omega, by omega, by unfold Room; constructor <;> ((try simp) <;> omega)⟩); conv => whnf)
        | ((with_reducible refine XIx.nat ?_ ?_ ?_); omega; (intro _; rfl); conv => whnf)
        | ((with_reducible refine XIx.map ?_ ?_ ?_ ?_); omega; omega; (intro _; rfl); conv => whnf)
        | (with_reducible apply XAnd.mk)
        | ((with_reducible apply Chk.go); conv => whnf)
        | ((with_reducible apply ChkA.go); conv => whnf)
        | ((with_reducible apply ChkF.go); conv => whnf)
        | ((with_reducible apply ChkB.go); conv => whnf)
        | (exact XSame.mk rfl rfl)
        | (exact XSame.mk (by first | rfl | (simp only [List.map_append, List.length_append, List.length_map]; done) | (simp only [List.map_append, List.length_append, List.length_map]; rfl)) (by first | rfl | (simp only [List.map_append]; done) | (simp only [List.map_append]; rfl)))
        | (with_reducible exact trivial)
        | ((with_reducible refine xdrop_app (by rw [List.length_map]; omega) ?_); conv => whnf)
        | ((with_reducible refine XArr.ints (by omega) (by omega) (by omega) ?_); conv => whnf)
        | ((with_reducible refine XArr.intsA (by omega) (by omega) (by omega) ?_); conv => whnf)
        | ((with_reducible refine XArr.nats ?_ ?_ ?_); omega; omega; conv => whnf)
        | ((with_reducible refine XArr.natsA ?_ ?_ ?_); omega; omega; conv => whnf)
        | ((with_reducible apply XArr.pim0); conv => whnf)
        | ((with_reducible apply XArr.pim1); conv => whnf)
        | ((with_reducible refine XArr.ptr ?_ ?_ ?_); omega; omega; conv => whnf)
        | ((refine XHold.mk (List.length_map _) ?_); conv => whnf)
        | ((with_reducible apply XBr.mk') <;> (intro h; conv => whnf))
    · refine XAgain.go (k + 1) (by omega) (by omega) ?_ ⟨rfl, rfl, rfl, rfl, ?_, rfl, rfl, rfl, trivial⟩
      · rw [hnx, if_pos (show 0 < s.getD k 0 from h)]; simp only [List.map_append, isEmpty_app]; rfl
      · rw [hnx, if_pos (show 0 < s.getD k 0 from h)]; simp only [List.length_append]; rfl
    · refine XAgain.go (k + 1) (by omega) (by omega) ?_ ⟨rfl, rfl, rfl, rfl, ?_, rfl, rfl, rfl, trivial⟩
      · rw [hnx, if_neg (show ¬ 0 < s.getD k 0 from h)]
      · rw [hnx, if_neg (show ¬ 0 < s.getD k 0 from h)]; rfl
    · have hus : us = [] := List.length_eq_zero_iff.1 (by omega)
      have hr : dvsR parts s = ((0, 0), 6) := by unfold dvsR; rw [if_pos (by rw [hfin (by omega), hus])]
      rw [hr]
      exact ⟨Froz.low rfl⟩
    · have hne : us.length ≠ 0 := by omega
      have hqo : ∀ x ∈ us, (0 ≤ x.1 ∧ x.1 ≤ 900) ∧ 1 ≤ x.2 ∧ x.2 ≤ 1000 := by
        intro x hx
        rw [← hfin (by omega)] at hx
        obtain ⟨i, _, h2, rfl⟩ := usedK_mem.1 hx
        have a := pk.2 i
        have b := so.2 i
        unfold lsQ; dsimp only; omega
      have hmm := hqo _ (minI_mem us (us.length - 1) (by omega))
      have hmc := min_c us.isEmpty us (by omega) (by omega) fun x hx => by have := hqo x hx; unfold QOk; omega
      have hlq : leastQ parts s = minI us (us.length - 1) := by unfold leastQ; rw [hfin (by omega)]
      have hr : dvsR parts s = if 0 < (leastQ parts s).1 ∧ dvB parts s (leastD parts s) = true then (leastD parts s, 0) else ((0, 0), 6) := by
        unfold dvsR; rw [if_neg (by rw [hfin (by omega)]; intro e; rw [e] at hne; exact hne rfl)]
      rw [hr, hlq]
      have hld : leastD parts s = lowR ((minI us (us.length - 1)).1.toNat, (minI us (us.length - 1)).2.toNat) := by unfold leastD; rw [hlq]
      generalize minI us (us.length - 1) = m at hmm hmc hld
      obtain ⟨m1, m2⟩ := m
      dsimp only at hmm hld ⊢
      obtain ⟨p, rfl⟩ := Int.eq_ofNat_of_zero_le hmm.1.1
      obtain ⟨q, rfl⟩ := Int.eq_ofNat_of_zero_le (show 0 ≤ m2 by omega)
      rw [Int.toNat_natCast, Int.toNat_natCast] at hld
      have hlc := lowest_c p q (by omega) (by omega) (by omega)
      rw [← hld] at hlc
      have hdb : (0 ≤ (leastD parts s).1 ∧ (leastD parts s).1 ≤ 1000000) ∧ 0 ≤ (leastD parts s).2 ∧ (leastD parts s).2 ≤ 1000000 := by
        rw [hld]; unfold lowR; dsimp only
        have h1 := Nat.div_le_self p (Nat.gcd p q)
        have h2 := Nat.div_le_self q (Nat.gcd p q)
        generalize p / Nat.gcd p q = a at h1
        generalize q / Nat.gcd p q = b at h2
        omega
      have hdc := hdv hdb.1 hdb.2
      generalize leastD parts s = d at hlc hdc
      repeat' first
          | ((with_reducible apply XBr.tt); conv => whnf)
          | ((with_reducible apply XBr.ff); conv => whnf)
          | (with_reducible apply XBr.not)
          | ((with_reducible apply XBr.dec) <;> (intro h; first | (exfalso; omega) | ((try simp only [List.length_map] at h); first | (exfalso; omega) | (conv => whnf))))
          | ((with_reducible apply XBr.beq) <;> (intro h; first | (exfalso; omega) | (conv => whnf)))
          | ((with_reducible apply XBr.bne) <;> (intro h; first | (exfalso; omega) | (conv => whnf)))
          | ((with_reducible refine XInt.i64 (by omega) (by omega) ?_); conv => whnf)
          | ((with_reducible refine XHold.mk ?_ ?_); (first | omega | rfl | decide | exact ⟨rfl, by decide, rfl⟩ | exact wideI _ | exact widePr _ | exact wideSk _ | (unfold Room; constructor <;> ((try simp) <;> omega)) | exact ⟨rfl, by simp only [List.length_map], by unfold Room; constructor <;> ((try simp) <;> omega)⟩ | exact ⟨by omega, by omega, by unfold Room; constructor <;> ((try simp) <;> omega)⟩); conv => whnf)
          | ((with_reducible refine XIx.nat ?_ ?_ ?_); omega; (intro _; rfl); conv => whnf)
          | ((with_reducible refine XIx.map ?_ ?_ ?_ ?_); omega; omega; (intro _; rfl); conv => whnf)
          | (with_reducible apply XAnd.mk)
          | ((with_reducible apply Chk.go); conv => whnf)
          | ((with_reducible apply ChkA.go); conv => whnf)
          | ((with_reducible apply ChkF.go); conv => whnf)
          | ((with_reducible apply ChkB.go); conv => whnf)
          | (exact XSame.mk rfl rfl)
          | (exact XSame.mk (by first | rfl | (simp only [List.map_append, List.length_append, List.length_map]; done) | (simp only [List.map_append, List.length_append, List.length_map]; rfl)) (by first | rfl | (simp only [List.map_append]; done) | (simp only [List.map_append]; rfl)))
          | (with_reducible exact trivial)
          | ((with_reducible refine xdrop_app (by rw [List.length_map]; omega) ?_); conv => whnf)
          | ((with_reducible refine XArr.ints (by omega) (by omega) (by omega) ?_); conv => whnf)
          | ((with_reducible refine XArr.intsA (by omega) (by omega) (by omega) ?_); conv => whnf)
          | ((with_reducible refine XArr.nats ?_ ?_ ?_); omega; omega; conv => whnf)
          | ((with_reducible refine XArr.natsA ?_ ?_ ?_); omega; omega; conv => whnf)
          | ((with_reducible apply XArr.pim0); conv => whnf)
          | ((with_reducible apply XArr.pim1); conv => whnf)
          | ((with_reducible refine XArr.ptr ?_ ?_ ?_); omega; omega; conv => whnf)
          | ((refine XCall.lend hmc (.cons (Froz.grow rfl (List.length_map _) (lowL_map (fun _ => rfl) us)) (.cons (Froz.low rfl) .nil)) rfl ?_); conv => whnf)
          | ((refine XCall.ret hlc ?_); conv => whnf)
          | ((refine XCall.ret hdc ?_); conv => whnf)
          | ((with_reducible apply XBr.mk') <;> (intro h; conv => whnf))
      · rw [if_pos ⟨by assumption, h⟩]; exact ⟨Froz.low rfl⟩
      · rw [if_neg (fun e => by rw [h] at e; cases e.2)]; exact ⟨Froz.low rfl⟩
      · rw [if_neg (fun e => h e.1)]; exact ⟨Froz.low rfl⟩
end GA
end

section
namespace GA
open Go Go.RowKit Go.Proofs
set_option linter.unusedVariables false
set_option linter.unusedSimpArgs false

theorem dv_fle {parts s : List Int} {d : Int × Int} : dvB parts s d = true ↔ ∀ i, i < 6 → Fle (nxQ parts s i) d ∧ (0 < s.getD i 0 → Fle d (lsQ parts s i)) := by
  rw [dvB_iff]
  constructor
  · intro h i hi
    have h1 := h i hi
    have h2 : ¬ ndR parts s d i = true := by rw [h1]; simp
    rw [ndR_iff] at h2
    unfold Fle nxQ lsQ; dsimp only
    exact ⟨by rcases Int.lt_or_le (d.1 * (2 * s.getD i 0 + 1)) (parts.getD i 0 * d.2) with e | e; exact absurd (.inl e) h2; exact e,
      fun hp => by rcases Int.lt_or_le (parts.getD i 0 * d.2) (d.1 * (2 * s.getD i 0 - 1)) with e | e; exact absurd (.inr ⟨hp, e⟩) h2; exact e⟩
  · intro h i hi
    obtain ⟨h1, h2⟩ := h i hi
    cases e : ndR parts s d i with
    | false => rfl
    | true =>
      exfalso
      unfold Fle nxQ at h1; unfold Fle lsQ at h2; dsimp only at h1 h2
      rcases ndR_iff.1 e with e | ⟨e1, e2⟩
      · omega
      · have := h2 e1; omega
theorem low_eq (p q : Nat) (hq : 0 < q) : Fle (p, q) (lowR (p, q)) ∧ Fle (lowR (p, q)) (p, q) ∧ 0 < (lowR (p, q)).2 ∧ (0 < p → 0 < (lowR (p, q)).1) := by
  have hg : 0 < Nat.gcd p q := Nat.gcd_pos_of_pos_right _ hq
  obtain ⟨a, ha⟩ := Nat.gcd_dvd_left p q
  obtain ⟨b, hb⟩ := Nat.gcd_dvd_right p q
  have e1 : p / Nat.gcd p q = a := Nat.div_eq_of_eq_mul_right hg ha
  have e2 : q / Nat.gcd p q = b := Nat.div_eq_of_eq_mul_right hg hb
  unfold lowR Fle; dsimp only
  rw [e1, e2]
  have hx : (p : Int) * b = a * q := by
    have : p * b = a * q := by
      calc p * b = (Nat.gcd p q * a) * b := by rw [← ha]
        _ = a * (Nat.gcd p q * b) := by rw [Nat.mul_comm (Nat.gcd p q) a, Nat.mul_assoc]
        _ = a * q := by rw [← hb]
    exact_mod_cast this
  refine ⟨by omega, by omega, ?_, fun hp => ?_⟩
  · have : b ≠ 0 := fun e => by rw [e, Nat.mul_zero] at hb; omega
    omega
  · have : a ≠ 0 := fun e => by rw [e, Nat.mul_zero] at ha; omega
    omega
theorem minI_le {xs : List (Int × Int)} (hd : ∀ x ∈ xs, 0 < x.2) : ∀ i, i < xs.length → ∀ j, j ≤ i → Fle (minI xs i) (xs.getD j default)
  | 0, h, j, hj => by
    obtain rfl : j = 0 := by omega
    exact Fle.refl _
  | i + 1, h, j, hj => by
    have ih := minI_le hd i (by omega)
    have hm := hd _ (minI_mem xs i (by omega))
    have hx := hd _ (getD_mem (d := default) h)
    unfold minI minS
    split
    · rename_i e
      have hle : Fle (xs.getD (i + 1) default) (minI xs i) := by
        rcases Fle.total (xs.getD (i + 1) default) (minI xs i) with h | h
        · exact h
        · exact absurd h (above_iff.1 e)
      by_cases hji : j = i + 1
      · subst hji; exact Fle.refl _
      · exact hle.trans (ih j (by omega)) (Int.le_of_lt hx) hm (Int.le_of_lt (hd _ (getD_mem (by omega))))
    · rename_i e
      by_cases hji : j = i + 1
      · subst hji
        by_cases hf : Fle (minI xs i) (xs.getD (i + 1) default)
        · exact hf
        · exact absurd (above_iff.2 hf) e
      · exact ih j (by omega)
theorem least_ok {parts s : List Int} (hne : ∃ i, i < 6 ∧ 0 < s.getD i 0) :
    usedK parts s 6 ≠ [] ∧ ∃ i, i < 6 ∧ 0 < s.getD i 0 ∧ leastQ parts s = lsQ parts s i ∧ ∀ j, j < 6 → 0 < s.getD j 0 → Fle (leastQ parts s) (lsQ parts s j) := by
  obtain ⟨i0, hi0, hs0⟩ := hne
  have hm0 : lsQ parts s i0 ∈ usedK parts s 6 := usedK_mem.2 ⟨i0, hi0, hs0, rfl⟩
  have hl : 0 < (usedK parts s 6).length := List.length_pos_iff.2 (List.ne_nil_of_mem hm0)
  have hd : ∀ x ∈ usedK parts s 6, 0 < x.2 := fun x hx => by
    obtain ⟨i, _, h2, rfl⟩ := usedK_mem.1 hx
    unfold lsQ; dsimp only; omega
  refine ⟨List.ne_nil_of_mem hm0, ?_⟩
  obtain ⟨i, h1, h2, h3⟩ := usedK_mem.1 (minI_mem (usedK parts s 6) ((usedK parts s 6).length - 1) (by omega))
  refine ⟨i, h1, h2, h3, fun j hj hs => ?_⟩
  obtain ⟨k, hk, e⟩ := List.mem_iff_getElem.1 (usedK_mem.2 ⟨j, hj, hs, rfl⟩ : lsQ parts s j ∈ usedK parts s 6)
  have := minI_le hd ((usedK parts s 6).length - 1) (by omega) k (by omega)
  rw [List.getD_eq_getElem?_getD, List.getElem?_eq_getElem hk, Option.getD_some, e] at this
  exact this
theorem dvs_yes {parts s : List Int} (hp : ∀ i, 0 ≤ parts.getD i 0) (hs : ∀ i, 0 ≤ s.getD i 0) (hne : ∃ i, i < 6 ∧ 0 < s.getD i 0) (hle : ∀ j, j < 6 → Fle (nxQ parts s j) (leastQ parts s)) (hpos : 0 < (leastQ parts s).1) :
    (dvsR parts s).2 = 0 ∧ 0 < (dvsR parts s).1.1 ∧ 0 < (dvsR parts s).1.2 := by
  obtain ⟨h0, i, hi, hsi, hq, hmin⟩ := least_ok (parts := parts) hne
  have hden : 0 < (leastQ parts s).2 := by rw [hq]; unfold lsQ; dsimp only; omega
  have hL := low_eq (leastQ parts s).1.toNat (leastQ parts s).2.toNat (by omega)
  have hcast : (((leastQ parts s).1.toNat : Int), ((leastQ parts s).2.toNat : Int)) = leastQ parts s := by
    rw [Int.toNat_of_nonneg (Int.le_of_lt hpos), Int.toNat_of_nonneg (Int.le_of_lt hden)]
  rw [hcast] at hL
  obtain ⟨l1, l2, l3, l4⟩ := hL
  have hdv : dvB parts s (leastD parts s) = true := dv_fle.2 fun j hj => ⟨(hle j hj).trans l1 (by have := hs j; show 0 ≤ 2 * s.getD j 0 + 1; omega) hden (Int.le_of_lt l3),
    fun h => l2.trans (hmin j hj h) (Int.le_of_lt l3) hden (by show 0 ≤ 2 * s.getD j 0 - 1; omega)⟩
  have hr : dvsR parts s = (leastD parts s, 0) := by unfold dvsR; rw [if_neg h0, if_pos ⟨hpos, hdv⟩]
  rw [hr]
  exact ⟨rfl, l4 (by omega), l3⟩
theorem dvs_elim (parts s : List Int) (hs : ∀ i, 0 ≤ s.getD i 0) : (dvsR parts s).2 = 6 ∨ ((dvsR parts s).2 = 0 ∧ (∀ i, i < 6 → Fle (nxQ parts s i) (dvsR parts s).1 ∧ (0 < s.getD i 0 → Fle (dvsR parts s).1 (lsQ parts s i))) ∧ 0 < (dvsR parts s).1.2) := by
  unfold dvsR
  by_cases h0 : usedK parts s 6 = []
  · rw [if_pos h0]; exact .inl rfl
  · rw [if_neg h0]
    by_cases h1 : 0 < (leastQ parts s).1 ∧ dvB parts s (leastD parts s) = true
    · rw [if_pos h1]
      refine .inr ⟨rfl, dv_fle.1 h1.2, ?_⟩
      have hne : ∃ i, i < 6 ∧ 0 < s.getD i 0 := by
        obtain ⟨q, hq⟩ := List.exists_mem_of_ne_nil _ h0
        obtain ⟨i, h1, h2, _⟩ := usedK_mem.1 hq
        exact ⟨i, h1, h2⟩
      obtain ⟨_, i, hi, hsi, hq, _⟩ := least_ok (parts := parts) hne
      have hden : 0 < (leastQ parts s).2 := by rw [hq]; unfold lsQ; dsimp only; omega
      exact (low_eq (leastQ parts s).1.toNat (leastQ parts s).2.toNat (by omega)).2.2.1
    · rw [if_neg h1]; exact .inl rfl
/-- A sharing that some divisor agrees with has one. -/
theorem web_dvs {parts s : List Int} (h : Web parts s) (hp : ∀ i, 0 ≤ parts.getD i 0) (hs : ∀ i, 0 ≤ s.getD i 0) (hg : ∃ j, j < 6 ∧ 0 < parts.getD j 0) (hne : ∃ i, i < 6 ∧ 0 < s.getD i 0) :
    (dvsR parts s).2 = 0 ∧ 0 < (dvsR parts s).1.1 ∧ 0 < (dvsR parts s).1.2 := by
  obtain ⟨h0, i, hi, hsi, hq, hmin⟩ := least_ok (parts := parts) hne
  refine dvs_yes hp hs hne (fun j hj => by rw [hq]; exact h i j hi hj hsi) ?_
  rw [hq]
  show 0 < parts.getD i 0
  have := hp i
  rcases Int.lt_or_le 0 (parts.getD i 0) with e | e
  · exact e
  · have := h.none hs hp hg hi (by omega); omega
end GA
end

section
namespace GA
open Go Go.RowKit Go.Proofs
set_option linter.unusedVariables false
set_option linter.unusedSimpArgs false

/-- The one has a penny less, the other one more. -/
def overP (s : List Int) (a b : Nat) : List Int := (s.set a (s.getD a 0 - 1)).set b ((s.set a (s.getD a 0 - 1)).getD b 0 + 1)
theorem over_get {s : List Int} (hl : s.length = 6) {a b : Nat} (ha : a < 6) (hb : b < 6) (hab : a ≠ b) (i : Nat) : (overP s a b).getD i 0 = if i = b then s.getD b 0 + 1 else if i = a then s.getD a 0 - 1 else s.getD i 0 := by
  unfold overP
  rw [getD_set, getD_set, getD_set, List.length_set]
  by_cases e1 : i = b
  · subst e1
    rw [if_pos ⟨rfl, by omega⟩, if_pos rfl, if_neg (fun h => hab h.1)]
  · rw [if_neg (fun h => e1 h.1.symm), if_neg e1]
    by_cases e2 : i = a
    · subst e2; rw [if_pos ⟨rfl, by omega⟩, if_pos rfl]
    · rw [if_neg (fun h => e2 h.1.symm), if_neg e2]
theorem over_ok {parts s : List Int} (h : Web parts s) (hp : ∀ i, 0 ≤ parts.getD i 0) (hs : ∀ i, 0 ≤ s.getD i 0) (hg : ∃ j, j < 6 ∧ 0 < parts.getD j 0) (hl : s.length = 6) {a b : Nat} (ha : a < 6) (hb : b < 6) (hab : a ≠ b) (hsa : 0 < s.getD a 0) :
    (dvsR parts (overP s a b)).2 = 6 ∧ parts.getD a 0 * (2 * s.getD b 0 + 1) ≠ parts.getD b 0 * (2 * s.getD a 0 - 1) ∨
    (dvsR parts (overP s a b)).2 = 0 ∧ parts.getD a 0 * (2 * s.getD b 0 + 1) = parts.getD b 0 * (2 * s.getD a 0 - 1) ∧
      parts.getD a 0 * (dvsR parts (overP s a b)).1.2 = (dvsR parts (overP s a b)).1.1 * (2 * s.getD a 0 - 1) ∧ parts.getD b 0 * (dvsR parts (overP s a b)).1.2 = (dvsR parts (overP s a b)).1.1 * (2 * (overP s a b).getD b 0 - 1) := by
  have og := over_get hl ha hb hab
  have oa : (overP s a b).getD a 0 = s.getD a 0 - 1 := by rw [og, if_neg hab, if_pos rfl]
  have ob : (overP s a b).getD b 0 = s.getD b 0 + 1 := by rw [og, if_pos rfl]
  have os : ∀ i, 0 ≤ (overP s a b).getD i 0 := fun i => by
    rw [og]; have := hs i; have := hs b; split
    · omega
    · split <;> omega
  have na : nxQ parts (overP s a b) a = lsQ parts s a := by unfold nxQ lsQ; rw [oa]; congr 1; omega
  have lb : lsQ parts (overP s a b) b = nxQ parts s b := by unfold nxQ lsQ; rw [ob]; congr 1; omega
  have hab1 : Fle (nxQ parts s b) (lsQ parts s a) := h a b ha hb hsa
  have da : 0 < (lsQ parts s a).2 := by unfold lsQ; dsimp only; omega
  have db : ∀ j, 0 < (nxQ parts s j).2 := fun j => by have := hs j; unfold nxQ; dsimp only; omega
  have wa : 0 < parts.getD a 0 := by
    have := hp a
    rcases Int.lt_or_le 0 (parts.getD a 0) with e | e
    · exact e
    · have := h.none hs hp hg ha (by omega); omega
  generalize ho : overP s a b = o at og oa ob os na lb ⊢
  by_cases hE : parts.getD a 0 * (2 * s.getD b 0 + 1) = parts.getD b 0 * (2 * s.getD a 0 - 1)
  · right
    have hE2 : Fle (lsQ parts s a) (nxQ parts s b) := by unfold Fle nxQ lsQ; dsimp only; omega
    have hwb : 0 < (nxQ parts s b).1 := hE2.pos wa (db b) (Int.le_of_lt da)
    have hne : ∃ i, i < 6 ∧ 0 < o.getD i 0 := ⟨b, hb, by rw [ob]; have := hs b; omega⟩
    have hup : ∀ j, j < 6 → Fle (nxQ parts o j) (nxQ parts s b) := fun j hj => by
      by_cases e1 : j = b
      · subst e1; unfold nxQ; rw [ob]; exact Fle.den (hp j) (by omega)
      · by_cases e2 : j = a
        · subst e2; rw [na]; exact hE2
        · have e3 : nxQ parts o j = nxQ parts s j := by unfold nxQ; rw [og, if_neg e1, if_neg e2]
          rw [e3]
          exact (h a j ha hj hsa).trans hE2 (Int.le_of_lt (db j)) da (Int.le_of_lt (db b))
    have hlo : ∀ i, i < 6 → 0 < o.getD i 0 → Fle (nxQ parts s b) (lsQ parts o i) := fun i hi hpos => by
      by_cases e1 : i = b
      · subst e1; rw [lb]; exact Fle.refl _
      · by_cases e2 : i = a
        · subst e2
          refine hab1.trans ?_ (Int.le_of_lt (db b)) da (by unfold lsQ; dsimp only; omega)
          unfold lsQ; rw [oa]; exact Fle.den (hp i) (by omega)
        · rw [og, if_neg e1, if_neg e2] at hpos
          have e3 : lsQ parts o i = lsQ parts s i := by unfold lsQ; rw [og, if_neg e1, if_neg e2]
          rw [e3]; exact h i b hi hb hpos
    obtain ⟨h0, i, hi, hsi, hq, hmin⟩ := least_ok (parts := parts) hne
    have hLb : Fle (nxQ parts s b) (leastQ parts o) := by rw [hq]; exact hlo i hi hsi
    have hden : 0 < (leastQ parts o).2 := by rw [hq]; unfold lsQ; dsimp only; omega
    have hy := dvs_yes hp os hne (fun j hj => (hup j hj).trans hLb (by have := os j; unfold nxQ; dsimp only; omega) (db b) (Int.le_of_lt hden)) (hLb.pos hwb hden (Int.le_of_lt (db b)))
    rcases dvs_elim parts o os with e | ⟨_, hall, hd⟩
    · rw [hy.1] at e; omega
    · refine ⟨hy.1, hE, ?_⟩
      generalize (dvsR parts o).1 = d at hall hd
      have h1 := (hall a ha).1
      have h2 := (hall b hb).2 (by rw [ob]; have := hs b; omega)
      rw [na] at h1
      have h3 : Fle d (nxQ parts s b) := by rw [← lb]; exact h2
      have h4 := h3.trans hab1 (Int.le_of_lt hd) (db b) (Int.le_of_lt da)
      have h5 := hab1.trans h1 (Int.le_of_lt (db b)) da (Int.le_of_lt hd)
      rw [ob]
      unfold Fle lsQ at h1 h4
      unfold Fle nxQ at h3 h5
      dsimp only at h1 h3 h4 h5
      have e1 : 2 * (s.getD b 0 + 1) - 1 = 2 * s.getD b 0 + 1 := by omega
      rw [e1]
      exact ⟨by omega, by omega⟩
  · left
    rcases dvs_elim parts o os with e | ⟨_, hall, hd⟩
    · exact ⟨e, hE⟩
    · exfalso
      generalize (dvsR parts o).1 = d at hall hd
      have h1 := (hall a ha).1
      have h2 := (hall b hb).2 (by rw [ob]; have := hs b; omega)
      rw [na] at h1
      rw [lb] at h2
      have h3 := h1.trans h2 (Int.le_of_lt da) hd (Int.le_of_lt (db b))
      unfold Fle nxQ lsQ at h3 hab1
      dsimp only at h3 hab1
      omega
end GA
end

section
namespace GA
open Go Go.RowKit Go.Proofs
set_option maxRecDepth 8000
set_option linter.unusedVariables false
set_option linter.unusedSimpArgs false

theorem XPut.ints {els : List AV} {n e : Nat} {k : List AV → Prop} (xs : List Int) (x : Int) (hE : els = GA.ints xs) (h1 : n = xs.length) (h2 : e < n) (h : k (GA.ints (xs.set e x))) : XPut els n e (.int .i64 x) k := by
  subst hE; exact XPut.map (f := .int .i64) x rfl h1 h2 h
theorem dup_g (nl : Bool) (xs : List Int) (hx : xs.length ≤ 100000) : Gives Try.prog 26 [.sl nl (ints xs)] (.gr 0 xs.length) [.grow 3 false (ints xs)] := by
  refine Gives.body (T := tab) (res := [.tmp 2]) tab_ok [] Try.func26 rfl (by kernel_rfl) Try.ntmps26 rfl (by simp only [List.length_cons, List.length_nil]; decide) (by simp only [lowL, AV.low, lowI]; rfl) rfl (fun x hx => by simp only [List.mem_cons, List.not_mem_nil, or_false] at hx; subst hx; exact lowI _) ?_; conv => whnf
  refine XHold.mk ⟨by omega, by simp, by unfold Room; simp; omega⟩ ?_
  conv => whnf
  refine XHold.mk (wideI xs) ?_
  conv => whnf
  refine XHold.mk ⟨rfl, rfl, by unfold Room; simp; omega⟩ ?_
  conv => whnf
  exact XGive.mk' [0] rfl (by decide) ⟨congrArg some (ren_grow _ _ _ _).symm, trivial⟩ (by show AV.gr 0 _ = AV.gr 0 _; congr 1; show 0 + (ints xs).length = _; rw [List.length_map, Nat.zero_add])
/-- A copy, in new memory behind one's own. -/
theorem XCall.dup {nl : Bool} {xs : List Int} {H : List Blk} {k : AV → List Blk → Prop} (hx : xs.length ≤ 100000) (hk : k (.gr H.length xs.length) (H ++ [.grow 3 false (ints xs)])) : XCall Try.prog 26 [.sl nl (ints xs)] H k := by
  refine XCall.give (dup_g nl xs hx) ?_
  rw [List.map_cons, ren_grow, List.map_nil]; exact hk
end GA
end

section
namespace GA
open Go Go.RowKit Go.Proofs
set_option pp.deepTerms true
set_option maxRecDepth 8000
set_option linter.unusedVariables false
set_option linter.unusedSimpArgs false

def tryK (u : Hp) : Nat → Hp
  | 0 => u
  | k + 1 => hpS (hpS (tryK u k))
theorem tryK_ok {u : Hp} (o : u.Ok) : ∀ k, (tryK u k).Ok
  | 0 => o
  | k + 1 => hpS_ok (hpS_ok (tryK_ok o k))
def partsE (l : Ld) : AV := if checkR l = 0 then .tup [.sl false (ints (partsR l)), .int .i64 0] else .tup [.sl true [], .int .i64 (checkR l)]
theorem partsX_c (l : Ld) (o : LdW l) : Comp Try.prog 53 [ldA l] (partsE l) := by
  refine Comp.body (T := tab) (res := [.tmp 2, .tmp 3]) tab_ok [] Try.func53 rfl (by kernel_rfl) Try.ntmps53 rfl (by simp only [List.length_cons, List.length_nil]; decide) (by simp only [lowL, AV.low, ldL]; rfl) ?_; conv => whnf
  refine XCall.ret (check_c l o.w o.h1 o.h2 o.h3) ?_
  conv => whnf
  repeat' first
      | ((with_reducible apply XBr.tt); conv => whnf)
      | ((with_reducible apply XBr.ff); conv => whnf)
      | (with_reducible apply XBr.not)
      | ((with_reducible apply XBr.dec) <;> (intro h; first | (exfalso; omega) | ((try simp only [List.length_map] at h); first | (exfalso; omega) | (conv => whnf))))
      | ((with_reducible apply XBr.beq) <;> (intro h; first | (exfalso; omega) | (conv => whnf)))
      | ((with_reducible apply XBr.bne) <;> (intro h; first | (exfalso; omega) | (conv => whnf)))
      | ((with_reducible refine XInt.i64 (by omega) (by omega) ?_); conv => whnf)
      | ((with_reducible refine XHold.mk ?_ ?_); (first | omega | rfl | decide | exact ⟨rfl, by decide, rfl⟩ | exact wideI _ | exact widePr _ | exact wideSk _ | (unfold Room; constructor <;> ((try simp) <;> omega)) | exact ⟨rfl, by simp only [List.length_map], by unfold Room; constructor <;> ((try simp) <;> omega)⟩ | exact ⟨by omega, by omega, by unfold Room; constructor <;> ((try simp) <;> omega)⟩); conv => whnf)
      | ((with_reducible refine XIx.nat ?_ ?_ ?_); omega; (intro _; rfl); conv => whnf)
      | ((with_reducible refine XIx.map ?_ ?_ ?_ ?_); omega; omega; (intro _; rfl); conv => whnf)
      | (with_reducible apply XAnd.mk)
      | ((with_reducible apply Chk.go); conv => whnf)
      | ((with_reducible apply ChkA.go); conv => whnf)
      | ((with_reducible apply ChkF.go); conv => whnf)
      | ((with_reducible apply ChkB.go); conv => whnf)
      | (exact XSame.mk rfl rfl)
      | (exact XSame.mk (by first | rfl | (simp only [List.map_append, List.length_append, List.length_map]; done) | (simp only [List.map_append, List.length_append, List.length_map]; rfl)) (by first | rfl | (simp only [List.map_append]; done) | (simp only [List.map_append]; rfl)))
      | (with_reducible exact trivial)
      | ((with_reducible refine xdrop_app (by rw [List.length_map]; omega) ?_); conv => whnf)
      | ((with_reducible refine XArr.ints (by omega) (by omega) (by omega) ?_); conv => whnf)
      | ((with_reducible refine XArr.intsA (by omega) (by omega) (by omega) ?_); conv => whnf)
      | ((with_reducible refine XArr.nats ?_ ?_ ?_); omega; omega; conv => whnf)
      | ((with_reducible refine XArr.natsA ?_ ?_ ?_); omega; omega; conv => whnf)
      | ((with_reducible apply XArr.pim0); conv => whnf)
      | ((with_reducible apply XArr.pim1); conv => whnf)
      | ((with_reducible refine XArr.ptr ?_ ?_ ?_); omega; omega; conv => whnf)
      | ((with_reducible apply XBr.mk') <;> (intro h; conv => whnf))
  · unfold partsE; rw [if_neg (by assumption)]; exact ⟨Froz.low rfl⟩
  · have h0 := h
    unfold partsE; rw [if_pos h0]
    refine XCall.ret (parts_c l ((checkR_ok l).1 h0)) ?_
    conv => whnf
    exact ⟨Froz.low (by show lowL 0 _ = true; simp only [lowL, AV.low, lowI]; rfl)⟩
theorem dvsR_bd {parts s : List Int} (pk : PartsOk 9 parts) (so : OutOk 501 s) : (0 ≤ (dvsR parts s).1.1 ∧ (dvsR parts s).1.1 ≤ 900) ∧ 0 ≤ (dvsR parts s).1.2 ∧ (dvsR parts s).1.2 ≤ 2000 := by
  unfold dvsR
  split
  · decide
  · rename_i hne
    split
    · have hl : 0 < (usedK parts s 6).length := List.length_pos_iff.2 hne
      obtain ⟨i, _, h2, h3⟩ := usedK_mem.1 (minI_mem (usedK parts s 6) ((usedK parts s 6).length - 1) (by omega))
      have a := pk.2 i
      have b := so.2 i
      show (0 ≤ (leastD parts s).1 ∧ (leastD parts s).1 ≤ 900) ∧ 0 ≤ (leastD parts s).2 ∧ (leastD parts s).2 ≤ 2000
      unfold leastD leastQ
      rw [h3]
      unfold lowR lsQ
      dsimp only
      have h1 := Nat.div_le_self (parts.getD i 0).toNat (Nat.gcd (parts.getD i 0).toNat (2 * s.getD i 0 - 1).toNat)
      have h2 := Nat.div_le_self (2 * s.getD i 0 - 1).toNat (Nat.gcd (parts.getD i 0).toNat (2 * s.getD i 0 - 1).toNat)
      generalize (parts.getD i 0).toNat / Nat.gcd (parts.getD i 0).toNat (2 * s.getD i 0 - 1).toNat = x at h1 ⊢
      generalize (2 * s.getD i 0 - 1).toNat / Nat.gcd (parts.getD i 0).toNat (2 * s.getD i 0 - 1).toNat = y at h2 ⊢
      omega
    · decide
theorem two_le {n : Int} {xs : List Int} (hl : xs.length = 6) (h0 : ∀ i, 0 ≤ xs.getD i 0) (hs : xs.sum ≤ n) : ∀ a b : Nat, a < 6 → b < 6 → a ≠ b → xs.getD a 0 + xs.getD b 0 ≤ n := by
  match xs, hl with
  | [x0, x1, x2, x3, x4, x5], _ =>
    have i0 := h0 0
    have i1 := h0 1
    have i2 := h0 2
    have i3 := h0 3
    have i4 := h0 4
    have i5 := h0 5
    simp at i0 i1 i2 i3 i4 i5 hs
    intro a b ha hb hab
    match a, ha, b, hb, hab with
    | 0, _, 0, _, h | 1, _, 1, _, h | 2, _, 2, _, h | 3, _, 3, _, h | 4, _, 4, _, h | 5, _, 5, _, h => exact absurd rfl h
    | 0, _, 1, _, _ | 0, _, 2, _, _ | 0, _, 3, _, _ | 0, _, 4, _, _ | 0, _, 5, _, _ | 1, _, 0, _, _ | 1, _, 2, _, _ | 1, _, 3, _, _ | 1, _, 4, _, _ | 1, _, 5, _, _
    | 2, _, 0, _, _ | 2, _, 1, _, _ | 2, _, 3, _, _ | 2, _, 4, _, _ | 2, _, 5, _, _ | 3, _, 0, _, _ | 3, _, 1, _, _ | 3, _, 2, _, _ | 3, _, 4, _, _ | 3, _, 5, _, _
    | 4, _, 0, _, _ | 4, _, 1, _, _ | 4, _, 2, _, _ | 4, _, 3, _, _ | 4, _, 5, _, _ | 5, _, 0, _, _ | 5, _, 1, _, _ | 5, _, 2, _, _ | 5, _, 3, _, _ | 5, _, 4, _, _ => simp; omega
set_option maxHeartbeats 4000000 in
theorem sackPenny_c (n1 n2 : Bool) (xs ys : List Int) (p : Int) (hx : xs.length < 9223372036854775808) (hy : ys.length < 9223372036854775808) (hp : 0 ≤ p ∧ p ≤ 65535) :
    Comp Try.prog 10 [.sl n1 (bytes xs), .sl n2 (bytes ys), .int .u16 p] (.bool true) := by
  have mo := made_c (hp0 n1 xs) 9 0 (hp0_ok hx) (by omega) (by omega) (by omega) (by omega)
  have lo := madeL_ok (hp0 n1 xs) 9 0 (by omega) (by omega) (by omega) (by omega) (hp0_ok hx)
  have lw : LdW (madeL (hp0 n1 xs) 9 0) := ldW lo (fun h => by simpa [madeL] using h)
  generalize madeL (hp0 n1 xs) 9 0 = l at mo lo lw
  generalize madeH (hp0 n1 xs) 9 0 = u1 at mo
  have hpen : 0 ≤ p.tmod 500 ∧ p.tmod 500 ≤ 499 := by rw [Int.tmod_eq_emod_of_nonneg hp.1]; omega
  have hq := partsX_c l lw
  unfold partsE at hq
  rw [if_pos ((checkR_ok l).2 lo)] at hq
  have hs := share_c l (1 + p.tmod 500) lw
  have hs2 := share_c l (1 + p.tmod 500 - 1) lw
  unfold shareR at hs hs2
  have hE1 : shareE l (1 + p.tmod 500) = if greatestR (partsR l) = 0 then 6 else 0 := by
    unfold shareE
    rw [if_neg (by rw [(checkR_ok l).2 lo]; simp), if_neg (by rw [inB_iff.2 (by omega)]; simp)]
    by_cases hc : greatestR (partsR l) = 0
    · rw [if_pos ⟨by omega, hc⟩, if_pos hc]
    · rw [if_neg (fun h => hc h.2), if_neg hc]
  have hE2 : shareE l (1 + p.tmod 500 - 1) = if (p.tmod 500 ≠ 0 ∧ greatestR (partsR l) = 0) then 6 else 0 := by
    unfold shareE
    rw [if_neg (by rw [(checkR_ok l).2 lo]; simp), if_neg (by rw [inB_iff.2 (by omega)]; simp)]
    by_cases hc : p.tmod 500 ≠ 0 ∧ greatestR (partsR l) = 0
    · rw [if_pos ⟨by omega, hc.2⟩, if_pos hc]
    · rw [if_neg (fun h => hc ⟨by omega, h.2⟩), if_neg hc]
  refine Comp.body' (T := tab) (res := [.tmp 6]) tab_ok [] Try.func10 rfl (by kernel_rfl) Try.ntmps10 rfl (by simp only [List.length_cons, List.length_nil]; decide) (by simp only [lowL, AV.low, lowBy]; rfl) ?_; conv => whnf
  by_cases hz : greatestR (partsR l) = 0
  · have hsk := greatest_zero lo hz
    have hsl : ((l.sacks.map skA).length : Int) = 0 := by rw [hsk]; rfl
    rw [if_pos hz] at hE1
    have hpl : ((ints (partsR l)).length : Int) = 6 := by rw [List.length_map, (parts_ok lo).1]; rfl
    rw [if_neg (by omega)] at hs
    rw [hE1] at hs
    by_cases hn : p.tmod 500 = 0
    · rw [if_neg (fun h => h.1 hn)] at hE2
      rw [if_pos hE2] at hs2
      repeat' first
          | ((with_reducible apply XBr.tt); conv => whnf)
          | ((with_reducible apply XBr.ff); conv => whnf)
          | (with_reducible apply XBr.not)
          | ((with_reducible apply XBr.dec) <;> (intro h; first | (exfalso; omega) | ((try simp only [List.length_map] at h); first | (exfalso; omega) | (conv => whnf))))
          | ((with_reducible apply XBr.beq) <;> (intro h; first | (exfalso; omega) | (conv => whnf)))
          | ((with_reducible apply XBr.bne) <;> (intro h; first | (exfalso; omega) | (conv => whnf)))
          | ((with_reducible refine XInt.i64 (by omega) (by omega) ?_); conv => whnf)
          | ((with_reducible refine XHold.mk ?_ ?_); (first | omega | rfl | decide | exact ⟨rfl, by decide, rfl⟩ | exact wideI _ | exact widePr _ | exact wideSk _ | (unfold Room; constructor <;> ((try simp) <;> omega)) | exact ⟨rfl, by simp only [List.length_map], by unfold Room; constructor <;> ((try simp) <;> omega)⟩ | exact ⟨by omega, by omega, by unfold Room; constructor <;> ((try simp) <;> omega)⟩); conv => whnf)
          | ((with_reducible refine XIx.nat ?_ ?_ ?_); omega; (intro _; rfl); conv => whnf)
          | ((with_reducible refine XIx.map ?_ ?_ ?_ ?_); omega; omega; (intro _; rfl); conv => whnf)
          | (with_reducible apply XAnd.mk)
          | ((with_reducible apply Chk.go); conv => whnf)
          | ((with_reducible apply ChkA.go); conv => whnf)
          | ((with_reducible apply ChkF.go); conv => whnf)
          | ((with_reducible apply ChkB.go); conv => whnf)
          | (exact XSame.mk rfl rfl)
          | (exact XSame.mk (by first | rfl | (simp only [List.map_append, List.length_append, List.length_map]; done) | (simp only [List.map_append, List.length_append, List.length_map]; rfl)) (by first | rfl | (simp only [List.map_append]; done) | (simp only [List.map_append]; rfl)))
          | (with_reducible exact trivial)
          | ((with_reducible refine xdrop_app (by rw [List.length_map]; omega) ?_); conv => whnf)
          | ((with_reducible refine XArr.ints (by omega) (by omega) (by omega) ?_); conv => whnf)
          | ((with_reducible refine XArr.intsA (by omega) (by omega) (by omega) ?_); conv => whnf)
          | ((with_reducible refine XArr.nats ?_ ?_ ?_); omega; omega; conv => whnf)
          | ((with_reducible refine XArr.natsA ?_ ?_ ?_); omega; omega; conv => whnf)
          | ((with_reducible apply XArr.pim0); conv => whnf)
          | ((with_reducible apply XArr.pim1); conv => whnf)
          | ((with_reducible refine XArr.ptr ?_ ?_ ?_); omega; omega; conv => whnf)
          | (refine XCall.inl (T := tab) (res := [.tmp 2]) tab_ok [5] Try.func17 rfl (by kernel_rfl) Try.ntmps17 rfl (by simp only [List.length_append, List.length_cons, List.length_nil]; decide) ?_; conv => whnf)
          | ((refine XCall.hp (j := 0) mo (ldL l) rfl ?_); conv => whnf)
          | ((refine XCall.ret hq ?_); conv => whnf)
          | ((refine XCall.ret hs ?_); conv => whnf)
          | ((refine XCall.ret hs2 ?_); conv => whnf)
          | ((refine XCall.ret awake_c ?_); conv => whnf)
          | ((with_reducible apply XBr.mk') <;> (intro h; conv => whnf))
      exact XOut.bool rfl
    · rw [if_pos ⟨hn, hz⟩] at hE2
      rw [if_neg (by omega)] at hs2
      rw [hE2] at hs2
      repeat' first
          | ((with_reducible apply XBr.tt); conv => whnf)
          | ((with_reducible apply XBr.ff); conv => whnf)
          | (with_reducible apply XBr.not)
          | ((with_reducible apply XBr.dec) <;> (intro h; first | (exfalso; omega) | ((try simp only [List.length_map] at h); first | (exfalso; omega) | (conv => whnf))))
          | ((with_reducible apply XBr.beq) <;> (intro h; first | (exfalso; omega) | (conv => whnf)))
          | ((with_reducible apply XBr.bne) <;> (intro h; first | (exfalso; omega) | (conv => whnf)))
          | ((with_reducible refine XInt.i64 (by omega) (by omega) ?_); conv => whnf)
          | ((with_reducible refine XHold.mk ?_ ?_); (first | omega | rfl | decide | exact ⟨rfl, by decide, rfl⟩ | exact wideI _ | exact widePr _ | exact wideSk _ | (unfold Room; constructor <;> ((try simp) <;> omega)) | exact ⟨rfl, by simp only [List.length_map], by unfold Room; constructor <;> ((try simp) <;> omega)⟩ | exact ⟨by omega, by omega, by unfold Room; constructor <;> ((try simp) <;> omega)⟩); conv => whnf)
          | ((with_reducible refine XIx.nat ?_ ?_ ?_); omega; (intro _; rfl); conv => whnf)
          | ((with_reducible refine XIx.map ?_ ?_ ?_ ?_); omega; omega; (intro _; rfl); conv => whnf)
          | (with_reducible apply XAnd.mk)
          | ((with_reducible apply Chk.go); conv => whnf)
          | ((with_reducible apply ChkA.go); conv => whnf)
          | ((with_reducible apply ChkF.go); conv => whnf)
          | ((with_reducible apply ChkB.go); conv => whnf)
          | (exact XSame.mk rfl rfl)
          | (exact XSame.mk (by first | rfl | (simp only [List.map_append, List.length_append, List.length_map]; done) | (simp only [List.map_append, List.length_append, List.length_map]; rfl)) (by first | rfl | (simp only [List.map_append]; done) | (simp only [List.map_append]; rfl)))
          | (with_reducible exact trivial)
          | ((with_reducible refine xdrop_app (by rw [List.length_map]; omega) ?_); conv => whnf)
          | ((with_reducible refine XArr.ints (by omega) (by omega) (by omega) ?_); conv => whnf)
          | ((with_reducible refine XArr.intsA (by omega) (by omega) (by omega) ?_); conv => whnf)
          | ((with_reducible refine XArr.nats ?_ ?_ ?_); omega; omega; conv => whnf)
          | ((with_reducible refine XArr.natsA ?_ ?_ ?_); omega; omega; conv => whnf)
          | ((with_reducible apply XArr.pim0); conv => whnf)
          | ((with_reducible apply XArr.pim1); conv => whnf)
          | ((with_reducible refine XArr.ptr ?_ ?_ ?_); omega; omega; conv => whnf)
          | (refine XCall.inl (T := tab) (res := [.tmp 2]) tab_ok [5] Try.func17 rfl (by kernel_rfl) Try.ntmps17 rfl (by simp only [List.length_append, List.length_cons, List.length_nil]; decide) ?_; conv => whnf)
          | ((refine XCall.hp (j := 0) mo (ldL l) rfl ?_); conv => whnf)
          | ((refine XCall.ret hq ?_); conv => whnf)
          | ((refine XCall.ret hs ?_); conv => whnf)
          | ((refine XCall.ret hs2 ?_); conv => whnf)
          | ((refine XCall.ret awake_c ?_); conv => whnf)
          | ((with_reducible apply XBr.mk') <;> (intro h; conv => whnf))
      exact XOut.bool rfl
  · rw [if_neg hz] at hE1
    rw [if_neg (fun h => hz h.2)] at hE2
    rw [if_pos hE1] at hs
    rw [if_pos hE2] at hs2
    have pk := parts_ok lo
    have hg : ∃ j, j < 6 ∧ 0 < (partsR l).getD j 0 := by
      by_cases hx : ∃ j, j < 6 ∧ 0 < (partsR l).getD j 0
      · exact hx
      · exfalso
        apply hz
        have h1 : ∀ x ∈ partsR l, x = 0 := fun x hxm => by
          obtain ⟨j, hj, rfl⟩ := List.mem_iff_getElem.1 hxm
          have a := pk.2 j
          have b : ¬ 0 < (partsR l).getD j 0 := fun h => hx ⟨j, by have := pk.1; omega, h⟩
          rw [List.getD_eq_getElem?_getD, List.getElem?_eq_getElem hj, Option.getD_some] at a b; omega
        have h2 := le_greatest (partsR l) 0
        have : greatestR (partsR l) = 0 := by
          have h3 : partsR l = List.replicate 6 0 := List.eq_replicate_iff.2 ⟨pk.1, h1⟩
          rw [h3]; rfl
        exact this
    have hsl : ((l.sacks.map skA).length : Int) ≠ 0 := fun e => hz (by
      have : l.sacks = [] := List.length_eq_zero_iff.1 (by rw [List.length_map] at e; omega)
      unfold partsR; rw [this]; rfl)
    have hWn := share_web pk hg
    have hOn := shareI_ok pk
    have hSn := share_sum pk
    have hwn := pqI_ok pk (hOn (p.tmod 500).toNat) 6 (Nat.le_refl _)
    have e1 : (1 + p.tmod 500).toNat = (p.tmod 500).toNat + 1 := by omega
    have e2 : (1 + p.tmod 500 - 1).toNat = (p.tmod 500).toNat := by omega
    rw [e1] at hs
    rw [e2] at hs2
    have hst : shareI (partsR l) ((p.tmod 500).toNat + 1) = shareStep (partsR l) (shareI (partsR l) (p.tmod 500).toNat) := rfl
    have hpl : ((ints (partsR l)).length : Int) = 6 := by rw [List.length_map, pk.1]; rfl
    have hdv : ∀ (nl : Bool) (s : List Int), OutOk 500 s → Comp Try.prog 54 [ldA l, .sl nl (ints s)] (.tup [rtA (dvsR (partsR l) s).1, .int .i64 (dvsR (partsR l) s).2]) := fun nl s o => by
      have h := divisor_c l nl s lw (by rw [o.1]; decide)
      unfold divisorR at h
      rw [if_pos (sharedE_zero lo o.1 fun x hx => by
        obtain ⟨j, hj, rfl⟩ := List.mem_iff_getElem.1 hx
        have := o.2 j
        rw [List.getD_eq_getElem?_getD, List.getElem?_eq_getElem hj, Option.getD_some] at this; omega)] at h
      exact h
    have hWS := hWn ((p.tmod 500).toNat + 1)
    have hOS := hOn ((p.tmod 500).toNat + 1)
    have hOL := hOn (p.tmod 500).toNat
    have hSS := hSn ((p.tmod 500).toNat + 1)
    have hSL := hSn (p.tmod 500).toNat
    have hSLi : ∀ i, (shareI (partsR l) ((p.tmod 500).toNat + 1)).getD i 0 = (shareI (partsR l) (p.tmod 500).toNat).getD i 0 ∨ (shareI (partsR l) ((p.tmod 500).toNat + 1)).getD i 0 = (shareI (partsR l) (p.tmod 500).toNat).getD i 0 + 1 := fun i => by
      rw [hst]; unfold shareStep
      rw [getD_set]
      split
      · rename_i h; rw [h.1]; exact .inr rfl
      · exact .inl rfl
    have hp0 := fun i => (pk.2 i).1
    generalize partsR l = parts at *
    generalize shareI parts ((p.tmod 500).toNat + 1) = S at *
    generalize shareI parts (p.tmod 500).toNat = L at *
    have hS6 : ((ints S).length : Int) = 6 := by rw [List.length_map, hOS.1]; rfl
    have hL6 : ((ints L).length : Int) = 6 := by rw [List.length_map, hOL.1]; rfl
    clear hwn hWn hOn hSn hst
    have qS := hOS.1
    have qL := hOL.1
    have qP := pk.1
    repeat' first
        | ((with_reducible apply XBr.tt); conv => whnf)
        | ((with_reducible apply XBr.ff); conv => whnf)
        | (with_reducible apply XBr.not)
        | ((with_reducible apply XBr.dec) <;> (intro h; first | (exfalso; omega) | ((try simp only [List.length_map] at h); first | (exfalso; omega) | (conv => whnf))))
        | ((with_reducible apply XBr.beq) <;> (intro h; first | (exfalso; omega) | (conv => whnf)))
        | ((with_reducible apply XBr.bne) <;> (intro h; first | (exfalso; omega) | (conv => whnf)))
        | ((with_reducible refine XInt.i64 (by omega) (by omega) ?_); conv => whnf)
        | ((with_reducible refine XHold.mk ?_ ?_); (first | omega | rfl | decide | exact ⟨rfl, by decide, rfl⟩ | exact wideI _ | exact widePr _ | exact wideSk _ | (unfold Room; constructor <;> ((try simp) <;> omega)) | exact ⟨rfl, by simp only [List.length_map], by unfold Room; constructor <;> ((try simp) <;> omega)⟩ | exact ⟨by omega, by omega, by unfold Room; constructor <;> ((try simp) <;> omega)⟩); conv => whnf)
        | ((with_reducible refine XIx.nat ?_ ?_ ?_); omega; (intro _; rfl); conv => whnf)
        | ((with_reducible refine XIx.map ?_ ?_ ?_ ?_); omega; omega; (intro _; rfl); conv => whnf)
        | (with_reducible apply XAnd.mk)
        | ((with_reducible apply Chk.go); conv => whnf)
        | ((with_reducible apply ChkA.go); conv => whnf)
        | ((with_reducible apply ChkF.go); conv => whnf)
        | ((with_reducible apply ChkB.go); conv => whnf)
        | (exact XSame.mk rfl rfl)
        | (exact XSame.mk (by first | rfl | (simp only [List.map_append, List.length_append, List.length_map]; done) | (simp only [List.map_append, List.length_append, List.length_map]; rfl)) (by first | rfl | (simp only [List.map_append]; done) | (simp only [List.map_append]; rfl)))
        | (with_reducible exact trivial)
        | ((with_reducible refine xdrop_app (by rw [List.length_map]; omega) ?_); conv => whnf)
        | ((with_reducible refine XArr.ints (by omega) (by omega) (by omega) ?_); conv => whnf)
        | ((with_reducible refine XArr.intsA (by omega) (by omega) (by omega) ?_); conv => whnf)
        | ((with_reducible refine XArr.nats ?_ ?_ ?_); omega; omega; conv => whnf)
        | ((with_reducible refine XArr.natsA ?_ ?_ ?_); omega; omega; conv => whnf)
        | ((with_reducible apply XArr.pim0); conv => whnf)
        | ((with_reducible apply XArr.pim1); conv => whnf)
        | ((with_reducible refine XArr.ptr ?_ ?_ ?_); omega; omega; conv => whnf)
        | (refine XCall.inl (T := tab) (res := [.tmp 2]) tab_ok [5] Try.func17 rfl (by kernel_rfl) Try.ntmps17 rfl (by simp only [List.length_append, List.length_cons, List.length_nil]; decide) ?_; conv => whnf)
        | ((refine XCall.hp (j := 0) mo (ldL l) rfl ?_); conv => whnf)
        | ((refine XCall.ret hq ?_); conv => whnf)
        | ((refine XCall.ret hs ?_); conv => whnf)
        | ((refine XCall.ret hs2 ?_); conv => whnf)
        | ((refine XCall.ret awake_c ?_); conv => whnf)
        | ((with_reducible apply XBr.mk') <;> (intro h; conv => whnf))
    refine Walk.loop tab_ok [] (fun i : Nat => i ≤ 6) (fun i => [(7, .ptr 1 0), (8, .ptr 2 0), (10, .sl false (ints parts)), (12, .sl false (ints S)), (14, .sl false (ints L)), (16, .int .i64 ((S.take i).sum - (L.take i).sum)), (94, .sl false (ints S)), (95, .int .i64 6), (96, natA i)])
      (fun _ => [hpC u1, .cells (ldC l), hpC (GA.hp0 n2 ys)]) (fun i => 6 - i) 0 (by omega) rfl ⟨rfl, rfl, rfl, rfl, rfl, rfl, rfl, congrArg (fun n : Int => some (AV.int .i64 n)) hS6, rfl, trivial⟩ ?_
    intro i hi
    have tS := take_bound (n := 500) i (fun j => by have := hOS.2 j; omega) (xs := S)
    have tL := take_bound (n := 500) i (fun j => by have := hOL.2 j; omega) (xs := L)
    have nS := fun h => take_sum S i h
    have nL := fun h => take_sum L i h
    have fS : i = 6 → (S.take i).sum - (L.take i).sum = 1 := fun h => by rw [h, List.take_of_length_le (by have := hOS.1; omega), List.take_of_length_le (by have := hOL.1; omega), hSS, hSL]; omega
    generalize (S.take i).sum = aS at tS nS fS
    generalize (L.take i).sum = aL at tL nL fS
    have vS := hOS.2 i
    have vL := hOL.2 i
    have vS2 : 0 ≤ S.getD i default ∧ S.getD i default ≤ 500 := by have : 0 ≤ S.getD i default ∧ S.getD i default ≤ ((p.tmod 500).toNat + 1 : Nat) := vS; omega
    have vL2 : 0 ≤ L.getD i default ∧ L.getD i default ≤ 500 := by have : 0 ≤ L.getD i default ∧ L.getD i default ≤ ((p.tmod 500).toNat : Nat) := vL; omega
    have vSL : S.getD i default = L.getD i default ∨ S.getD i default = L.getD i default + 1 := hSLi i
    have vP : parts.getD i default = 0 → (i : Int) < 6 → S.getD i default = 0 := fun e h => hWS.none (fun j => (hOS.2 j).1) hp0 hg (by omega) e
    conv => whnf
    repeat' first
        | ((with_reducible apply XBr.tt); conv => whnf)
        | ((with_reducible apply XBr.ff); conv => whnf)
        | (with_reducible apply XBr.not)
        | ((with_reducible apply XBr.dec) <;> (intro h; first | (exfalso; omega) | ((try simp only [List.length_map] at h); first | (exfalso; omega) | (conv => whnf))))
        | ((with_reducible apply XBr.beq) <;> (intro h; first | (exfalso; omega) | (conv => whnf)))
        | ((with_reducible apply XBr.bne) <;> (intro h; first | (exfalso; omega) | (conv => whnf)))
        | ((with_reducible refine XInt.i64 (by omega) (by omega) ?_); conv => whnf)
        | ((with_reducible refine XHold.mk ?_ ?_); (first | omega | rfl | decide | exact ⟨rfl, by decide, rfl⟩ | exact wideI _ | exact widePr _ | exact wideSk _ | (unfold Room; constructor <;> ((try simp) <;> omega)) | exact ⟨rfl, by simp only [List.length_map], by unfold Room; constructor <;> ((try simp) <;> omega)⟩ | exact ⟨by omega, by omega, by unfold Room; constructor <;> ((try simp) <;> omega)⟩); conv => whnf)
        | ((with_reducible refine XIx.nat ?_ ?_ ?_); omega; (intro _; rfl); conv => whnf)
        | ((with_reducible refine XIx.map ?_ ?_ ?_ ?_); omega; omega; (intro _; rfl); conv => whnf)
        | (with_reducible apply XAnd.mk)
        | ((with_reducible apply Chk.go); conv => whnf)
        | ((with_reducible apply ChkA.go); conv => whnf)
        | ((with_reducible apply ChkF.go); conv => whnf)
        | ((with_reducible apply ChkB.go); conv => whnf)
        | (exact XSame.mk rfl rfl)
        | (exact XSame.mk (by first | rfl | (simp only [List.map_append, List.length_append, List.length_map]; done) | (simp only [List.map_append, List.length_append, List.length_map]; rfl)) (by first | rfl | (simp only [List.map_append]; done) | (simp only [List.map_append]; rfl)))
        | (with_reducible exact trivial)
        | ((with_reducible refine xdrop_app (by rw [List.length_map]; omega) ?_); conv => whnf)
        | ((with_reducible refine XArr.ints (by omega) (by omega) (by omega) ?_); conv => whnf)
        | ((with_reducible refine XArr.intsA (by omega) (by omega) (by omega) ?_); conv => whnf)
        | ((with_reducible refine XArr.nats ?_ ?_ ?_); omega; omega; conv => whnf)
        | ((with_reducible refine XArr.natsA ?_ ?_ ?_); omega; omega; conv => whnf)
        | ((with_reducible apply XArr.pim0); conv => whnf)
        | ((with_reducible apply XArr.pim1); conv => whnf)
        | ((with_reducible refine XArr.ptr ?_ ?_ ?_); omega; omega; conv => whnf)
        | ((with_reducible apply XBr.mk') <;> (intro h; conv => whnf))
    · refine Walk.norm tab_ok [] [(7, .ptr 1 0), (8, .ptr 2 0), (10, .sl false (ints parts)), (12, .sl false (ints S)), (14, .sl false (ints L)), (16, .int .i64 (aS - aL)), (17, natA i), (18, .int .i64 (S.getD i default)), (94, .sl false (ints S)), (95, .int .i64 6), (96, natA i)] ⟨rfl, rfl, rfl, rfl, rfl, rfl, rfl, rfl, rfl, rfl, rfl, trivial⟩ ?_
      conv => whnf
      repeat' first
          | ((with_reducible apply XBr.tt); conv => whnf)
          | ((with_reducible apply XBr.ff); conv => whnf)
          | (with_reducible apply XBr.not)
          | ((with_reducible apply XBr.dec) <;> (intro h; first | (exfalso; omega) | ((try simp only [List.length_map] at h); first | (exfalso; omega) | (conv => whnf))))
          | ((with_reducible apply XBr.beq) <;> (intro h; first | (exfalso; omega) | (conv => whnf)))
          | ((with_reducible apply XBr.bne) <;> (intro h; first | (exfalso; omega) | (conv => whnf)))
          | ((with_reducible refine XInt.i64 (by omega) (by omega) ?_); conv => whnf)
          | ((with_reducible refine XHold.mk ?_ ?_); (first | omega | rfl | decide | exact ⟨rfl, by decide, rfl⟩ | exact wideI _ | exact widePr _ | exact wideSk _ | (unfold Room; constructor <;> ((try simp) <;> omega)) | exact ⟨rfl, by simp only [List.length_map], by unfold Room; constructor <;> ((try simp) <;> omega)⟩ | exact ⟨by omega, by omega, by unfold Room; constructor <;> ((try simp) <;> omega)⟩); conv => whnf)
          | ((with_reducible refine XIx.nat ?_ ?_ ?_); omega; (intro _; rfl); conv => whnf)
          | ((with_reducible refine XIx.map ?_ ?_ ?_ ?_); omega; omega; (intro _; rfl); conv => whnf)
          | (with_reducible apply XAnd.mk)
          | ((with_reducible apply Chk.go); conv => whnf)
          | ((with_reducible apply ChkA.go); conv => whnf)
          | ((with_reducible apply ChkF.go); conv => whnf)
          | ((with_reducible apply ChkB.go); conv => whnf)
          | (exact XSame.mk rfl rfl)
          | (exact XSame.mk (by first | rfl | (simp only [List.map_append, List.length_append, List.length_map]; done) | (simp only [List.map_append, List.length_append, List.length_map]; rfl)) (by first | rfl | (simp only [List.map_append]; done) | (simp only [List.map_append]; rfl)))
          | (with_reducible exact trivial)
          | ((with_reducible refine xdrop_app (by rw [List.length_map]; omega) ?_); conv => whnf)
          | ((with_reducible refine XArr.ints (by omega) (by omega) (by omega) ?_); conv => whnf)
          | ((with_reducible refine XArr.intsA (by omega) (by omega) (by omega) ?_); conv => whnf)
          | ((with_reducible refine XArr.nats ?_ ?_ ?_); omega; omega; conv => whnf)
          | ((with_reducible refine XArr.natsA ?_ ?_ ?_); omega; omega; conv => whnf)
          | ((with_reducible apply XArr.pim0); conv => whnf)
          | ((with_reducible apply XArr.pim1); conv => whnf)
          | ((with_reducible refine XArr.ptr ?_ ?_ ?_); omega; omega; conv => whnf)
          | ((with_reducible apply XBr.mk') <;> (intro h; conv => whnf))
      · skip
        refine Walk.loop tab_ok [] (fun j : Nat => j ≤ 6) (fun j => [(7, .ptr 1 0), (8, .ptr 2 0), (10, .sl false (ints parts)), (12, .sl false (ints S)), (14, .sl false (ints L)), (16, .int .i64 (aS - aL + (S.getD i default - L.getD i default))), (17, natA i), (18, .int .i64 (S.getD i default)), (94, .sl false (ints S)), (95, .int .i64 6), (96, natA i), (135, .sl false (ints S)), (136, .int .i64 6), (137, natA j)])
          (fun _ => [hpC u1, .cells (ldC l), hpC (GA.hp0 n2 ys)]) (fun j => 6 - j) 0 (by omega) rfl ⟨rfl, rfl, rfl, rfl, rfl, rfl, rfl, rfl, rfl, rfl, rfl, rfl, congrArg (fun n : Int => some (AV.int .i64 n)) hS6, rfl, trivial⟩ ?_
        intro j hj
        have hmo : (j : Int) < 6 → (i : Int) < 6 → parts.getD j default < parts.getD i default → S.getD j default ≤ S.getD i default := fun h1 h2 h3 => hWS.mono (fun j => (hOS.2 j).1) hp0 (by omega) (by omega) h3
        conv => whnf
        repeat' first
            | ((with_reducible apply XBr.tt); conv => whnf)
            | ((with_reducible apply XBr.ff); conv => whnf)
            | (with_reducible apply XBr.not)
            | ((with_reducible apply XBr.dec) <;> (intro h; first | (exfalso; omega) | ((try simp only [List.length_map] at h); first | (exfalso; omega) | (conv => whnf))))
            | ((with_reducible apply XBr.beq) <;> (intro h; first | (exfalso; omega) | (conv => whnf)))
            | ((with_reducible apply XBr.bne) <;> (intro h; first | (exfalso; omega) | (conv => whnf)))
            | ((with_reducible refine XInt.i64 (by omega) (by omega) ?_); conv => whnf)
            | ((with_reducible refine XHold.mk ?_ ?_); (first | omega | rfl | decide | exact ⟨rfl, by decide, rfl⟩ | exact wideI _ | exact widePr _ | exact wideSk _ | (unfold Room; constructor <;> ((try simp) <;> omega)) | exact ⟨rfl, by simp only [List.length_map], by unfold Room; constructor <;> ((try simp) <;> omega)⟩ | exact ⟨by omega, by omega, by unfold Room; constructor <;> ((try simp) <;> omega)⟩); conv => whnf)
            | ((with_reducible refine XIx.nat ?_ ?_ ?_); omega; (intro _; rfl); conv => whnf)
            | ((with_reducible refine XIx.map ?_ ?_ ?_ ?_); omega; omega; (intro _; rfl); conv => whnf)
            | (with_reducible apply XAnd.mk)
            | ((with_reducible apply Chk.go); conv => whnf)
            | ((with_reducible apply ChkA.go); conv => whnf)
            | ((with_reducible apply ChkF.go); conv => whnf)
            | ((with_reducible apply ChkB.go); conv => whnf)
            | (exact XSame.mk rfl rfl)
            | (exact XSame.mk (by first | rfl | (simp only [List.map_append, List.length_append, List.length_map]; done) | (simp only [List.map_append, List.length_append, List.length_map]; rfl)) (by first | rfl | (simp only [List.map_append]; done) | (simp only [List.map_append]; rfl)))
            | (with_reducible exact trivial)
            | ((with_reducible refine xdrop_app (by rw [List.length_map]; omega) ?_); conv => whnf)
            | ((with_reducible refine XArr.ints (by omega) (by omega) (by omega) ?_); conv => whnf)
            | ((with_reducible refine XArr.intsA (by omega) (by omega) (by omega) ?_); conv => whnf)
            | ((with_reducible refine XArr.nats ?_ ?_ ?_); omega; omega; conv => whnf)
            | ((with_reducible refine XArr.natsA ?_ ?_ ?_); omega; omega; conv => whnf)
            | ((with_reducible apply XArr.pim0); conv => whnf)
            | ((with_reducible apply XArr.pim1); conv => whnf)
            | ((with_reducible refine XArr.ptr ?_ ?_ ?_); omega; omega; conv => whnf)
            | ((with_reducible apply XBr.mk') <;> (intro h; conv => whnf))
        · by_cases hc : parts.getD j default < parts.getD i default
          all_goals
            apply Walk.drawX tab_ok mixed_ok [] [] (hsK _) [_, _, _, _, _, _, _, _, _, _, _, _, _, _] (by kernel_rfl) rfl
            · skip
              repeat' first
                  | ((with_reducible apply XBr.tt); conv => whnf)
                  | ((with_reducible apply XBr.ff); conv => whnf)
                  | (with_reducible apply XBr.not)
                  | ((with_reducible apply XBr.dec) <;> (intro h; first | (exfalso; omega) | ((try simp only [List.length_map] at h); first | (exfalso; omega) | (conv => whnf))))
                  | ((with_reducible apply XBr.beq) <;> (intro h; first | (exfalso; omega) | (conv => whnf)))
                  | ((with_reducible apply XBr.bne) <;> (intro h; first | (exfalso; omega) | (conv => whnf)))
                  | ((with_reducible refine XInt.i64 (by omega) (by omega) ?_); conv => whnf)
                  | ((with_reducible refine XHold.mk ?_ ?_); (first | omega | rfl | decide | exact ⟨rfl, by decide, rfl⟩ | exact wideI _ | exact widePr _ | exact wideSk _ | (unfold Room; constructor <;> ((try simp) <;> omega)) | exact ⟨rfl, by simp only [List.length_map], by unfold Room; constructor <;> ((try simp) <;> omega)⟩ | exact ⟨by omega, by omega, by unfold Room; constructor <;> ((try simp) <;> omega)⟩); conv => whnf)
                  | ((with_reducible refine XIx.nat ?_ ?_ ?_); omega; (intro _; rfl); conv => whnf)
                  | ((with_reducible refine XIx.map ?_ ?_ ?_ ?_); omega; omega; (intro _; rfl); conv => whnf)
                  | (with_reducible apply XAnd.mk)
                  | ((with_reducible apply Chk.go); conv => whnf)
                  | ((with_reducible apply ChkA.go); conv => whnf)
                  | ((with_reducible apply ChkF.go); conv => whnf)
                  | ((with_reducible apply ChkB.go); conv => whnf)
                  | (exact XSame.mk rfl rfl)
                  | (exact XSame.mk (by first | rfl | (simp only [List.map_append, List.length_append, List.length_map]; done) | (simp only [List.map_append, List.length_append, List.length_map]; rfl)) (by first | rfl | (simp only [List.map_append]; done) | (simp only [List.map_append]; rfl)))
                  | (with_reducible exact trivial)
                  | ((with_reducible refine xdrop_app (by rw [List.length_map]; omega) ?_); conv => whnf)
                  | ((with_reducible refine XArr.ints (by omega) (by omega) (by omega) ?_); conv => whnf)
                  | ((with_reducible refine XArr.intsA (by omega) (by omega) (by omega) ?_); conv => whnf)
                  | ((with_reducible refine XArr.nats ?_ ?_ ?_); omega; omega; conv => whnf)
                  | ((with_reducible refine XArr.natsA ?_ ?_ ?_); omega; omega; conv => whnf)
                  | ((with_reducible apply XArr.pim0); conv => whnf)
                  | ((with_reducible apply XArr.pim1); conv => whnf)
                  | ((with_reducible refine XArr.ptr ?_ ?_ ?_); omega; omega; conv => whnf)
                  | ((with_reducible apply XBr.mk') <;> (intro h; conv => whnf))
            · skip
              repeat' first
                  | ((with_reducible apply XBr.tt); conv => whnf)
                  | ((with_reducible apply XBr.ff); conv => whnf)
                  | (with_reducible apply XBr.not)
                  | ((with_reducible apply XBr.dec) <;> (intro h; first | (exfalso; omega) | ((try simp only [List.length_map] at h); first | (exfalso; omega) | (conv => whnf))))
                  | ((with_reducible apply XBr.beq) <;> (intro h; first | (exfalso; omega) | (conv => whnf)))
                  | ((with_reducible apply XBr.bne) <;> (intro h; first | (exfalso; omega) | (conv => whnf)))
                  | ((with_reducible refine XInt.i64 (by omega) (by omega) ?_); conv => whnf)
                  | ((with_reducible refine XHold.mk ?_ ?_); (first | omega | rfl | decide | exact ⟨rfl, by decide, rfl⟩ | exact wideI _ | exact widePr _ | exact wideSk _ | (unfold Room; constructor <;> ((try simp) <;> omega)) | exact ⟨rfl, by simp only [List.length_map], by unfold Room; constructor <;> ((try simp) <;> omega)⟩ | exact ⟨by omega, by omega, by unfold Room; constructor <;> ((try simp) <;> omega)⟩); conv => whnf)
                  | ((with_reducible refine XIx.nat ?_ ?_ ?_); omega; (intro _; rfl); conv => whnf)
                  | ((with_reducible refine XIx.map ?_ ?_ ?_ ?_); omega; omega; (intro _; rfl); conv => whnf)
                  | (with_reducible apply XAnd.mk)
                  | ((with_reducible apply Chk.go); conv => whnf)
                  | ((with_reducible apply ChkA.go); conv => whnf)
                  | ((with_reducible apply ChkF.go); conv => whnf)
                  | ((with_reducible apply ChkB.go); conv => whnf)
                  | (exact XSame.mk rfl rfl)
                  | (exact XSame.mk (by first | rfl | (simp only [List.map_append, List.length_append, List.length_map]; done) | (simp only [List.map_append, List.length_append, List.length_map]; rfl)) (by first | rfl | (simp only [List.map_append]; done) | (simp only [List.map_append]; rfl)))
                  | (with_reducible exact trivial)
                  | ((with_reducible refine xdrop_app (by rw [List.length_map]; omega) ?_); conv => whnf)
                  | ((with_reducible refine XArr.ints (by omega) (by omega) (by omega) ?_); conv => whnf)
                  | ((with_reducible refine XArr.intsA (by omega) (by omega) (by omega) ?_); conv => whnf)
                  | ((with_reducible refine XArr.nats ?_ ?_ ?_); omega; omega; conv => whnf)
                  | ((with_reducible refine XArr.natsA ?_ ?_ ?_); omega; omega; conv => whnf)
                  | ((with_reducible apply XArr.pim0); conv => whnf)
                  | ((with_reducible apply XArr.pim1); conv => whnf)
                  | ((with_reducible refine XArr.ptr ?_ ?_ ?_); omega; omega; conv => whnf)
                  | ((with_reducible apply XBr.mk') <;> (intro h; conv => whnf))
            · conv => whnf
              repeat' first
                  | ((with_reducible apply XBr.tt); conv => whnf)
                  | ((with_reducible apply XBr.ff); conv => whnf)
                  | (with_reducible apply XBr.not)
                  | ((with_reducible apply XBr.dec) <;> (intro h; first | (exfalso; omega) | ((try simp only [List.length_map] at h); first | (exfalso; omega) | (conv => whnf))))
                  | ((with_reducible apply XBr.beq) <;> (intro h; first | (exfalso; omega) | (conv => whnf)))
                  | ((with_reducible apply XBr.bne) <;> (intro h; first | (exfalso; omega) | (conv => whnf)))
                  | ((with_reducible refine XInt.i64 (by omega) (by omega) ?_); conv => whnf)
                  | ((with_reducible refine XHold.mk ?_ ?_); (first | omega | rfl | decide | exact ⟨rfl, by decide, rfl⟩ | exact wideI _ | exact widePr _ | exact wideSk _ | (unfold Room; constructor <;> ((try simp) <;> omega)) | exact ⟨rfl, by simp only [List.length_map], by unfold Room; constructor <;> ((try simp) <;> omega)⟩ | exact ⟨by omega, by omega, by unfold Room; constructor <;> ((try simp) <;> omega)⟩); conv => whnf)
                  | ((with_reducible refine XIx.nat ?_ ?_ ?_); omega; (intro _; rfl); conv => whnf)
                  | ((with_reducible refine XIx.map ?_ ?_ ?_ ?_); omega; omega; (intro _; rfl); conv => whnf)
                  | (with_reducible apply XAnd.mk)
                  | ((with_reducible apply Chk.go); conv => whnf)
                  | ((with_reducible apply ChkA.go); conv => whnf)
                  | ((with_reducible apply ChkF.go); conv => whnf)
                  | ((with_reducible apply ChkB.go); conv => whnf)
                  | (exact XSame.mk rfl rfl)
                  | (exact XSame.mk (by first | rfl | (simp only [List.map_append, List.length_append, List.length_map]; done) | (simp only [List.map_append, List.length_append, List.length_map]; rfl)) (by first | rfl | (simp only [List.map_append]; done) | (simp only [List.map_append]; rfl)))
                  | (with_reducible exact trivial)
                  | ((with_reducible refine xdrop_app (by rw [List.length_map]; omega) ?_); conv => whnf)
                  | ((with_reducible refine XArr.ints (by omega) (by omega) (by omega) ?_); conv => whnf)
                  | ((with_reducible refine XArr.intsA (by omega) (by omega) (by omega) ?_); conv => whnf)
                  | ((with_reducible refine XArr.nats ?_ ?_ ?_); omega; omega; conv => whnf)
                  | ((with_reducible refine XArr.natsA ?_ ?_ ?_); omega; omega; conv => whnf)
                  | ((with_reducible apply XArr.pim0); conv => whnf)
                  | ((with_reducible apply XArr.pim1); conv => whnf)
                  | ((with_reducible refine XArr.ptr ?_ ?_ ?_); omega; omega; conv => whnf)
                  | ((with_reducible apply XBr.mk') <;> (intro h; conv => whnf))
              all_goals exact XAgain.go (j + 1) (by omega) (by omega) rfl ⟨rfl, rfl, rfl, rfl, rfl, rfl, rfl, rfl, rfl, rfl, rfl, rfl, rfl, rfl, trivial⟩
        · refine XAgain.go (i + 1) (by omega) (by omega) rfl ⟨rfl, rfl, rfl, rfl, rfl, ?_, rfl, rfl, rfl, trivial⟩
          rw [nS (by omega), nL (by omega)]
          exact congrArg (fun n => some (AV.int .i64 n)) (by have e1 : S.getD i default = S.getD i 0 := rfl; have e2 : L.getD i default = L.getD i 0 := rfl; omega)
      · skip
        refine Walk.loop tab_ok [] (fun j : Nat => j ≤ 6) (fun j => [(7, .ptr 1 0), (8, .ptr 2 0), (10, .sl false (ints parts)), (12, .sl false (ints S)), (14, .sl false (ints L)), (16, .int .i64 (aS - aL + (S.getD i default - L.getD i default))), (17, natA i), (18, .int .i64 (S.getD i default)), (94, .sl false (ints S)), (95, .int .i64 6), (96, natA i), (135, .sl false (ints S)), (136, .int .i64 6), (137, natA j)])
          (fun _ => [hpC u1, .cells (ldC l), hpC (GA.hp0 n2 ys)]) (fun j => 6 - j) 0 (by omega) rfl ⟨rfl, rfl, rfl, rfl, rfl, rfl, rfl, rfl, rfl, rfl, rfl, rfl, congrArg (fun n : Int => some (AV.int .i64 n)) hS6, rfl, trivial⟩ ?_
        intro j hj
        have hmo : (j : Int) < 6 → (i : Int) < 6 → parts.getD j default < parts.getD i default → S.getD j default ≤ S.getD i default := fun h1 h2 h3 => hWS.mono (fun j => (hOS.2 j).1) hp0 (by omega) (by omega) h3
        conv => whnf
        repeat' first
            | ((with_reducible apply XBr.tt); conv => whnf)
            | ((with_reducible apply XBr.ff); conv => whnf)
            | (with_reducible apply XBr.not)
            | ((with_reducible apply XBr.dec) <;> (intro h; first | (exfalso; omega) | ((try simp only [List.length_map] at h); first | (exfalso; omega) | (conv => whnf))))
            | ((with_reducible apply XBr.beq) <;> (intro h; first | (exfalso; omega) | (conv => whnf)))
            | ((with_reducible apply XBr.bne) <;> (intro h; first | (exfalso; omega) | (conv => whnf)))
            | ((with_reducible refine XInt.i64 (by omega) (by omega) ?_); conv => whnf)
            | ((with_reducible refine XHold.mk ?_ ?_); (first | omega | rfl | decide | exact ⟨rfl, by decide, rfl⟩ | exact wideI _ | exact widePr _ | exact wideSk _ | (unfold Room; constructor <;> ((try simp) <;> omega)) | exact ⟨rfl, by simp only [List.length_map], by unfold Room; constructor <;> ((try simp) <;> omega)⟩ | exact ⟨by omega, by omega, by unfold Room; constructor <;> ((try simp) <;> omega)⟩); conv => whnf)
            | ((with_reducible refine XIx.nat ?_ ?_ ?_); omega; (intro _; rfl); conv => whnf)
            | ((with_reducible refine XIx.map ?_ ?_ ?_ ?_); omega; omega; (intro _; rfl); conv => whnf)
            | (with_reducible apply XAnd.mk)
            | ((with_reducible apply Chk.go); conv => whnf)
            | ((with_reducible apply ChkA.go); conv => whnf)
            | ((with_reducible apply ChkF.go); conv => whnf)
            | ((with_reducible apply ChkB.go); conv => whnf)
            | (exact XSame.mk rfl rfl)
            | (exact XSame.mk (by first | rfl | (simp only [List.map_append, List.length_append, List.length_map]; done) | (simp only [List.map_append, List.length_append, List.length_map]; rfl)) (by first | rfl | (simp only [List.map_append]; done) | (simp only [List.map_append]; rfl)))
            | (with_reducible exact trivial)
            | ((with_reducible refine xdrop_app (by rw [List.length_map]; omega) ?_); conv => whnf)
            | ((with_reducible refine XArr.ints (by omega) (by omega) (by omega) ?_); conv => whnf)
            | ((with_reducible refine XArr.intsA (by omega) (by omega) (by omega) ?_); conv => whnf)
            | ((with_reducible refine XArr.nats ?_ ?_ ?_); omega; omega; conv => whnf)
            | ((with_reducible refine XArr.natsA ?_ ?_ ?_); omega; omega; conv => whnf)
            | ((with_reducible apply XArr.pim0); conv => whnf)
            | ((with_reducible apply XArr.pim1); conv => whnf)
            | ((with_reducible refine XArr.ptr ?_ ?_ ?_); omega; omega; conv => whnf)
            | ((with_reducible apply XBr.mk') <;> (intro h; conv => whnf))
        · by_cases hc : parts.getD j default < parts.getD i default
          all_goals
            apply Walk.drawX tab_ok mixed_ok [] [] (hsK _) [_, _, _, _, _, _, _, _, _, _, _, _, _, _] (by kernel_rfl) rfl
            · skip
              repeat' first
                  | ((with_reducible apply XBr.tt); conv => whnf)
                  | ((with_reducible apply XBr.ff); conv => whnf)
                  | (with_reducible apply XBr.not)
                  | ((with_reducible apply XBr.dec) <;> (intro h; first | (exfalso; omega) | ((try simp only [List.length_map] at h); first | (exfalso; omega) | (conv => whnf))))
                  | ((with_reducible apply XBr.beq) <;> (intro h; first | (exfalso; omega) | (conv => whnf)))
                  | ((with_reducible apply XBr.bne) <;> (intro h; first | (exfalso; omega) | (conv => whnf)))
                  | ((with_reducible refine XInt.i64 (by omega) (by omega) ?_); conv => whnf)
                  | ((with_reducible refine XHold.mk ?_ ?_); (first | omega | rfl | decide | exact ⟨rfl, by decide, rfl⟩ | exact wideI _ | exact widePr _ | exact wideSk _ | (unfold Room; constructor <;> ((try simp) <;> omega)) | exact ⟨rfl, by simp only [List.length_map], by unfold Room; constructor <;> ((try simp) <;> omega)⟩ | exact ⟨by omega, by omega, by unfold Room; constructor <;> ((try simp) <;> omega)⟩); conv => whnf)
                  | ((with_reducible refine XIx.nat ?_ ?_ ?_); omega; (intro _; rfl); conv => whnf)
                  | ((with_reducible refine XIx.map ?_ ?_ ?_ ?_); omega; omega; (intro _; rfl); conv => whnf)
                  | (with_reducible apply XAnd.mk)
                  | ((with_reducible apply Chk.go); conv => whnf)
                  | ((with_reducible apply ChkA.go); conv => whnf)
                  | ((with_reducible apply ChkF.go); conv => whnf)
                  | ((with_reducible apply ChkB.go); conv => whnf)
                  | (exact XSame.mk rfl rfl)
                  | (exact XSame.mk (by first | rfl | (simp only [List.map_append, List.length_append, List.length_map]; done) | (simp only [List.map_append, List.length_append, List.length_map]; rfl)) (by first | rfl | (simp only [List.map_append]; done) | (simp only [List.map_append]; rfl)))
                  | (with_reducible exact trivial)
                  | ((with_reducible refine xdrop_app (by rw [List.length_map]; omega) ?_); conv => whnf)
                  | ((with_reducible refine XArr.ints (by omega) (by omega) (by omega) ?_); conv => whnf)
                  | ((with_reducible refine XArr.intsA (by omega) (by omega) (by omega) ?_); conv => whnf)
                  | ((with_reducible refine XArr.nats ?_ ?_ ?_); omega; omega; conv => whnf)
                  | ((with_reducible refine XArr.natsA ?_ ?_ ?_); omega; omega; conv => whnf)
                  | ((with_reducible apply XArr.pim0); conv => whnf)
                  | ((with_reducible apply XArr.pim1); conv => whnf)
                  | ((with_reducible refine XArr.ptr ?_ ?_ ?_); omega; omega; conv => whnf)
                  | ((with_reducible apply XBr.mk') <;> (intro h; conv => whnf))
            · skip
              repeat' first
                  | ((with_reducible apply XBr.tt); conv => whnf)
                  | ((with_reducible apply XBr.ff); conv => whnf)
                  | (with_reducible apply XBr.not)
                  | ((with_reducible apply XBr.dec) <;> (intro h; first | (exfalso; omega) | ((try simp only [List.length_map] at h); first | (exfalso; omega) | (conv => whnf))))
                  | ((with_reducible apply XBr.beq) <;> (intro h; first | (exfalso; omega) | (conv => whnf)))
                  | ((with_reducible apply XBr.bne) <;> (intro h; first | (exfalso; omega) | (conv => whnf)))
                  | ((with_reducible refine XInt.i64 (by omega) (by omega) ?_); conv => whnf)
                  | ((with_reducible refine XHold.mk ?_ ?_); (first | omega | rfl | decide | exact ⟨rfl, by decide, rfl⟩ | exact wideI _ | exact widePr _ | exact wideSk _ | (unfold Room; constructor <;> ((try simp) <;> omega)) | exact ⟨rfl, by simp only [List.length_map], by unfold Room; constructor <;> ((try simp) <;> omega)⟩ | exact ⟨by omega, by omega, by unfold Room; constructor <;> ((try simp) <;> omega)⟩); conv => whnf)
                  | ((with_reducible refine XIx.nat ?_ ?_ ?_); omega; (intro _; rfl); conv => whnf)
                  | ((with_reducible refine XIx.map ?_ ?_ ?_ ?_); omega; omega; (intro _; rfl); conv => whnf)
                  | (with_reducible apply XAnd.mk)
                  | ((with_reducible apply Chk.go); conv => whnf)
                  | ((with_reducible apply ChkA.go); conv => whnf)
                  | ((with_reducible apply ChkF.go); conv => whnf)
                  | ((with_reducible apply ChkB.go); conv => whnf)
                  | (exact XSame.mk rfl rfl)
                  | (exact XSame.mk (by first | rfl | (simp only [List.map_append, List.length_append, List.length_map]; done) | (simp only [List.map_append, List.length_append, List.length_map]; rfl)) (by first | rfl | (simp only [List.map_append]; done) | (simp only [List.map_append]; rfl)))
                  | (with_reducible exact trivial)
                  | ((with_reducible refine xdrop_app (by rw [List.length_map]; omega) ?_); conv => whnf)
                  | ((with_reducible refine XArr.ints (by omega) (by omega) (by omega) ?_); conv => whnf)
                  | ((with_reducible refine XArr.intsA (by omega) (by omega) (by omega) ?_); conv => whnf)
                  | ((with_reducible refine XArr.nats ?_ ?_ ?_); omega; omega; conv => whnf)
                  | ((with_reducible refine XArr.natsA ?_ ?_ ?_); omega; omega; conv => whnf)
                  | ((with_reducible apply XArr.pim0); conv => whnf)
                  | ((with_reducible apply XArr.pim1); conv => whnf)
                  | ((with_reducible refine XArr.ptr ?_ ?_ ?_); omega; omega; conv => whnf)
                  | ((with_reducible apply XBr.mk') <;> (intro h; conv => whnf))
            · conv => whnf
              repeat' first
                  | ((with_reducible apply XBr.tt); conv => whnf)
                  | ((with_reducible apply XBr.ff); conv => whnf)
                  | (with_reducible apply XBr.not)
                  | ((with_reducible apply XBr.dec) <;> (intro h; first | (exfalso; omega) | ((try simp only [List.length_map] at h); first | (exfalso; omega) | (conv => whnf))))
                  | ((with_reducible apply XBr.beq) <;> (intro h; first | (exfalso; omega) | (conv => whnf)))
                  | ((with_reducible apply XBr.bne) <;> (intro h; first | (exfalso; omega) | (conv => whnf)))
                  | ((with_reducible refine XInt.i64 (by omega) (by omega) ?_); conv => whnf)
                  | ((with_reducible refine XHold.mk ?_ ?_); (first | omega | rfl | decide | exact ⟨rfl, by decide, rfl⟩ | exact wideI _ | exact widePr _ | exact wideSk _ | (unfold Room; constructor <;> ((try simp) <;> omega)) | exact ⟨rfl, by simp only [List.length_map], by unfold Room; constructor <;> ((try simp) <;> omega)⟩ | exact ⟨by omega, by omega, by unfold Room; constructor <;> ((try simp) <;> omega)⟩); conv => whnf)
                  | ((with_reducible refine XIx.nat ?_ ?_ ?_); omega; (intro _; rfl); conv => whnf)
                  | ((with_reducible refine XIx.map ?_ ?_ ?_ ?_); omega; omega; (intro _; rfl); conv => whnf)
                  | (with_reducible apply XAnd.mk)
                  | ((with_reducible apply Chk.go); conv => whnf)
                  | ((with_reducible apply ChkA.go); conv => whnf)
                  | ((with_reducible apply ChkF.go); conv => whnf)
                  | ((with_reducible apply ChkB.go); conv => whnf)
                  | (exact XSame.mk rfl rfl)
                  | (exact XSame.mk (by first | rfl | (simp only [List.map_append, List.length_append, List.length_map]; done) | (simp only [List.map_append, List.length_append, List.length_map]; rfl)) (by first | rfl | (simp only [List.map_append]; done) | (simp only [List.map_append]; rfl)))
                  | (with_reducible exact trivial)
                  | ((with_reducible refine xdrop_app (by rw [List.length_map]; omega) ?_); conv => whnf)
                  | ((with_reducible refine XArr.ints (by omega) (by omega) (by omega) ?_); conv => whnf)
                  | ((with_reducible refine XArr.intsA (by omega) (by omega) (by omega) ?_); conv => whnf)
                  | ((with_reducible refine XArr.nats ?_ ?_ ?_); omega; omega; conv => whnf)
                  | ((with_reducible refine XArr.natsA ?_ ?_ ?_); omega; omega; conv => whnf)
                  | ((with_reducible apply XArr.pim0); conv => whnf)
                  | ((with_reducible apply XArr.pim1); conv => whnf)
                  | ((with_reducible refine XArr.ptr ?_ ?_ ?_); omega; omega; conv => whnf)
                  | ((with_reducible apply XBr.mk') <;> (intro h; conv => whnf))
              all_goals exact XAgain.go (j + 1) (by omega) (by omega) rfl ⟨rfl, rfl, rfl, rfl, rfl, rfl, rfl, rfl, rfl, rfl, rfl, rfl, rfl, rfl, trivial⟩
        · refine XAgain.go (i + 1) (by omega) (by omega) rfl ⟨rfl, rfl, rfl, rfl, rfl, ?_, rfl, rfl, rfl, trivial⟩
          rw [nS (by omega), nL (by omega)]
          exact congrArg (fun n => some (AV.int .i64 n)) (by have e1 : S.getD i default = S.getD i 0 := rfl; have e2 : L.getD i default = L.getD i 0 := rfl; omega)
    · have hne : ∃ i, i < 6 ∧ 0 < S.getD i 0 := by
        by_cases hx : ∃ i, i < 6 ∧ 0 < S.getD i 0
        · exact hx
        · exfalso
          have := sum_zero S fun x hxm => by
            obtain ⟨j, hj, rfl⟩ := List.mem_iff_getElem.1 hxm
            have b : ¬ 0 < S.getD j 0 := fun h => hx ⟨j, by omega, h⟩
            rw [List.getD_eq_getElem?_getD, List.getElem?_eq_getElem hj, Option.getD_some] at b; omega
          omega
      have hsum2 : ∀ a b : Nat, a < 6 → b < 6 → a ≠ b → S.getD a 0 + S.getD b 0 ≤ 500 := two_le qS (fun i => (hOS.2 i).1) (by rw [hSS]; omega)
      have hD := web_dvs hWS hp0 (fun i => (hOS.2 i).1) hg hne
      have hO5 : OutOk 500 S := ⟨hOS.1, fun i => by have := hOS.2 i; omega⟩
      have hdS := hdv false S hO5
      rw [hD.1] at hdS
      have hD1 := hD.2.1
      have hD2 := hD.2.2
      generalize (dvsR parts S).1 = dS at hdS hD1 hD2
      have h1 := fS (by omega)
      rw [h1]
      repeat' first
          | ((with_reducible apply XBr.tt); conv => whnf)
          | ((with_reducible apply XBr.ff); conv => whnf)
          | (with_reducible apply XBr.not)
          | ((with_reducible apply XBr.dec) <;> (intro h; first | (exfalso; omega) | ((try simp only [List.length_map] at h); first | (exfalso; omega) | (conv => whnf))))
          | ((with_reducible apply XBr.beq) <;> (intro h; first | (exfalso; omega) | (conv => whnf)))
          | ((with_reducible apply XBr.bne) <;> (intro h; first | (exfalso; omega) | (conv => whnf)))
          | ((with_reducible refine XInt.i64 (by omega) (by omega) ?_); conv => whnf)
          | ((with_reducible refine XHold.mk ?_ ?_); (first | omega | rfl | decide | exact ⟨rfl, by decide, rfl⟩ | exact wideI _ | exact widePr _ | exact wideSk _ | (unfold Room; constructor <;> ((try simp) <;> omega)) | exact ⟨rfl, by simp only [List.length_map], by unfold Room; constructor <;> ((try simp) <;> omega)⟩ | exact ⟨by omega, by omega, by unfold Room; constructor <;> ((try simp) <;> omega)⟩); conv => whnf)
          | ((with_reducible refine XIx.nat ?_ ?_ ?_); omega; (intro _; rfl); conv => whnf)
          | ((with_reducible refine XIx.map ?_ ?_ ?_ ?_); omega; omega; (intro _; rfl); conv => whnf)
          | (with_reducible apply XAnd.mk)
          | ((with_reducible apply Chk.go); conv => whnf)
          | ((with_reducible apply ChkA.go); conv => whnf)
          | ((with_reducible apply ChkF.go); conv => whnf)
          | ((with_reducible apply ChkB.go); conv => whnf)
          | (exact XSame.mk rfl rfl)
          | (exact XSame.mk (by first | rfl | (simp only [List.map_append, List.length_append, List.length_map]; done) | (simp only [List.map_append, List.length_append, List.length_map]; rfl)) (by first | rfl | (simp only [List.map_append]; done) | (simp only [List.map_append]; rfl)))
          | (with_reducible exact trivial)
          | ((with_reducible refine xdrop_app (by rw [List.length_map]; omega) ?_); conv => whnf)
          | ((with_reducible refine XArr.ints (by omega) (by omega) (by omega) ?_); conv => whnf)
          | ((with_reducible refine XArr.intsA (by omega) (by omega) (by omega) ?_); conv => whnf)
          | ((with_reducible refine XArr.nats ?_ ?_ ?_); omega; omega; conv => whnf)
          | ((with_reducible refine XArr.natsA ?_ ?_ ?_); omega; omega; conv => whnf)
          | ((with_reducible apply XArr.pim0); conv => whnf)
          | ((with_reducible apply XArr.pim1); conv => whnf)
          | ((with_reducible refine XArr.ptr ?_ ?_ ?_); omega; omega; conv => whnf)
          | ((refine XCall.ret hdS ?_); conv => whnf)
          | ((with_reducible apply XBr.mk') <;> (intro h; conv => whnf))
      refine Walk.loopG tab_ok [] (fun k : Nat => k ≤ 6) (fun k => [(7, .ptr 1 0), (8, .ptr 2 0), (10, .sl false (ints parts)), (12, .sl false (ints S)), (180, natA k)])
        (fun k => [hpC u1, .cells (ldC l), hpC (tryK (GA.hp0 n2 ys) k), .cells [.int .i64 dS.1, .int .i64 dS.2]]) (fun k => 6 - k) 0 (by omega) rfl ⟨rfl, rfl, rfl, rfl, rfl, trivial⟩ ?_ ?_ ?_
      · intro k _
        constructor
        · intro x hx; simp only [List.mem_cons, List.not_mem_nil, or_false] at hx
          rcases hx with rfl | rfl | rfl | rfl <;> first | exact hpC_low _ | exact lowLd _ | rfl
        · intro p hp; simp only [List.mem_cons, List.not_mem_nil, or_false] at hp; rcases hp with rfl | rfl | rfl | rfl | rfl <;> first | exact lowI _ | rfl
      · intro k _; exact Nat.le_refl _
      intro k hk
      clear fS tS nS tL nL vS vL vS2 vL2 vSL vP hsl hpl hE1 hE2 hz hSLi hSL hSS h1 hL6 hD hD1 hD2 hdS hs hs2 e1 e2 hq mo hx
      have vo := tryK_ok (hp0_ok hy (nl := n2)) k
      have hnx : tryK (GA.hp0 n2 ys) (k + 1) = hpS (hpS (tryK (GA.hp0 n2 ys) k)) := rfl
      generalize tryK (GA.hp0 n2 ys) k = v at vo hnx
      have va : 0 ≤ modV v 5 ∧ modV v 5 ≤ 5 := by have := modV_bound v 5; omega
      have vb : 0 ≤ modV (hpS v) 5 ∧ modV (hpS v) 5 ≤ 5 := by have := modV_bound (hpS v) 5; omega
      have vo2 := hpS_ok vo
      have hA6 : (modV v 5).toNat < 6 := by omega
      have hB6 : (modV (hpS v) 5).toNat < 6 := by omega
      have sa := hOS.2 (modV v 5).toNat
      have sb := hOS.2 (modV (hpS v) 5).toNat
      have sa2 : 0 ≤ S.getD (modV v 5).toNat default ∧ S.getD (modV v 5).toNat default ≤ 500 := by have : 0 ≤ S.getD (modV v 5).toNat default ∧ S.getD (modV v 5).toNat default ≤ ((p.tmod 500).toNat + 1 : Nat) := sa; omega
      have sb2 : 0 ≤ S.getD (modV (hpS v) 5).toNat default ∧ S.getD (modV (hpS v) 5).toNat default ≤ 500 := by have : 0 ≤ S.getD (modV (hpS v) 5).toNat default ∧ S.getD (modV (hpS v) 5).toNat default ≤ ((p.tmod 500).toNat + 1 : Nat) := sb; omega
      have hS3 : ∀ i, 0 ≤ (S.set (modV v 5).toNat (S.getD (modV v 5).toNat default - 1)).getD i default + 1 ∧ (S.set (modV v 5).toNat (S.getD (modV v 5).toNat default - 1)).getD i default ≤ 500 := fun i => by
        have e := getD_set S (modV v 5).toNat i (S.getD (modV v 5).toNat default - 1) default
        rw [e]
        have := hOS.2 i
        split
        · omega
        · have : 0 ≤ S.getD i default ∧ S.getD i default ≤ ((p.tmod 500).toNat + 1 : Nat) := hOS.2 i
          omega
      have hS4 := hS3 (modV (hpS v) 5).toNat
      conv => whnf
      repeat' first
          | ((with_reducible apply XBr.tt); conv => whnf)
          | ((with_reducible apply XBr.ff); conv => whnf)
          | (with_reducible apply XBr.not)
          | ((with_reducible apply XBr.dec) <;> (intro h; first | (exfalso; omega) | ((try simp only [List.length_map] at h); first | (exfalso; omega) | (conv => whnf))))
          | ((with_reducible apply XBr.beq) <;> (intro h; first | (exfalso; omega) | (conv => whnf)))
          | ((with_reducible apply XBr.bne) <;> (intro h; first | (exfalso; omega) | (conv => whnf)))
          | ((with_reducible refine XInt.i64 (by omega) (by omega) ?_); conv => whnf)
          | ((with_reducible refine XHold.mk ?_ ?_); (first | omega | rfl | decide | exact ⟨rfl, by decide, rfl⟩ | exact wideI _ | exact widePr _ | exact wideSk _ | (unfold Room; constructor <;> ((try simp) <;> omega)) | exact ⟨rfl, by simp only [List.length_map], by unfold Room; constructor <;> ((try simp) <;> omega)⟩ | exact ⟨by omega, by omega, by unfold Room; constructor <;> ((try simp) <;> omega)⟩); conv => whnf)
          | ((with_reducible refine XIx.nat ?_ ?_ ?_); omega; (intro _; rfl); conv => whnf)
          | ((with_reducible refine XIx.map ?_ ?_ ?_ ?_); omega; omega; (intro _; rfl); conv => whnf)
          | (with_reducible apply XAnd.mk)
          | ((with_reducible apply Chk.go); conv => whnf)
          | ((with_reducible apply ChkA.go); conv => whnf)
          | ((with_reducible apply ChkF.go); conv => whnf)
          | ((with_reducible apply ChkB.go); conv => whnf)
          | (exact XSame.mk rfl rfl)
          | (exact XSame.mk (by first | rfl | (simp only [List.map_append, List.length_append, List.length_map]; done) | (simp only [List.map_append, List.length_append, List.length_map]; rfl)) (by first | rfl | (simp only [List.map_append]; done) | (simp only [List.map_append]; rfl)))
          | (with_reducible exact trivial)
          | ((with_reducible refine xdrop_app (by rw [List.length_map]; omega) ?_); conv => whnf)
          | ((with_reducible refine XArr.ints (by omega) (by omega) (by omega) ?_); conv => whnf)
          | ((with_reducible refine XArr.intsA (by omega) (by omega) (by omega) ?_); conv => whnf)
          | ((with_reducible refine XArr.nats ?_ ?_ ?_); omega; omega; conv => whnf)
          | ((with_reducible refine XArr.natsA ?_ ?_ ?_); omega; omega; conv => whnf)
          | ((with_reducible apply XArr.pim0); conv => whnf)
          | ((with_reducible apply XArr.pim1); conv => whnf)
          | ((with_reducible refine XArr.ptr ?_ ?_ ?_); omega; omega; conv => whnf)
          | ((refine XCall.dup (by omega) ?_); conv => whnf)
          | ((refine XCall.hp (j := 2) (upto_c v 5 vo (by omega) (by omega)) rfl rfl ?_); conv => whnf)
          | ((refine XCall.hp (j := 2) (upto_c (hpS v) 5 vo2 (by omega) (by omega)) rfl rfl ?_); conv => whnf)
          | ((refine XHold.mk ⟨by simp only [List.length_map, List.length_set], rfl, by omega, by omega⟩ ?_); conv => whnf)
          | ((refine XGet.map (by simp only [List.length_set]) (by omega) ?_); conv => whnf)
          | ((refine XPut.ints S _ rfl rfl (by omega) ?_); conv => whnf)
          | ((refine XPut.ints (S.set (modV v 5).toNat (S.getD (modV v 5).toNat default - 1)) _ rfl (by rw [List.length_set]) (by omega) ?_); conv => whnf)
          | ((with_reducible apply XBr.mk') <;> (intro h; conv => whnf))
      · refine XAgainG.go (k + 1) [.grow 3 false (ints S)] (by omega) (by omega) (by rw [hnx]; rfl) ⟨rfl, rfl, rfl, rfl, rfl, trivial⟩
      · refine XAgainG.go (k + 1) [.grow 3 false (ints S)] (by omega) (by omega) (by rw [hnx]; rfl) ⟨rfl, rfl, rfl, rfl, rfl, trivial⟩
      · have hab : (modV v 5).toNat ≠ (modV (hpS v) 5).toNat := by omega
        have hsa : 0 < S.getD (modV v 5).toNat 0 := by have e : S.getD (modV v 5).toNat default = S.getD (modV v 5).toNat 0 := rfl; omega
        have hOv := over_ok hWS hp0 (fun i => (hOS.2 i).1) hg qS hA6 hB6 hab hsa
        have oget := over_get qS hA6 hB6 hab
        have hbd := dvsR_bd (parts := parts) (s := overP S (modV v 5).toNat (modV (hpS v) 5).toNat) pk
        have oO : OutOk 500 (overP S (modV v 5).toNat (modV (hpS v) 5).toNat) := by
          refine ⟨by simp only [overP, List.length_set]; exact qS, fun i => ?_⟩
          rw [oget]
          have q1 := hOS.2 i
          have q2 := hOS.2 (modV (hpS v) 5).toNat
          have q3 := hsum2 _ _ hA6 hB6 hab
          split
          · omega
          · split <;> omega
        have hdO := hdv false _ oO
        have hbd := hbd ⟨oO.1, fun i => by have := oO.2 i; omega⟩
        have hfr : Froz Try.prog [hpC u1, .cells (ldC l), hpC (hpS (hpS v)), .cells [.int .i64 dS.1, .int .i64 dS.2], .grow 3 false (ints (overP S (modV v 5).toNat (modV (hpS v) 5).toNat))] (.gr 4 S.length) (.sl false (ints (overP S (modV v 5).toNat (modV (hpS v) 5).toNat))) :=
          Froz.grow rfl (by simp only [List.length_map, overP, List.length_set]) (lowI _)
        generalize hdd : dvsR parts (overP S (modV v 5).toNat (modV (hpS v) 5).toNat) = dd at hdO hOv hbd
        obtain ⟨⟨x1, x2⟩, xe⟩ := dd
        dsimp only at hOv hbd hdO
        have qa := pk.2 (modV v 5).toNat
        have qb := pk.2 (modV (hpS v) 5).toNat
        have oB : (overP S (modV v 5).toNat (modV (hpS v) 5).toNat).getD (modV (hpS v) 5).toNat 0 = S.getD (modV (hpS v) 5).toNat 0 + 1 := by rw [oget, if_pos rfl]
        have bP1 : 0 ≤ parts.getD (modV v 5).toNat default * (2 * S.getD (modV (hpS v) 5).toNat default + 1) ∧ parts.getD (modV v 5).toNat default * (2 * S.getD (modV (hpS v) 5).toNat default + 1) ≤ 900 * 1001 := mul_bd qa.1 qa.2 (by omega) (by omega)
        have bP2 : 0 ≤ parts.getD (modV (hpS v) 5).toNat default * (2 * S.getD (modV v 5).toNat default - 1) ∧ parts.getD (modV (hpS v) 5).toNat default * (2 * S.getD (modV v 5).toNat default - 1) ≤ 900 * 1001 := mul_bd qb.1 qb.2 (by have e : S.getD (modV v 5).toNat default = S.getD (modV v 5).toNat 0 := rfl; omega) (by omega)
        rcases hOv with ⟨hxe, hne⟩ | ⟨hxe, heq, f1, f2⟩
        · subst hxe
          have hdO2 : Comp Try.prog 54 [ldA l, AV.sl false (ints (overP S (modV v 5).toNat (modV (hpS v) 5).toNat))] (AV.tup [.agg [.int .i64 x1, .int .i64 x2], .int .i64 6]) := hdO
          have e24 : (parts.getD (modV v 5).toNat default * (2 * S.getD (modV (hpS v) 5).toNat default + 1) == parts.getD (modV (hpS v) 5).toNat default * (2 * S.getD (modV v 5).toNat default - 1)) = false := by rw [beq_eq_false_iff_ne]; exact hne
          refine XCall.lend hdO2 (.cons (Froz.low (ldL l)) (.cons hfr .nil)) (by rfl) ?_
          conv => whnf
          repeat' first
              | ((with_reducible apply XBr.tt); conv => whnf)
              | ((with_reducible apply XBr.ff); conv => whnf)
              | (with_reducible apply XBr.not)
              | ((with_reducible apply XBr.dec) <;> (intro h; first | (exfalso; omega) | ((try simp only [List.length_map] at h); first | (exfalso; omega) | (conv => whnf))))
              | ((with_reducible apply XBr.beq) <;> (intro h; first | (exfalso; omega) | (conv => whnf)))
              | ((with_reducible apply XBr.bne) <;> (intro h; first | (exfalso; omega) | (conv => whnf)))
              | ((with_reducible refine XInt.i64 (by omega) (by omega) ?_); conv => whnf)
              | ((with_reducible refine XHold.mk ?_ ?_); (first | omega | rfl | decide | exact ⟨rfl, by decide, rfl⟩ | exact wideI _ | exact widePr _ | exact wideSk _ | (unfold Room; constructor <;> ((try simp) <;> omega)) | exact ⟨rfl, by simp only [List.length_map], by unfold Room; constructor <;> ((try simp) <;> omega)⟩ | exact ⟨by omega, by omega, by unfold Room; constructor <;> ((try simp) <;> omega)⟩); conv => whnf)
              | ((with_reducible refine XIx.nat ?_ ?_ ?_); omega; (intro _; rfl); conv => whnf)
              | ((with_reducible refine XIx.map ?_ ?_ ?_ ?_); omega; omega; (intro _; rfl); conv => whnf)
              | (with_reducible apply XAnd.mk)
              | ((with_reducible apply Chk.go); conv => whnf)
              | ((with_reducible apply ChkA.go); conv => whnf)
              | ((with_reducible apply ChkF.go); conv => whnf)
              | ((with_reducible apply ChkB.go); conv => whnf)
              | (exact XSame.mk rfl rfl)
              | (exact XSame.mk (by first | rfl | (simp only [List.map_append, List.length_append, List.length_map]; done) | (simp only [List.map_append, List.length_append, List.length_map]; rfl)) (by first | rfl | (simp only [List.map_append]; done) | (simp only [List.map_append]; rfl)))
              | (with_reducible exact trivial)
              | ((with_reducible refine xdrop_app (by rw [List.length_map]; omega) ?_); conv => whnf)
              | ((with_reducible refine XArr.ints (by omega) (by omega) (by omega) ?_); conv => whnf)
              | ((with_reducible refine XArr.intsA (by omega) (by omega) (by omega) ?_); conv => whnf)
              | ((with_reducible refine XArr.nats ?_ ?_ ?_); omega; omega; conv => whnf)
              | ((with_reducible refine XArr.natsA ?_ ?_ ?_); omega; omega; conv => whnf)
              | ((with_reducible apply XArr.pim0); conv => whnf)
              | ((with_reducible apply XArr.pim1); conv => whnf)
              | ((with_reducible refine XArr.ptr ?_ ?_ ?_); omega; omega; conv => whnf)
              | ((with_reducible apply XBr.mk') <;> (intro h; conv => whnf))
          apply Walk.drawX tab_ok mixed_ok [] [] (hsK _) [_, .bool false, _, _, _, _, _, _, _, _, _, _, _, _, _, _, _, _, _, _, _, _, _, _, .bool false, .bool false, .bool false, _, .bool false, .bool false, _, _, _, _, _, _, _, _, _, _, _, _, _, _, _, _, _, _, _, _, _, _, _, _, _, _, _, _, _, _, _, _, _, _, _, _, .bool false, .bool false] (by kernel_rfl) rfl
          · skip
            repeat' first
                | ((with_reducible apply XBr.tt); conv => whnf)
                | ((with_reducible apply XBr.ff); conv => whnf)
                | (with_reducible apply XBr.not)
                | ((with_reducible apply XBr.dec) <;> (intro h; first | (exfalso; omega) | ((try simp only [List.length_map] at h); first | (exfalso; omega) | (conv => whnf))))
                | ((with_reducible apply XBr.beq) <;> (intro h; first | (exfalso; omega) | (conv => whnf)))
                | ((with_reducible apply XBr.bne) <;> (intro h; first | (exfalso; omega) | (conv => whnf)))
                | ((with_reducible refine XInt.i64 (by omega) (by omega) ?_); conv => whnf)
                | ((with_reducible refine XHold.mk ?_ ?_); (first | omega | rfl | decide | exact ⟨rfl, by decide, rfl⟩ | exact wideI _ | exact widePr _ | exact wideSk _ | (unfold Room; constructor <;> ((try simp) <;> omega)) | exact ⟨rfl, by simp only [List.length_map], by unfold Room; constructor <;> ((try simp) <;> omega)⟩ | exact ⟨by omega, by omega, by unfold Room; constructor <;> ((try simp) <;> omega)⟩); conv => whnf)
                | ((with_reducible refine XIx.nat ?_ ?_ ?_); omega; (intro _; rfl); conv => whnf)
                | ((with_reducible refine XIx.map ?_ ?_ ?_ ?_); omega; omega; (intro _; rfl); conv => whnf)
                | (with_reducible apply XAnd.mk)
                | ((with_reducible apply Chk.go); conv => whnf)
                | ((with_reducible apply ChkA.go); conv => whnf)
                | ((with_reducible apply ChkF.go); conv => whnf)
                | ((with_reducible apply ChkB.go); conv => whnf)
                | (exact XSame.mk rfl rfl)
                | (exact XSame.mk (by first | rfl | (simp only [List.map_append, List.length_append, List.length_map]; done) | (simp only [List.map_append, List.length_append, List.length_map]; rfl)) (by first | rfl | (simp only [List.map_append]; done) | (simp only [List.map_append]; rfl)))
                | (with_reducible exact trivial)
                | ((with_reducible refine xdrop_app (by rw [List.length_map]; omega) ?_); conv => whnf)
                | ((with_reducible refine XArr.ints (by omega) (by omega) (by omega) ?_); conv => whnf)
                | ((with_reducible refine XArr.intsA (by omega) (by omega) (by omega) ?_); conv => whnf)
                | ((with_reducible refine XArr.nats ?_ ?_ ?_); omega; omega; conv => whnf)
                | ((with_reducible refine XArr.natsA ?_ ?_ ?_); omega; omega; conv => whnf)
                | ((with_reducible apply XArr.pim0); conv => whnf)
                | ((with_reducible apply XArr.pim1); conv => whnf)
                | ((with_reducible refine XArr.ptr ?_ ?_ ?_); omega; omega; conv => whnf)
                | ((refine XHold.mk ⟨by simp only [List.length_map, List.length_set], rfl, by omega, by omega⟩ ?_); conv => whnf)
                | ((refine XGet.map (by simp only [List.length_set]) (by omega) ?_); conv => whnf)
                | (exact XSame.mk (congrArg AV.bool e24) rfl)
                | ((with_reducible apply XBr.mk') <;> (intro h; conv => whnf))
          · skip
            repeat' first
                | ((with_reducible apply XBr.tt); conv => whnf)
                | ((with_reducible apply XBr.ff); conv => whnf)
                | (with_reducible apply XBr.not)
                | ((with_reducible apply XBr.dec) <;> (intro h; first | (exfalso; omega) | ((try simp only [List.length_map] at h); first | (exfalso; omega) | (conv => whnf))))
                | ((with_reducible apply XBr.beq) <;> (intro h; first | (exfalso; omega) | (conv => whnf)))
                | ((with_reducible apply XBr.bne) <;> (intro h; first | (exfalso; omega) | (conv => whnf)))
                | ((with_reducible refine XInt.i64 (by omega) (by omega) ?_); conv => whnf)
                | ((with_reducible refine XHold.mk ?_ ?_); (first | omega | rfl | decide | exact ⟨rfl, by decide, rfl⟩ | exact wideI _ | exact widePr _ | exact wideSk _ | (unfold Room; constructor <;> ((try simp) <;> omega)) | exact ⟨rfl, by simp only [List.length_map], by unfold Room; constructor <;> ((try simp) <;> omega)⟩ | exact ⟨by omega, by omega, by unfold Room; constructor <;> ((try simp) <;> omega)⟩); conv => whnf)
                | ((with_reducible refine XIx.nat ?_ ?_ ?_); omega; (intro _; rfl); conv => whnf)
                | ((with_reducible refine XIx.map ?_ ?_ ?_ ?_); omega; omega; (intro _; rfl); conv => whnf)
                | (with_reducible apply XAnd.mk)
                | ((with_reducible apply Chk.go); conv => whnf)
                | ((with_reducible apply ChkA.go); conv => whnf)
                | ((with_reducible apply ChkF.go); conv => whnf)
                | ((with_reducible apply ChkB.go); conv => whnf)
                | (exact XSame.mk rfl rfl)
                | (exact XSame.mk (by first | rfl | (simp only [List.map_append, List.length_append, List.length_map]; done) | (simp only [List.map_append, List.length_append, List.length_map]; rfl)) (by first | rfl | (simp only [List.map_append]; done) | (simp only [List.map_append]; rfl)))
                | (with_reducible exact trivial)
                | ((with_reducible refine xdrop_app (by rw [List.length_map]; omega) ?_); conv => whnf)
                | ((with_reducible refine XArr.ints (by omega) (by omega) (by omega) ?_); conv => whnf)
                | ((with_reducible refine XArr.intsA (by omega) (by omega) (by omega) ?_); conv => whnf)
                | ((with_reducible refine XArr.nats ?_ ?_ ?_); omega; omega; conv => whnf)
                | ((with_reducible refine XArr.natsA ?_ ?_ ?_); omega; omega; conv => whnf)
                | ((with_reducible apply XArr.pim0); conv => whnf)
                | ((with_reducible apply XArr.pim1); conv => whnf)
                | ((with_reducible refine XArr.ptr ?_ ?_ ?_); omega; omega; conv => whnf)
                | ((refine XHold.mk ⟨by simp only [List.length_map, List.length_set], rfl, by omega, by omega⟩ ?_); conv => whnf)
                | ((refine XGet.map (by simp only [List.length_set]) (by omega) ?_); conv => whnf)
                | (exact XSame.mk (congrArg AV.bool e24) rfl)
                | ((with_reducible apply XBr.mk') <;> (intro h; conv => whnf))
          · conv => whnf
            repeat' first
                | ((with_reducible apply XBr.tt); conv => whnf)
                | ((with_reducible apply XBr.ff); conv => whnf)
                | (with_reducible apply XBr.not)
                | ((with_reducible apply XBr.dec) <;> (intro h; first | (exfalso; omega) | ((try simp only [List.length_map] at h); first | (exfalso; omega) | (conv => whnf))))
                | ((with_reducible apply XBr.beq) <;> (intro h; first | (exfalso; omega) | (conv => whnf)))
                | ((with_reducible apply XBr.bne) <;> (intro h; first | (exfalso; omega) | (conv => whnf)))
                | ((with_reducible refine XInt.i64 (by omega) (by omega) ?_); conv => whnf)
                | ((with_reducible refine XHold.mk ?_ ?_); (first | omega | rfl | decide | exact ⟨rfl, by decide, rfl⟩ | exact wideI _ | exact widePr _ | exact wideSk _ | (unfold Room; constructor <;> ((try simp) <;> omega)) | exact ⟨rfl, by simp only [List.length_map], by unfold Room; constructor <;> ((try simp) <;> omega)⟩ | exact ⟨by omega, by omega, by unfold Room; constructor <;> ((try simp) <;> omega)⟩); conv => whnf)
                | ((with_reducible refine XIx.nat ?_ ?_ ?_); omega; (intro _; rfl); conv => whnf)
                | ((with_reducible refine XIx.map ?_ ?_ ?_ ?_); omega; omega; (intro _; rfl); conv => whnf)
                | (with_reducible apply XAnd.mk)
                | ((with_reducible apply Chk.go); conv => whnf)
                | ((with_reducible apply ChkA.go); conv => whnf)
                | ((with_reducible apply ChkF.go); conv => whnf)
                | ((with_reducible apply ChkB.go); conv => whnf)
                | (exact XSame.mk rfl rfl)
                | (exact XSame.mk (by first | rfl | (simp only [List.map_append, List.length_append, List.length_map]; done) | (simp only [List.map_append, List.length_append, List.length_map]; rfl)) (by first | rfl | (simp only [List.map_append]; done) | (simp only [List.map_append]; rfl)))
                | (with_reducible exact trivial)
                | ((with_reducible refine xdrop_app (by rw [List.length_map]; omega) ?_); conv => whnf)
                | ((with_reducible refine XArr.ints (by omega) (by omega) (by omega) ?_); conv => whnf)
                | ((with_reducible refine XArr.intsA (by omega) (by omega) (by omega) ?_); conv => whnf)
                | ((with_reducible refine XArr.nats ?_ ?_ ?_); omega; omega; conv => whnf)
                | ((with_reducible refine XArr.natsA ?_ ?_ ?_); omega; omega; conv => whnf)
                | ((with_reducible apply XArr.pim0); conv => whnf)
                | ((with_reducible apply XArr.pim1); conv => whnf)
                | ((with_reducible refine XArr.ptr ?_ ?_ ?_); omega; omega; conv => whnf)
                | ((with_reducible apply XBr.mk') <;> (intro h; conv => whnf))
            exact XAgainG.go (k + 1) [.grow 3 false (ints (overP S (modV v 5).toNat (modV (hpS v) 5).toNat)), .cells [.int .i64 x1, .int .i64 x2]] (by omega) (by omega) (by rw [hnx]; rfl) ⟨rfl, rfl, rfl, rfl, rfl, trivial⟩
        · subst hxe
          have hdO2 : Comp Try.prog 54 [ldA l, AV.sl false (ints (overP S (modV v 5).toNat (modV (hpS v) 5).toNat))] (AV.tup [.agg [.int .i64 x1, .int .i64 x2], .int .i64 0]) := hdO
          have e24 : (parts.getD (modV v 5).toNat default * (2 * S.getD (modV (hpS v) 5).toNat default + 1) == parts.getD (modV (hpS v) 5).toNat default * (2 * S.getD (modV v 5).toNat default - 1)) = true := by rw [beq_iff_eq]; exact heq
          have e46 : (parts.getD (modV v 5).toNat default * x2 != x1 * (2 * S.getD (modV v 5).toNat default - 1)) = false := by rw [bne_eq_false_iff_eq]; exact f1
          have e64 : (parts.getD (modV (hpS v) 5).toNat default * x2 != x1 * (2 * ((S.set (modV v 5).toNat (S.getD (modV v 5).toNat default - 1)).set (modV (hpS v) 5).toNat ((S.set (modV v 5).toNat (S.getD (modV v 5).toNat default - 1)).getD (modV (hpS v) 5).toNat default + 1)).getD (modV (hpS v) 5).toNat default - 1)) = false := by rw [bne_eq_false_iff_eq]; exact f2
          have bP3 : 0 ≤ parts.getD (modV v 5).toNat default * x2 ∧ parts.getD (modV v 5).toNat default * x2 ≤ 900 * 2000 := mul_bd qa.1 qa.2 (by omega) (by omega)
          have bP4 : 0 ≤ x1 * (2 * S.getD (modV v 5).toNat default - 1) ∧ x1 * (2 * S.getD (modV v 5).toNat default - 1) ≤ 900 * 1001 := mul_bd hbd.1.1 hbd.1.2 (by have e : S.getD (modV v 5).toNat default = S.getD (modV v 5).toNat 0 := rfl; omega) (by omega)
          have bP5 : 0 ≤ parts.getD (modV (hpS v) 5).toNat default * x2 ∧ parts.getD (modV (hpS v) 5).toNat default * x2 ≤ 900 * 2000 := mul_bd qb.1 qb.2 (by omega) (by omega)
          have oB2 : 0 ≤ ((S.set (modV v 5).toNat (S.getD (modV v 5).toNat default - 1)).set (modV (hpS v) 5).toNat ((S.set (modV v 5).toNat (S.getD (modV v 5).toNat default - 1)).getD (modV (hpS v) 5).toNat default + 1)).getD (modV (hpS v) 5).toNat default ∧ ((S.set (modV v 5).toNat (S.getD (modV v 5).toNat default - 1)).set (modV (hpS v) 5).toNat ((S.set (modV v 5).toNat (S.getD (modV v 5).toNat default - 1)).getD (modV (hpS v) 5).toNat default + 1)).getD (modV (hpS v) 5).toNat default ≤ 500 := oO.2 (modV (hpS v) 5).toNat
          have oB3 : 1 ≤ ((S.set (modV v 5).toNat (S.getD (modV v 5).toNat default - 1)).set (modV (hpS v) 5).toNat ((S.set (modV v 5).toNat (S.getD (modV v 5).toNat default - 1)).getD (modV (hpS v) 5).toNat default + 1)).getD (modV (hpS v) 5).toNat default := by have e : ((S.set (modV v 5).toNat (S.getD (modV v 5).toNat default - 1)).set (modV (hpS v) 5).toNat ((S.set (modV v 5).toNat (S.getD (modV v 5).toNat default - 1)).getD (modV (hpS v) 5).toNat default + 1)).getD (modV (hpS v) 5).toNat default = S.getD (modV (hpS v) 5).toNat 0 + 1 := oB; omega
          have bP6 : 0 ≤ x1 * (2 * ((S.set (modV v 5).toNat (S.getD (modV v 5).toNat default - 1)).set (modV (hpS v) 5).toNat ((S.set (modV v 5).toNat (S.getD (modV v 5).toNat default - 1)).getD (modV (hpS v) 5).toNat default + 1)).getD (modV (hpS v) 5).toNat default - 1) ∧ x1 * (2 * ((S.set (modV v 5).toNat (S.getD (modV v 5).toNat default - 1)).set (modV (hpS v) 5).toNat ((S.set (modV v 5).toNat (S.getD (modV v 5).toNat default - 1)).getD (modV (hpS v) 5).toNat default + 1)).getD (modV (hpS v) 5).toNat default - 1) ≤ 900 * 1001 := mul_bd hbd.1.1 hbd.1.2 (by omega) (by omega)
          refine XCall.lend hdO2 (.cons (Froz.low (ldL l)) (.cons hfr .nil)) (by rfl) ?_
          conv => whnf
          repeat' first
              | ((with_reducible apply XBr.tt); conv => whnf)
              | ((with_reducible apply XBr.ff); conv => whnf)
              | (with_reducible apply XBr.not)
              | ((with_reducible apply XBr.dec) <;> (intro h; first | (exfalso; omega) | ((try simp only [List.length_map] at h); first | (exfalso; omega) | (conv => whnf))))
              | ((with_reducible apply XBr.beq) <;> (intro h; first | (exfalso; omega) | (conv => whnf)))
              | ((with_reducible apply XBr.bne) <;> (intro h; first | (exfalso; omega) | (conv => whnf)))
              | ((with_reducible refine XInt.i64 (by omega) (by omega) ?_); conv => whnf)
              | ((with_reducible refine XHold.mk ?_ ?_); (first | omega | rfl | decide | exact ⟨rfl, by decide, rfl⟩ | exact wideI _ | exact widePr _ | exact wideSk _ | (unfold Room; constructor <;> ((try simp) <;> omega)) | exact ⟨rfl, by simp only [List.length_map], by unfold Room; constructor <;> ((try simp) <;> omega)⟩ | exact ⟨by omega, by omega, by unfold Room; constructor <;> ((try simp) <;> omega)⟩); conv => whnf)
              | ((with_reducible refine XIx.nat ?_ ?_ ?_); omega; (intro _; rfl); conv => whnf)
              | ((with_reducible refine XIx.map ?_ ?_ ?_ ?_); omega; omega; (intro _; rfl); conv => whnf)
              | (with_reducible apply XAnd.mk)
              | ((with_reducible apply Chk.go); conv => whnf)
              | ((with_reducible apply ChkA.go); conv => whnf)
              | ((with_reducible apply ChkF.go); conv => whnf)
              | ((with_reducible apply ChkB.go); conv => whnf)
              | (exact XSame.mk rfl rfl)
              | (exact XSame.mk (by first | rfl | (simp only [List.map_append, List.length_append, List.length_map]; done) | (simp only [List.map_append, List.length_append, List.length_map]; rfl)) (by first | rfl | (simp only [List.map_append]; done) | (simp only [List.map_append]; rfl)))
              | (with_reducible exact trivial)
              | ((with_reducible refine xdrop_app (by rw [List.length_map]; omega) ?_); conv => whnf)
              | ((with_reducible refine XArr.ints (by omega) (by omega) (by omega) ?_); conv => whnf)
              | ((with_reducible refine XArr.intsA (by omega) (by omega) (by omega) ?_); conv => whnf)
              | ((with_reducible refine XArr.nats ?_ ?_ ?_); omega; omega; conv => whnf)
              | ((with_reducible refine XArr.natsA ?_ ?_ ?_); omega; omega; conv => whnf)
              | ((with_reducible apply XArr.pim0); conv => whnf)
              | ((with_reducible apply XArr.pim1); conv => whnf)
              | ((with_reducible refine XArr.ptr ?_ ?_ ?_); omega; omega; conv => whnf)
              | ((with_reducible apply XBr.mk') <;> (intro h; conv => whnf))
          apply Walk.drawX tab_ok mixed_ok [] [] (hsK _) [_, .bool true, _, _, _, _, _, _, _, _, _, _, _, _, _, _, _, _, _, _, _, _, _, _, .bool true, .bool false, .bool false, _, .bool true, .bool true, _, _, _, _, _, _, _, _, _, _, _, _, _, _, _, _, .bool false, .bool false, _, _, _, _, _, _, _, _, _, _, _, _, _, _, _, _, .bool false, .bool false, .bool false, .bool false] (by kernel_rfl) rfl
          · skip
            repeat' first
                | ((with_reducible apply XBr.tt); conv => whnf)
                | ((with_reducible apply XBr.ff); conv => whnf)
                | (with_reducible apply XBr.not)
                | ((with_reducible apply XBr.dec) <;> (intro h; first | (exfalso; omega) | ((try simp only [List.length_map] at h); first | (exfalso; omega) | (conv => whnf))))
                | ((with_reducible apply XBr.beq) <;> (intro h; first | (exfalso; omega) | (conv => whnf)))
                | ((with_reducible apply XBr.bne) <;> (intro h; first | (exfalso; omega) | (conv => whnf)))
                | ((with_reducible refine XInt.i64 (by omega) (by omega) ?_); conv => whnf)
                | ((with_reducible refine XHold.mk ?_ ?_); (first | omega | rfl | decide | exact ⟨rfl, by decide, rfl⟩ | exact wideI _ | exact widePr _ | exact wideSk _ | (unfold Room; constructor <;> ((try simp) <;> omega)) | exact ⟨rfl, by simp only [List.length_map], by unfold Room; constructor <;> ((try simp) <;> omega)⟩ | exact ⟨by omega, by omega, by unfold Room; constructor <;> ((try simp) <;> omega)⟩); conv => whnf)
                | ((with_reducible refine XIx.nat ?_ ?_ ?_); omega; (intro _; rfl); conv => whnf)
                | ((with_reducible refine XIx.map ?_ ?_ ?_ ?_); omega; omega; (intro _; rfl); conv => whnf)
                | (with_reducible apply XAnd.mk)
                | ((with_reducible apply Chk.go); conv => whnf)
                | ((with_reducible apply ChkA.go); conv => whnf)
                | ((with_reducible apply ChkF.go); conv => whnf)
                | ((with_reducible apply ChkB.go); conv => whnf)
                | (exact XSame.mk rfl rfl)
                | (exact XSame.mk (by first | rfl | (simp only [List.map_append, List.length_append, List.length_map]; done) | (simp only [List.map_append, List.length_append, List.length_map]; rfl)) (by first | rfl | (simp only [List.map_append]; done) | (simp only [List.map_append]; rfl)))
                | (with_reducible exact trivial)
                | ((with_reducible refine xdrop_app (by rw [List.length_map]; omega) ?_); conv => whnf)
                | ((with_reducible refine XArr.ints (by omega) (by omega) (by omega) ?_); conv => whnf)
                | ((with_reducible refine XArr.intsA (by omega) (by omega) (by omega) ?_); conv => whnf)
                | ((with_reducible refine XArr.nats ?_ ?_ ?_); omega; omega; conv => whnf)
                | ((with_reducible refine XArr.natsA ?_ ?_ ?_); omega; omega; conv => whnf)
                | ((with_reducible apply XArr.pim0); conv => whnf)
                | ((with_reducible apply XArr.pim1); conv => whnf)
                | ((with_reducible refine XArr.ptr ?_ ?_ ?_); omega; omega; conv => whnf)
                | ((refine XHold.mk ⟨by simp only [List.length_map, List.length_set], rfl, by omega, by omega⟩ ?_); conv => whnf)
                | ((refine XGet.map (by simp only [List.length_set]) (by omega) ?_); conv => whnf)
                | (exact XSame.mk (congrArg AV.bool e24) rfl)
                | (exact XSame.mk (congrArg AV.bool e46) rfl)
                | (exact XSame.mk (congrArg AV.bool e64) rfl)
                | ((with_reducible apply XBr.mk') <;> (intro h; conv => whnf))
          · skip
            repeat' first
                | ((with_reducible apply XBr.tt); conv => whnf)
                | ((with_reducible apply XBr.ff); conv => whnf)
                | (with_reducible apply XBr.not)
                | ((with_reducible apply XBr.dec) <;> (intro h; first | (exfalso; omega) | ((try simp only [List.length_map] at h); first | (exfalso; omega) | (conv => whnf))))
                | ((with_reducible apply XBr.beq) <;> (intro h; first | (exfalso; omega) | (conv => whnf)))
                | ((with_reducible apply XBr.bne) <;> (intro h; first | (exfalso; omega) | (conv => whnf)))
                | ((with_reducible refine XInt.i64 (by omega) (by omega) ?_); conv => whnf)
                | ((with_reducible refine XHold.mk ?_ ?_); (first | omega | rfl | decide | exact ⟨rfl, by decide, rfl⟩ | exact wideI _ | exact widePr _ | exact wideSk _ | (unfold Room; constructor <;> ((try simp) <;> omega)) | exact ⟨rfl, by simp only [List.length_map], by unfold Room; constructor <;> ((try simp) <;> omega)⟩ | exact ⟨by omega, by omega, by unfold Room; constructor <;> ((try simp) <;> omega)⟩); conv => whnf)
                | ((with_reducible refine XIx.nat ?_ ?_ ?_); omega; (intro _; rfl); conv => whnf)
                | ((with_reducible refine XIx.map ?_ ?_ ?_ ?_); omega; omega; (intro _; rfl); conv => whnf)
                | (with_reducible apply XAnd.mk)
                | ((with_reducible apply Chk.go); conv => whnf)
                | ((with_reducible apply ChkA.go); conv => whnf)
                | ((with_reducible apply ChkF.go); conv => whnf)
                | ((with_reducible apply ChkB.go); conv => whnf)
                | (exact XSame.mk rfl rfl)
                | (exact XSame.mk (by first | rfl | (simp only [List.map_append, List.length_append, List.length_map]; done) | (simp only [List.map_append, List.length_append, List.length_map]; rfl)) (by first | rfl | (simp only [List.map_append]; done) | (simp only [List.map_append]; rfl)))
                | (with_reducible exact trivial)
                | ((with_reducible refine xdrop_app (by rw [List.length_map]; omega) ?_); conv => whnf)
                | ((with_reducible refine XArr.ints (by omega) (by omega) (by omega) ?_); conv => whnf)
                | ((with_reducible refine XArr.intsA (by omega) (by omega) (by omega) ?_); conv => whnf)
                | ((with_reducible refine XArr.nats ?_ ?_ ?_); omega; omega; conv => whnf)
                | ((with_reducible refine XArr.natsA ?_ ?_ ?_); omega; omega; conv => whnf)
                | ((with_reducible apply XArr.pim0); conv => whnf)
                | ((with_reducible apply XArr.pim1); conv => whnf)
                | ((with_reducible refine XArr.ptr ?_ ?_ ?_); omega; omega; conv => whnf)
                | ((refine XHold.mk ⟨by simp only [List.length_map, List.length_set], rfl, by omega, by omega⟩ ?_); conv => whnf)
                | ((refine XGet.map (by simp only [List.length_set]) (by omega) ?_); conv => whnf)
                | (exact XSame.mk (congrArg AV.bool e24) rfl)
                | (exact XSame.mk (congrArg AV.bool e46) rfl)
                | (exact XSame.mk (congrArg AV.bool e64) rfl)
                | ((with_reducible apply XBr.mk') <;> (intro h; conv => whnf))
          · conv => whnf
            repeat' first
                | ((with_reducible apply XBr.tt); conv => whnf)
                | ((with_reducible apply XBr.ff); conv => whnf)
                | (with_reducible apply XBr.not)
                | ((with_reducible apply XBr.dec) <;> (intro h; first | (exfalso; omega) | ((try simp only [List.length_map] at h); first | (exfalso; omega) | (conv => whnf))))
                | ((with_reducible apply XBr.beq) <;> (intro h; first | (exfalso; omega) | (conv => whnf)))
                | ((with_reducible apply XBr.bne) <;> (intro h; first | (exfalso; omega) | (conv => whnf)))
                | ((with_reducible refine XInt.i64 (by omega) (by omega) ?_); conv => whnf)
                | ((with_reducible refine XHold.mk ?_ ?_); (first | omega | rfl | decide | exact ⟨rfl, by decide, rfl⟩ | exact wideI _ | exact widePr _ | exact wideSk _ | (unfold Room; constructor <;> ((try simp) <;> omega)) | exact ⟨rfl, by simp only [List.length_map], by unfold Room; constructor <;> ((try simp) <;> omega)⟩ | exact ⟨by omega, by omega, by unfold Room; constructor <;> ((try simp) <;> omega)⟩); conv => whnf)
                | ((with_reducible refine XIx.nat ?_ ?_ ?_); omega; (intro _; rfl); conv => whnf)
                | ((with_reducible refine XIx.map ?_ ?_ ?_ ?_); omega; omega; (intro _; rfl); conv => whnf)
                | (with_reducible apply XAnd.mk)
                | ((with_reducible apply Chk.go); conv => whnf)
                | ((with_reducible apply ChkA.go); conv => whnf)
                | ((with_reducible apply ChkF.go); conv => whnf)
                | ((with_reducible apply ChkB.go); conv => whnf)
                | (exact XSame.mk rfl rfl)
                | (exact XSame.mk (by first | rfl | (simp only [List.map_append, List.length_append, List.length_map]; done) | (simp only [List.map_append, List.length_append, List.length_map]; rfl)) (by first | rfl | (simp only [List.map_append]; done) | (simp only [List.map_append]; rfl)))
                | (with_reducible exact trivial)
                | ((with_reducible refine xdrop_app (by rw [List.length_map]; omega) ?_); conv => whnf)
                | ((with_reducible refine XArr.ints (by omega) (by omega) (by omega) ?_); conv => whnf)
                | ((with_reducible refine XArr.intsA (by omega) (by omega) (by omega) ?_); conv => whnf)
                | ((with_reducible refine XArr.nats ?_ ?_ ?_); omega; omega; conv => whnf)
                | ((with_reducible refine XArr.natsA ?_ ?_ ?_); omega; omega; conv => whnf)
                | ((with_reducible apply XArr.pim0); conv => whnf)
                | ((with_reducible apply XArr.pim1); conv => whnf)
                | ((with_reducible refine XArr.ptr ?_ ?_ ?_); omega; omega; conv => whnf)
                | ((with_reducible apply XBr.mk') <;> (intro h; conv => whnf))
            exact XAgainG.go (k + 1) [.grow 3 false (ints (overP S (modV v 5).toNat (modV (hpS v) 5).toNat)), .cells [.int .i64 x1, .int .i64 x2]] (by omega) (by omega) (by rw [hnx]; rfl) ⟨rfl, rfl, rfl, rfl, rfl, trivial⟩
      · skip
        repeat' first
            | ((with_reducible apply XBr.tt); conv => whnf)
            | ((with_reducible apply XBr.ff); conv => whnf)
            | (with_reducible apply XBr.not)
            | ((with_reducible apply XBr.dec) <;> (intro h; first | (exfalso; omega) | ((try simp only [List.length_map] at h); first | (exfalso; omega) | (conv => whnf))))
            | ((with_reducible apply XBr.beq) <;> (intro h; first | (exfalso; omega) | (conv => whnf)))
            | ((with_reducible apply XBr.bne) <;> (intro h; first | (exfalso; omega) | (conv => whnf)))
            | ((with_reducible refine XInt.i64 (by omega) (by omega) ?_); conv => whnf)
            | ((with_reducible refine XHold.mk ?_ ?_); (first | omega | rfl | decide | exact ⟨rfl, by decide, rfl⟩ | exact wideI _ | exact widePr _ | exact wideSk _ | (unfold Room; constructor <;> ((try simp) <;> omega)) | exact ⟨rfl, by simp only [List.length_map], by unfold Room; constructor <;> ((try simp) <;> omega)⟩ | exact ⟨by omega, by omega, by unfold Room; constructor <;> ((try simp) <;> omega)⟩); conv => whnf)
            | ((with_reducible refine XIx.nat ?_ ?_ ?_); omega; (intro _; rfl); conv => whnf)
            | ((with_reducible refine XIx.map ?_ ?_ ?_ ?_); omega; omega; (intro _; rfl); conv => whnf)
            | (with_reducible apply XAnd.mk)
            | ((with_reducible apply Chk.go); conv => whnf)
            | ((with_reducible apply ChkA.go); conv => whnf)
            | ((with_reducible apply ChkF.go); conv => whnf)
            | ((with_reducible apply ChkB.go); conv => whnf)
            | (exact XSame.mk rfl rfl)
            | (exact XSame.mk (by first | rfl | (simp only [List.map_append, List.length_append, List.length_map]; done) | (simp only [List.map_append, List.length_append, List.length_map]; rfl)) (by first | rfl | (simp only [List.map_append]; done) | (simp only [List.map_append]; rfl)))
            | (with_reducible exact trivial)
            | ((with_reducible refine xdrop_app (by rw [List.length_map]; omega) ?_); conv => whnf)
            | ((with_reducible refine XArr.ints (by omega) (by omega) (by omega) ?_); conv => whnf)
            | ((with_reducible refine XArr.intsA (by omega) (by omega) (by omega) ?_); conv => whnf)
            | ((with_reducible refine XArr.nats ?_ ?_ ?_); omega; omega; conv => whnf)
            | ((with_reducible refine XArr.natsA ?_ ?_ ?_); omega; omega; conv => whnf)
            | ((with_reducible apply XArr.pim0); conv => whnf)
            | ((with_reducible apply XArr.pim1); conv => whnf)
            | ((with_reducible refine XArr.ptr ?_ ?_ ?_); omega; omega; conv => whnf)
            | ((refine XCall.ret awake_c ?_); conv => whnf)
            | ((with_reducible apply XBr.mk') <;> (intro h; conv => whnf))
        exact XOut.bool rfl
end GA
end
