/- Contracts: a load is opened, the walk. -/
import Derived.Test.YtlbdomhfcghjdaaS13
namespace GA
open Go Go.RowKit Go.Proofs
set_option pp.deepTerms true
set_option maxRecDepth 8000
set_option linter.unusedVariables false
set_option linter.unusedSimpArgs false

/-- What a load that is right has. -/
structure LdOk (l : Ld) : Prop where
  n : l.sacks.length ≤ 9
  na : l.apart.length ≤ 8
  nw : l.wth.length ≤ 8
  b1 : 1 ≤ l.bears
  b2 : l.bears ≤ 100
  s1 : 0 ≤ l.shrink
  s2 : l.shrink ≤ 90
  sk : ∀ s ∈ l.sacks, 1 ≤ s.m ∧ s.m ≤ 100 ∧ 0 ≤ s.o ∧ s.o ≤ 5
  ap : ∀ p ∈ l.apart, 0 ≤ p.1 ∧ p.1 < l.sacks.length ∧ 0 ≤ p.2 ∧ p.2 < l.sacks.length ∧ p.1 ≠ p.2
  wp : ∀ p ∈ l.wth, 0 ≤ p.1 ∧ p.1 < l.sacks.length ∧ 0 ≤ p.2 ∧ p.2 < l.sacks.length ∧ p.1 ≠ p.2
theorem inB_iff {n lo hi : Int} : inB n lo hi = true ↔ lo ≤ n ∧ n ≤ hi := by simp [inB]
theorem checkR_ok (l : Ld) : checkR l = 0 ↔ LdOk l := by
  unfold checkR
  constructor
  · intro h
    split at h
    · cases h
    rename_i h1
    split at h
    · cases h
    rename_i h2
    split at h
    · cases h
    rename_i h3
    split at h
    · cases h
    rename_i h4
    split at h
    · cases h
    rename_i h5
    simp only [Bool.not_eq_false, Bool.and_eq_true, inB_iff, List.all_eq_true, prIn, List.mem_append, bne_iff_ne] at h2 h3 h4 h5
    refine ⟨by omega, by omega, by omega, by omega, by omega, by omega, by omega, fun s hs => ?_, fun p hp => ?_, fun p hp => ?_⟩
    · have := h3 s hs; omega
    · have a := h4 p (.inl hp); have b := h5 p (.inl hp); exact ⟨by omega, by omega, by omega, by omega, b⟩
    · have a := h4 p (.inr hp); have b := h5 p (.inr hp); exact ⟨by omega, by omega, by omega, by omega, b⟩
  · intro o
    rw [if_neg (by have := o.n; have := o.na; have := o.nw; omega)]
    rw [if_neg (by simp only [Bool.not_eq_false, Bool.and_eq_true, inB_iff]; have := o.b1; have := o.b2; have := o.s1; have := o.s2; omega)]
    rw [if_neg (by simp only [Bool.not_eq_false, Bool.and_eq_true, inB_iff, List.all_eq_true]; intro s hs; have := o.sk s hs; omega)]
    rw [if_neg (by
      simp only [Bool.not_eq_false, Bool.and_eq_true, inB_iff, List.all_eq_true, prIn, List.mem_append]
      rintro p (hp | hp)
      · have := o.ap p hp; omega
      · have := o.wp p hp; omega)]
    rw [if_neg (by
      simp only [Bool.not_eq_false, List.all_eq_true, List.mem_append, bne_iff_ne]
      rintro p (hp | hp)
      · exact (o.ap p hp).2.2.2.2
      · exact (o.wp p hp).2.2.2.2)]
theorem wt_le {l : Ld} (o : LdOk l) {s : Sk} (hs : s ∈ l.sacks) : (wt l s : Int) = weightR l s ∧ 1 ≤ wt l s ∧ wt l s ≤ 100 := by
  have h := o.sk s hs
  have h1 := o.s1
  have h2 := o.s2
  have e : s.m * l.shrink ≤ s.m * 90 := Int.mul_le_mul_of_nonneg_left h2 (by omega)
  have e0 : 0 ≤ s.m * l.shrink := Int.mul_nonneg (by omega) h1
  unfold wt weightR
  omega
theorem wts_le {l : Ld} (o : LdOk l) : ∀ w ∈ wts l, w ≤ 100 := by
  intro w hw
  obtain ⟨s, hs, rfl⟩ := List.mem_map.1 hw
  exact (wt_le o hs).2.2
theorem wts_get (l : Ld) {i : Nat} (hi : i < l.sacks.length) : (wts l).getD i 0 = wt l (l.sacks.getD i default) := by
  unfold wts; rw [List.getD_eq_getElem?_getD, List.getElem?_map, List.getD_eq_getElem?_getD, List.getElem?_eq_getElem hi]; rfl
theorem hvF_le {l : Ld} (o : LdOk l) (n i : Nat) : (hvF (wts l) n).getD i 0 ≤ 900 := by
  rcases Nat.lt_or_ge i 512 with h | h
  · rw [hvF_get h]
    split
    · have h1 := sumW_le (wts l) i (wts_le o)
      have h2 : (wts l).length = l.sacks.length := by simp [wts]
      have := o.n
      omega
    · omega
  · rw [List.getD_eq_getElem?_getD, List.getElem?_eq_none (by rw [hvF_len]; omega)]; simp
theorem xspl_app {a b vs : List AV} {n : Nat} {k : List AV → Prop} (ha : a.length = n) (hb : vs.length = b.length) (h : k (a ++ vs)) : xspl (a ++ b) n vs k := by
  refine xspl_to (a ++ vs) (by rw [List.length_append]; omega) ?_ h
  unfold splice
  rw [List.take_left' ha, List.drop_eq_nil_of_le (by rw [List.length_append]; omega), List.append_nil]
theorem lowOne {d : Dk} : ∀ x ∈ deskC d, x.one = true := by
  intro x hx
  simp only [deskC, List.mem_cons, List.mem_append, List.mem_map] at hx
  rcases hx with rfl | rfl | rfl | rfl | rfl | ⟨_, _, rfl⟩ | ⟨_, _, rfl⟩ <;> rfl
def openR (l : Ld) : AV := if checkR l = 0 then .tup [.pim (deskC (openD l)), .int .i64 0] else .tup [.nilp, .int .i64 (checkR l)]
theorem arr_eq {xs ys : List Nat} : ((xs.map fun n : Nat => (n : Int)) == (ys.map fun n : Nat => (n : Int))) = (xs == ys) := by
  rw [Bool.eq_iff_iff, beq_iff_eq, beq_iff_eq]
  exact ⟨fun h => (List.map_inj_right (fun _ _ => Int.ofNat.inj)).1 h, fun h => by rw [h]⟩
theorem nats_ints (b : List Nat) : nats b = (b.map fun n : Nat => (n : Int)).map (.int .i64) := by simp [nats, natA]

set_option maxHeartbeats 1000000 in
theorem opened_c (l : Ld) (hw : l.nla = true → l.apart = []) (h1 : l.sacks.length ≤ 100000) (h2 : l.apart.length ≤ 1000) (h3 : l.wth.length ≤ 1000) : Comp Try.prog 77 [ldA l] (openR l) := by
  refine Comp.body' (T := tab) (res := [.tmp 2, .tmp 3]) tab_ok [17] Try.func77 rfl (by kernel_rfl) Try.ntmps77 rfl (by simp only [List.length_cons, List.length_nil]; decide) (by simp only [lowL, AV.low, ldL]; rfl) ?_; conv => whnf
  refine XCall.ret (check_c l hw h1 h2 h3) ?_
  conv => whnf
  repeat' first
      | ((with_reducible apply XBr.tt); conv => whnf)
      | ((with_reducible apply XBr.ff); conv => whnf)
      | (with_reducible apply XBr.not)
      | ((with_reducible apply XBr.dec) <;> (intro h; first | (exfalso; omega) | ((try simp only [List.length_map] at h); first | (exfalso; omega) | (conv => whnf))))
      | ((with_reducible apply XBr.beq) <;> (intro h; first | (exfalso; omega) | (conv => whnf)))
      | ((with_reducible apply XBr.bne) <;> (intro h; first | (exfalso; omega) | (conv => whnf)))
      | ((with_reducible refine XInt.i64 (by omega) (by omega) ?_); conv => whnf)
      | ((with_reducible refine XHold.mk ?_ ?_); (first | omega | rfl | decide | exact ⟨rfl, by decide, rfl⟩ | exact wideI _ | exact widePr _ | exact wideSk _ | (unfold Room; constructor <;> ((try simp) <;> omega)) | exact ⟨rfl, by simp only [List.length_map], by unfold Room; constructor <;> ((try simp) <;> omega)⟩ | exact ⟨by omega, by omega, by unfold Room; constructor <;> ((try simp) <;> omega)⟩); conv => whnf)
      | ((with_reducible refine XIx.nat ?_ ?_ ?_); omega; (intro _; rfl); conv => whnf)
      | ((with_reducible refine XIx.map ?_ ?_ ?_ ?_); omega; omega; (intro _; rfl); conv => whnf)
      | (with_reducible apply XAnd.mk)
      | ((with_reducible apply Chk.go); conv => whnf)
      | ((with_reducible apply ChkA.go); conv => whnf)
      | ((with_reducible apply ChkF.go); conv => whnf)
      | ((with_reducible apply ChkB.go); conv => whnf)
      | (exact XSame.mk rfl rfl)
      | (exact XSame.mk (by first | rfl | (simp only [List.map_append, List.length_append, List.length_map]; done) | (simp only [List.map_append, List.length_append, List.length_map]; rfl)) (by first | rfl | (simp only [List.map_append]; done) | (simp only [List.map_append]; rfl)))
      | (with_reducible exact trivial)
      | ((with_reducible refine xdrop_app (by rw [List.length_map]; omega) ?_); conv => whnf)
      | ((with_reducible refine XArr.ints (by omega) (by omega) (by omega) ?_); conv => whnf)
      | ((with_reducible refine XArr.intsA (by omega) (by omega) (by omega) ?_); conv => whnf)
      | ((with_reducible refine XArr.nats ?_ ?_ ?_); omega; omega; conv => whnf)
      | ((with_reducible refine XArr.natsA ?_ ?_ ?_); omega; omega; conv => whnf)
      | ((with_reducible apply XArr.pim0); conv => whnf)
      | ((with_reducible apply XArr.pim1); conv => whnf)
      | ((with_reducible refine XArr.ptr ?_ ?_ ?_); omega; omega; conv => whnf)
      | ((with_reducible apply XBr.mk') <;> (intro h; conv => whnf))
  · refine ⟨?_⟩
    unfold openR; rw [if_neg h]
    exact Froz.low rfl
  have ok := (checkR_ok l).1 h
  have g := ok.n
  refine Walk.loopG tab_ok [] (fun i : Nat => i ≤ l.sacks.length) (fun i => [(1, .pim (ldC l)), (5, .ptr 0 0), (19, .sl l.nls (l.sacks.map skA)), (20, .int .i64 l.sacks.length), (21, .int .i64 i)])
    (fun i => [.cells (deskC ⟨l, hvF (wts l) (2 ^ i), ndI i⟩)]) (fun i => l.sacks.length - i) 0 (by omega) ?_ ⟨rfl, rfl, rfl, by simp only [List.length_map]; rfl, rfl, trivial⟩ ?_ ?_ ?_
  · rw [show 2 ^ 0 = 1 from rfl, hvF_one, ndI_zero]; unfold deskC; simp only [nats, List.map_replicate, List.replicate_append_replicate]; rfl
  · intro i _
    constructor
    · intro x hx; simp at hx; subst hx
      simp only [Blk.low, lowDk]
    · intro p hp; simp at hp; rcases hp with rfl | rfl | rfl | rfl | rfl <;> simp [AV.low, lowSk, lowLd]
  · intro i _; simp
  · intro i hi
    conv => whnf
    repeat' first
        | ((with_reducible apply XBr.tt); conv => whnf)
        | ((with_reducible apply XBr.ff); conv => whnf)
        | (with_reducible apply XBr.not)
        | ((with_reducible apply XBr.dec) <;> (intro h; first | (exfalso; omega) | ((try simp only [List.length_map] at h); first | (exfalso; omega) | (conv => whnf))))
        | ((with_reducible apply XBr.beq) <;> (intro h; first | (exfalso; omega) | (conv => whnf)))
        | ((with_reducible apply XBr.bne) <;> (intro h; first | (exfalso; omega) | (conv => whnf)))
        | ((with_reducible refine XInt.i64 (by omega) (by omega) ?_); conv => whnf)
        | ((with_reducible refine XHold.mk ?_ ?_); (first | omega | rfl | decide | exact ⟨rfl, by decide, rfl⟩ | exact wideI _ | exact widePr _ | exact wideSk _ | (unfold Room; constructor <;> ((try simp) <;> omega)) | exact ⟨rfl, by simp only [List.length_map], by unfold Room; constructor <;> ((try simp) <;> omega)⟩ | exact ⟨by omega, by omega, by unfold Room; constructor <;> ((try simp) <;> omega)⟩); conv => whnf)
        | ((with_reducible refine XIx.nat ?_ ?_ ?_); omega; (intro _; rfl); conv => whnf)
        | ((with_reducible refine XIx.map ?_ ?_ ?_ ?_); omega; omega; (intro _; rfl); conv => whnf)
        | (with_reducible apply XAnd.mk)
        | ((with_reducible apply Chk.go); conv => whnf)
        | ((with_reducible apply ChkA.go); conv => whnf)
        | ((with_reducible apply ChkF.go); conv => whnf)
        | ((with_reducible apply ChkB.go); conv => whnf)
        | (exact XSame.mk rfl rfl)
        | (exact XSame.mk (by first | rfl | (simp only [List.map_append, List.length_append, List.length_map]; done) | (simp only [List.map_append, List.length_append, List.length_map]; rfl)) (by first | rfl | (simp only [List.map_append]; done) | (simp only [List.map_append]; rfl)))
        | (with_reducible exact trivial)
        | ((with_reducible refine xdrop_app (by rw [List.length_map]; omega) ?_); conv => whnf)
        | ((with_reducible refine XArr.ints (by omega) (by omega) (by omega) ?_); conv => whnf)
        | ((with_reducible refine XArr.intsA (by omega) (by omega) (by omega) ?_); conv => whnf)
        | ((with_reducible refine XArr.nats ?_ ?_ ?_); omega; omega; conv => whnf)
        | ((with_reducible refine XArr.natsA ?_ ?_ ?_); omega; omega; conv => whnf)
        | ((with_reducible apply XArr.pim0); conv => whnf)
        | ((with_reducible apply XArr.pim1); conv => whnf)
        | ((with_reducible refine XArr.ptr ?_ ?_ ?_); omega; omega; conv => whnf)
        | ((with_reducible apply XBr.mk') <;> (intro h; conv => whnf))
    · have p9 := pow9 (n := i) (by omega)
      have hsm := getD_mem (xs := l.sacks) (i := i) (d := default) (by omega)
      have hw2 := wt_le ok hsm
      have hok := ok.sk _ hsm
      have hs1 := ok.s1
      have hs2 := ok.s2
      generalize hse : l.sacks.getD i default = s at hsm hw2 hok
      apply Walk.drawX tab_ok mixed_ok [] [7] (hsC [[.cells (deskC ⟨l, hvF (wts l) (2 ^ i), ndI i⟩), .cells [.int .i64 s.m, .int .i64 s.o]], [.cells (deskC ⟨l, hvF (wts l) (2 ^ i), (ndI i).set i (2 ^ i)⟩), .cells [.int .i64 s.m, .int .i64 s.o]]])
        [_, _, _, natA (2 ^ i), _, _, _, _] (by kernel_rfl) rfl
      · skip
        repeat' first
            | ((with_reducible apply XBr.tt); conv => whnf)
            | ((with_reducible apply XBr.ff); conv => whnf)
            | (with_reducible apply XBr.not)
            | ((with_reducible apply XBr.dec) <;> (intro h; first | (exfalso; omega) | ((try simp only [List.length_map] at h); first | (exfalso; omega) | (conv => whnf))))
            | ((with_reducible apply XBr.beq) <;> (intro h; first | (exfalso; omega) | (conv => whnf)))
            | ((with_reducible apply XBr.bne) <;> (intro h; first | (exfalso; omega) | (conv => whnf)))
            | ((with_reducible refine XInt.i64 (by omega) (by omega) ?_); conv => whnf)
            | ((with_reducible refine XHold.mk ?_ ?_); (first | omega | rfl | decide | exact ⟨rfl, by decide, rfl⟩ | exact wideI _ | exact widePr _ | exact wideSk _ | (unfold Room; constructor <;> ((try simp) <;> omega)) | exact ⟨rfl, by simp only [List.length_map], by unfold Room; constructor <;> ((try simp) <;> omega)⟩ | exact ⟨by omega, by omega, by unfold Room; constructor <;> ((try simp) <;> omega)⟩); conv => whnf)
            | ((with_reducible refine XIx.nat ?_ ?_ ?_); omega; (intro _; rfl); conv => whnf)
            | ((with_reducible refine XIx.map ?_ ?_ ?_ ?_); omega; omega; (intro _; rfl); conv => whnf)
            | (with_reducible apply XAnd.mk)
            | ((with_reducible apply Chk.go); conv => whnf)
            | ((with_reducible apply ChkA.go); conv => whnf)
            | ((with_reducible apply ChkF.go); conv => whnf)
            | ((with_reducible apply ChkB.go); conv => whnf)
            | (exact XSame.mk rfl rfl)
            | (exact XSame.mk (by first | rfl | (simp only [List.map_append, List.length_append, List.length_map]; done) | (simp only [List.map_append, List.length_append, List.length_map]; rfl)) (by first | rfl | (simp only [List.map_append]; done) | (simp only [List.map_append]; rfl)))
            | (with_reducible exact trivial)
            | ((with_reducible refine xdrop_app (by rw [List.length_map]; omega) ?_); conv => whnf)
            | ((with_reducible refine XArr.ints (by omega) (by omega) (by omega) ?_); conv => whnf)
            | ((with_reducible refine XArr.intsA (by omega) (by omega) (by omega) ?_); conv => whnf)
            | ((with_reducible refine XArr.nats ?_ ?_ ?_); omega; omega; conv => whnf)
            | ((with_reducible refine XArr.natsA ?_ ?_ ?_); omega; omega; conv => whnf)
            | ((with_reducible apply XArr.pim0); conv => whnf)
            | ((with_reducible apply XArr.pim1); conv => whnf)
            | ((with_reducible refine XArr.ptr ?_ ?_ ?_); omega; omega; conv => whnf)
            | ((refine XInt.eq (y := ((2 ^ i : Nat) : Int)) (shl_nat (by omega)) (by omega) (by omega) ?_); conv => whnf)
            | ((refine xspl_dkN i (2 ^ i) (hvF_len _ _) (by omega) rfl (by rw [ndI_len]; omega) ?_); conv => whnf)
            | ((with_reducible apply XBr.mk') <;> (intro h; conv => whnf))
      · skip
        repeat' first
            | ((with_reducible apply XBr.tt); conv => whnf)
            | ((with_reducible apply XBr.ff); conv => whnf)
            | (with_reducible apply XBr.not)
            | ((with_reducible apply XBr.dec) <;> (intro h; first | (exfalso; omega) | ((try simp only [List.length_map] at h); first | (exfalso; omega) | (conv => whnf))))
            | ((with_reducible apply XBr.beq) <;> (intro h; first | (exfalso; omega) | (conv => whnf)))
            | ((with_reducible apply XBr.bne) <;> (intro h; first | (exfalso; omega) | (conv => whnf)))
            | ((with_reducible refine XInt.i64 (by omega) (by omega) ?_); conv => whnf)
            | ((with_reducible refine XHold.mk ?_ ?_); (first | omega | rfl | decide | exact ⟨rfl, by decide, rfl⟩ | exact wideI _ | exact widePr _ | exact wideSk _ | (unfold Room; constructor <;> ((try simp) <;> omega)) | exact ⟨rfl, by simp only [List.length_map], by unfold Room; constructor <;> ((try simp) <;> omega)⟩ | exact ⟨by omega, by omega, by unfold Room; constructor <;> ((try simp) <;> omega)⟩); conv => whnf)
            | ((with_reducible refine XIx.nat ?_ ?_ ?_); omega; (intro _; rfl); conv => whnf)
            | ((with_reducible refine XIx.map ?_ ?_ ?_ ?_); omega; omega; (intro _; rfl); conv => whnf)
            | (with_reducible apply XAnd.mk)
            | ((with_reducible apply Chk.go); conv => whnf)
            | ((with_reducible apply ChkA.go); conv => whnf)
            | ((with_reducible apply ChkF.go); conv => whnf)
            | ((with_reducible apply ChkB.go); conv => whnf)
            | (exact XSame.mk rfl rfl)
            | (exact XSame.mk (by first | rfl | (simp only [List.map_append, List.length_append, List.length_map]; done) | (simp only [List.map_append, List.length_append, List.length_map]; rfl)) (by first | rfl | (simp only [List.map_append]; done) | (simp only [List.map_append]; rfl)))
            | (with_reducible exact trivial)
            | ((with_reducible refine xdrop_app (by rw [List.length_map]; omega) ?_); conv => whnf)
            | ((with_reducible refine XArr.ints (by omega) (by omega) (by omega) ?_); conv => whnf)
            | ((with_reducible refine XArr.intsA (by omega) (by omega) (by omega) ?_); conv => whnf)
            | ((with_reducible refine XArr.nats ?_ ?_ ?_); omega; omega; conv => whnf)
            | ((with_reducible refine XArr.natsA ?_ ?_ ?_); omega; omega; conv => whnf)
            | ((with_reducible apply XArr.pim0); conv => whnf)
            | ((with_reducible apply XArr.pim1); conv => whnf)
            | ((with_reducible refine XArr.ptr ?_ ?_ ?_); omega; omega; conv => whnf)
            | ((with_reducible apply XBr.mk') <;> (intro h; conv => whnf))
      · rw [ndI_set (by omega)]
        conv => whnf
        repeat' first
            | ((with_reducible apply XBr.tt); conv => whnf)
            | ((with_reducible apply XBr.ff); conv => whnf)
            | (with_reducible apply XBr.not)
            | ((with_reducible apply XBr.dec) <;> (intro h; first | (exfalso; omega) | ((try simp only [List.length_map] at h); first | (exfalso; omega) | (conv => whnf))))
            | ((with_reducible apply XBr.beq) <;> (intro h; first | (exfalso; omega) | (conv => whnf)))
            | ((with_reducible apply XBr.bne) <;> (intro h; first | (exfalso; omega) | (conv => whnf)))
            | ((with_reducible refine XInt.i64 (by omega) (by omega) ?_); conv => whnf)
            | ((with_reducible refine XHold.mk ?_ ?_); (first | omega | rfl | decide | exact ⟨rfl, by decide, rfl⟩ | exact wideI _ | exact widePr _ | exact wideSk _ | (unfold Room; constructor <;> ((try simp) <;> omega)) | exact ⟨rfl, by simp only [List.length_map], by unfold Room; constructor <;> ((try simp) <;> omega)⟩ | exact ⟨by omega, by omega, by unfold Room; constructor <;> ((try simp) <;> omega)⟩); conv => whnf)
            | ((with_reducible refine XIx.nat ?_ ?_ ?_); omega; (intro _; rfl); conv => whnf)
            | ((with_reducible refine XIx.map ?_ ?_ ?_ ?_); omega; omega; (intro _; rfl); conv => whnf)
            | (with_reducible apply XAnd.mk)
            | ((with_reducible apply Chk.go); conv => whnf)
            | ((with_reducible apply ChkA.go); conv => whnf)
            | ((with_reducible apply ChkF.go); conv => whnf)
            | ((with_reducible apply ChkB.go); conv => whnf)
            | (exact XSame.mk rfl rfl)
            | (exact XSame.mk (by first | rfl | (simp only [List.map_append, List.length_append, List.length_map]; done) | (simp only [List.map_append, List.length_append, List.length_map]; rfl)) (by first | rfl | (simp only [List.map_append]; done) | (simp only [List.map_append]; rfl)))
            | (with_reducible exact trivial)
            | ((with_reducible refine xdrop_app (by rw [List.length_map]; omega) ?_); conv => whnf)
            | ((with_reducible refine XArr.ints (by omega) (by omega) (by omega) ?_); conv => whnf)
            | ((with_reducible refine XArr.intsA (by omega) (by omega) (by omega) ?_); conv => whnf)
            | ((with_reducible refine XArr.nats ?_ ?_ ?_); omega; omega; conv => whnf)
            | ((with_reducible refine XArr.natsA ?_ ?_ ?_); omega; omega; conv => whnf)
            | ((with_reducible apply XArr.pim0); conv => whnf)
            | ((with_reducible apply XArr.pim1); conv => whnf)
            | ((with_reducible refine XArr.ptr ?_ ?_ ?_); omega; omega; conv => whnf)
            | ((with_reducible apply XBr.mk') <;> (intro h; conv => whnf))
        refine XInt.eq (y := ((2 ^ i : Nat) : Int)) (shl_nat (by omega)) (by omega) (by omega) ?_
        conv => whnf
        refine Walk.loop tab_ok [] (fun k : Nat => k ≤ 2 ^ i) (fun k => [(1, .pim (ldC l)), (5, .ptr 0 0), (19, .sl l.nls (l.sacks.map skA)), (20, .int .i64 l.sacks.length), (21, .int .i64 i), (6, .int .i64 i), (7, .ptr 1 0), (34, .int .i64 (2 ^ i : Nat)), (35, .int .i64 k)])
          (fun k => [.cells (deskC ⟨l, hvF (wts l) (2 ^ i + k), ndI (i + 1)⟩), .cells [.int .i64 s.m, .int .i64 s.o]]) (fun k => 2 ^ i - k) 0 (by omega) rfl ⟨rfl, rfl, rfl, rfl, rfl, rfl, rfl, rfl, rfl, trivial⟩ ?_
        intro k hk
        conv => whnf
        repeat' first
            | ((with_reducible apply XBr.tt); conv => whnf)
            | ((with_reducible apply XBr.ff); conv => whnf)
            | (with_reducible apply XBr.not)
            | ((with_reducible apply XBr.dec) <;> (intro h; first | (exfalso; omega) | ((try simp only [List.length_map] at h); first | (exfalso; omega) | (conv => whnf))))
            | ((with_reducible apply XBr.beq) <;> (intro h; first | (exfalso; omega) | (conv => whnf)))
            | ((with_reducible apply XBr.bne) <;> (intro h; first | (exfalso; omega) | (conv => whnf)))
            | ((with_reducible refine XInt.i64 (by omega) (by omega) ?_); conv => whnf)
            | ((with_reducible refine XHold.mk ?_ ?_); (first | omega | rfl | decide | exact ⟨rfl, by decide, rfl⟩ | exact wideI _ | exact widePr _ | exact wideSk _ | (unfold Room; constructor <;> ((try simp) <;> omega)) | exact ⟨rfl, by simp only [List.length_map], by unfold Room; constructor <;> ((try simp) <;> omega)⟩ | exact ⟨by omega, by omega, by unfold Room; constructor <;> ((try simp) <;> omega)⟩); conv => whnf)
            | ((with_reducible refine XIx.nat ?_ ?_ ?_); omega; (intro _; rfl); conv => whnf)
            | ((with_reducible refine XIx.map ?_ ?_ ?_ ?_); omega; omega; (intro _; rfl); conv => whnf)
            | (with_reducible apply XAnd.mk)
            | ((with_reducible apply Chk.go); conv => whnf)
            | ((with_reducible apply ChkA.go); conv => whnf)
            | ((with_reducible apply ChkF.go); conv => whnf)
            | ((with_reducible apply ChkB.go); conv => whnf)
            | (exact XSame.mk rfl rfl)
            | (exact XSame.mk (by first | rfl | (simp only [List.map_append, List.length_append, List.length_map]; done) | (simp only [List.map_append, List.length_append, List.length_map]; rfl)) (by first | rfl | (simp only [List.map_append]; done) | (simp only [List.map_append]; rfl)))
            | (with_reducible exact trivial)
            | ((with_reducible refine xdrop_app (by rw [List.length_map]; omega) ?_); conv => whnf)
            | ((with_reducible refine XArr.ints (by omega) (by omega) (by omega) ?_); conv => whnf)
            | ((with_reducible refine XArr.intsA (by omega) (by omega) (by omega) ?_); conv => whnf)
            | ((with_reducible refine XArr.nats ?_ ?_ ?_); omega; omega; conv => whnf)
            | ((with_reducible refine XArr.natsA ?_ ?_ ?_); omega; omega; conv => whnf)
            | ((with_reducible apply XArr.pim0); conv => whnf)
            | ((with_reducible apply XArr.pim1); conv => whnf)
            | ((with_reducible refine XArr.ptr ?_ ?_ ?_); omega; omega; conv => whnf)
            | ((with_reducible apply XBr.mk') <;> (intro h; conv => whnf))
        · have p8 : 2 ^ i ≤ 256 := Nat.pow_le_pow_right (n := 2) (by omega) (show i ≤ 8 by omega)
          have hk2 : k < 2 ^ i := by omega
          have hle := hvF_le ok (2 ^ i + k) k
          have hor : ior .i64 (k : Int) ((2 ^ i : Nat) : Int) = ((2 ^ i + k : Nat) : Int) := by
            rw [ior_nat (by omega) (by omega)]
            have := Nat.two_pow_add_eq_or_of_lt hk2 1
            rw [Nat.mul_one] at this; rw [this, Nat.or_comm]
          have hget : (hvF (wts l) (2 ^ i + k)).getD k 0 = sumW (wts l) k := by rw [hvF_get (by omega), if_pos (by omega)]
          have hsum : sumW (wts l) (2 ^ i + k) = sumW (wts l) k + wt l s := by rw [sumW_add _ _ _ hk2, wts_get l (by omega), hse]
          have hset : (hvF (wts l) (2 ^ i + k)).set (2 ^ i + k) (sumW (wts l) k + wt l s) = hvF (wts l) (2 ^ i + (k + 1)) := hvF_set (by omega) hsum.symm
          rw [hget] at hle
          apply Walk.drawX tab_ok mixed_ok [] [18] (hsC [[.cells (deskC ⟨l, hvF (wts l) (2 ^ i + k), ndI (i + 1)⟩), .cells [.int .i64 s.m, .int .i64 s.o]], [.cells (deskC ⟨l, hvF (wts l) (2 ^ i + (k + 1)), ndI (i + 1)⟩), .cells [.int .i64 s.m, .int .i64 s.o]]])
            [_, _, _, natA (2 ^ i), natA (2 ^ i + k), _, _, _, _, _, natA (sumW (wts l) k), _, _, natA (wt l s), natA (sumW (wts l) k + wt l s), _, _, _, _] (by kernel_rfl) rfl
          · skip
            repeat' first
                | ((with_reducible apply XBr.tt); conv => whnf)
                | ((with_reducible apply XBr.ff); conv => whnf)
                | (with_reducible apply XBr.not)
                | ((with_reducible apply XBr.dec) <;> (intro h; first | (exfalso; omega) | ((try simp only [List.length_map] at h); first | (exfalso; omega) | (conv => whnf))))
                | ((with_reducible apply XBr.beq) <;> (intro h; first | (exfalso; omega) | (conv => whnf)))
                | ((with_reducible apply XBr.bne) <;> (intro h; first | (exfalso; omega) | (conv => whnf)))
                | ((with_reducible refine XInt.i64 (by omega) (by omega) ?_); conv => whnf)
                | ((with_reducible refine XHold.mk ?_ ?_); (first | omega | rfl | decide | exact ⟨rfl, by decide, rfl⟩ | exact wideI _ | exact widePr _ | exact wideSk _ | (unfold Room; constructor <;> ((try simp) <;> omega)) | exact ⟨rfl, by simp only [List.length_map], by unfold Room; constructor <;> ((try simp) <;> omega)⟩ | exact ⟨by omega, by omega, by unfold Room; constructor <;> ((try simp) <;> omega)⟩); conv => whnf)
                | ((with_reducible refine XIx.nat ?_ ?_ ?_); omega; (intro _; rfl); conv => whnf)
                | ((with_reducible refine XIx.map ?_ ?_ ?_ ?_); omega; omega; (intro _; rfl); conv => whnf)
                | (with_reducible apply XAnd.mk)
                | ((with_reducible apply Chk.go); conv => whnf)
                | ((with_reducible apply ChkA.go); conv => whnf)
                | ((with_reducible apply ChkF.go); conv => whnf)
                | ((with_reducible apply ChkB.go); conv => whnf)
                | (exact XSame.mk rfl rfl)
                | (exact XSame.mk (by first | rfl | (simp only [List.map_append, List.length_append, List.length_map]; done) | (simp only [List.map_append, List.length_append, List.length_map]; rfl)) (by first | rfl | (simp only [List.map_append]; done) | (simp only [List.map_append]; rfl)))
                | (with_reducible exact trivial)
                | ((with_reducible refine xdrop_app (by rw [List.length_map]; omega) ?_); conv => whnf)
                | ((with_reducible refine XArr.ints (by omega) (by omega) (by omega) ?_); conv => whnf)
                | ((with_reducible refine XArr.intsA (by omega) (by omega) (by omega) ?_); conv => whnf)
                | ((with_reducible refine XArr.nats ?_ ?_ ?_); omega; omega; conv => whnf)
                | ((with_reducible refine XArr.natsA ?_ ?_ ?_); omega; omega; conv => whnf)
                | ((with_reducible apply XArr.pim0); conv => whnf)
                | ((with_reducible apply XArr.pim1); conv => whnf)
                | ((with_reducible refine XArr.ptr ?_ ?_ ?_); omega; omega; conv => whnf)
                | ((refine XInt.eq (y := ((2 ^ i : Nat) : Int)) (shl_nat (by omega)) (by omega) (by omega) ?_); conv => whnf)
                | (exact XSame.mk (congrArg (AV.int .i64) hor) rfl)
                | ((refine xdrop_dkW (d := ⟨l, hvF (wts l) (2 ^ i + k), ndI (i + 1)⟩) k (by omega) (by rw [hvF_len]; omega) ?_); conv => whnf)
                | (exact XSame.mk (congrArg (fun n : Nat => AV.int .i64 n) hget) rfl)
                | ((refine XCall.ret (weight_c l s (by omega) (by omega) (by omega) (by omega)) ?_); conv => whnf)
                | (exact XSame.mk (congrArg (AV.int .i64) hw2.1.symm) rfl)
                | ((refine xspl_dkW (d := ⟨l, hvF (wts l) (2 ^ i + k), ndI (i + 1)⟩) (2 ^ i + k) (sumW (wts l) k + wt l s) (by omega) rfl (by rw [hvF_len]; omega) ?_); dsimp only; rw [hset]; conv => whnf)
                | ((with_reducible apply XBr.mk') <;> (intro h; conv => whnf))
          · skip
            repeat' first
                | ((with_reducible apply XBr.tt); conv => whnf)
                | ((with_reducible apply XBr.ff); conv => whnf)
                | (with_reducible apply XBr.not)
                | ((with_reducible apply XBr.dec) <;> (intro h; first | (exfalso; omega) | ((try simp only [List.length_map] at h); first | (exfalso; omega) | (conv => whnf))))
                | ((with_reducible apply XBr.beq) <;> (intro h; first | (exfalso; omega) | (conv => whnf)))
                | ((with_reducible apply XBr.bne) <;> (intro h; first | (exfalso; omega) | (conv => whnf)))
                | ((with_reducible refine XInt.i64 (by omega) (by omega) ?_); conv => whnf)
                | ((with_reducible refine XHold.mk ?_ ?_); (first | omega | rfl | decide | exact ⟨rfl, by decide, rfl⟩ | exact wideI _ | exact widePr _ | exact wideSk _ | (unfold Room; constructor <;> ((try simp) <;> omega)) | exact ⟨rfl, by simp only [List.length_map], by unfold Room; constructor <;> ((try simp) <;> omega)⟩ | exact ⟨by omega, by omega, by unfold Room; constructor <;> ((try simp) <;> omega)⟩); conv => whnf)
                | ((with_reducible refine XIx.nat ?_ ?_ ?_); omega; (intro _; rfl); conv => whnf)
                | ((with_reducible refine XIx.map ?_ ?_ ?_ ?_); omega; omega; (intro _; rfl); conv => whnf)
                | (with_reducible apply XAnd.mk)
                | ((with_reducible apply Chk.go); conv => whnf)
                | ((with_reducible apply ChkA.go); conv => whnf)
                | ((with_reducible apply ChkF.go); conv => whnf)
                | ((with_reducible apply ChkB.go); conv => whnf)
                | (exact XSame.mk rfl rfl)
                | (exact XSame.mk (by first | rfl | (simp only [List.map_append, List.length_append, List.length_map]; done) | (simp only [List.map_append, List.length_append, List.length_map]; rfl)) (by first | rfl | (simp only [List.map_append]; done) | (simp only [List.map_append]; rfl)))
                | (with_reducible exact trivial)
                | ((with_reducible refine xdrop_app (by rw [List.length_map]; omega) ?_); conv => whnf)
                | ((with_reducible refine XArr.ints (by omega) (by omega) (by omega) ?_); conv => whnf)
                | ((with_reducible refine XArr.intsA (by omega) (by omega) (by omega) ?_); conv => whnf)
                | ((with_reducible refine XArr.nats ?_ ?_ ?_); omega; omega; conv => whnf)
                | ((with_reducible refine XArr.natsA ?_ ?_ ?_); omega; omega; conv => whnf)
                | ((with_reducible apply XArr.pim0); conv => whnf)
                | ((with_reducible apply XArr.pim1); conv => whnf)
                | ((with_reducible refine XArr.ptr ?_ ?_ ?_); omega; omega; conv => whnf)
                | ((with_reducible apply XBr.mk') <;> (intro h; conv => whnf))
          · conv => whnf
            repeat' first
                | ((with_reducible apply XBr.tt); conv => whnf)
                | ((with_reducible apply XBr.ff); conv => whnf)
                | (with_reducible apply XBr.not)
                | ((with_reducible apply XBr.dec) <;> (intro h; first | (exfalso; omega) | ((try simp only [List.length_map] at h); first | (exfalso; omega) | (conv => whnf))))
                | ((with_reducible apply XBr.beq) <;> (intro h; first | (exfalso; omega) | (conv => whnf)))
                | ((with_reducible apply XBr.bne) <;> (intro h; first | (exfalso; omega) | (conv => whnf)))
                | ((with_reducible refine XInt.i64 (by omega) (by omega) ?_); conv => whnf)
                | ((with_reducible refine XHold.mk ?_ ?_); (first | omega | rfl | decide | exact ⟨rfl, by decide, rfl⟩ | exact wideI _ | exact widePr _ | exact wideSk _ | (unfold Room; constructor <;> ((try simp) <;> omega)) | exact ⟨rfl, by simp only [List.length_map], by unfold Room; constructor <;> ((try simp) <;> omega)⟩ | exact ⟨by omega, by omega, by unfold Room; constructor <;> ((try simp) <;> omega)⟩); conv => whnf)
                | ((with_reducible refine XIx.nat ?_ ?_ ?_); omega; (intro _; rfl); conv => whnf)
                | ((with_reducible refine XIx.map ?_ ?_ ?_ ?_); omega; omega; (intro _; rfl); conv => whnf)
                | (with_reducible apply XAnd.mk)
                | ((with_reducible apply Chk.go); conv => whnf)
                | ((with_reducible apply ChkA.go); conv => whnf)
                | ((with_reducible apply ChkF.go); conv => whnf)
                | ((with_reducible apply ChkB.go); conv => whnf)
                | (exact XSame.mk rfl rfl)
                | (exact XSame.mk (by first | rfl | (simp only [List.map_append, List.length_append, List.length_map]; done) | (simp only [List.map_append, List.length_append, List.length_map]; rfl)) (by first | rfl | (simp only [List.map_append]; done) | (simp only [List.map_append]; rfl)))
                | (with_reducible exact trivial)
                | ((with_reducible refine xdrop_app (by rw [List.length_map]; omega) ?_); conv => whnf)
                | ((with_reducible refine XArr.ints (by omega) (by omega) (by omega) ?_); conv => whnf)
                | ((with_reducible refine XArr.intsA (by omega) (by omega) (by omega) ?_); conv => whnf)
                | ((with_reducible refine XArr.nats ?_ ?_ ?_); omega; omega; conv => whnf)
                | ((with_reducible refine XArr.natsA ?_ ?_ ?_); omega; omega; conv => whnf)
                | ((with_reducible apply XArr.pim0); conv => whnf)
                | ((with_reducible apply XArr.pim1); conv => whnf)
                | ((with_reducible refine XArr.ptr ?_ ?_ ?_); omega; omega; conv => whnf)
                | ((with_reducible apply XBr.mk') <;> (intro h; conv => whnf))
            exact XAgain.go (k + 1) (by omega) (by omega) rfl ⟨rfl, rfl, rfl, rfl, rfl, rfl, rfl, rfl, rfl, trivial⟩
        · have hke : k = 2 ^ i := by omega
          refine XAgainG.go (i + 1) [.cells [.int .i64 s.m, .int .i64 s.o]] (by omega) (by omega) ?_ ⟨rfl, rfl, rfl, rfl, rfl, trivial⟩
          subst hke
          rw [show 2 ^ (i + 1) = 2 ^ i + 2 ^ i by rw [Nat.pow_succ]; omega]; rfl
    · have hie : i = l.sacks.length := by omega
      subst hie
      clear hi h g
      have hfin : openR l = .tup [.pim (deskC ⟨l, hvF (wts l) (2 ^ l.sacks.length), closeF l 5000 (ndI l.sacks.length)⟩), .int .i64 0] := by
        unfold openR; rw [if_pos ((checkR_ok l).2 ok)]; rfl
      have hl := hvF_len (wts l) (2 ^ l.sacks.length)
      have bl := ndI_len l.sacks.length
      have bs := ndI_small l.sacks.length
      generalize hvF (wts l) (2 ^ l.sacks.length) = hv at hl hfin ⊢
      generalize ndI l.sacks.length = b0 at bl bs hfin ⊢
      have hwp : ∀ p ∈ l.wth, 0 ≤ p.1 ∧ p.1 < 9 ∧ 0 ≤ p.2 ∧ p.2 < 9 := fun p hp => by have := ok.wp p hp; have := ok.n; omega
      have jl := joinR_len l b0
      generalize hcl : closeF l 5000 b0 = res at hfin
      apply Walk.drawX tab_ok mixed_ok [] [6, 7] (hsC [[.cells (deskC ⟨l, hv, b0⟩)], [.cells (deskC ⟨l, hv, b0⟩), .cells (nats (List.replicate 9 0))], [.cells (deskC ⟨l, hv, b0⟩), .cells (nats (joinR l b0))]])
        [_, _, _, _, .agg (nats b0), .agg (nats (joinR l b0)), _, _] (by kernel_rfl) rfl
      · skip
        repeat' first
            | ((with_reducible apply XBr.tt); conv => whnf)
            | ((with_reducible apply XBr.ff); conv => whnf)
            | (with_reducible apply XBr.not)
            | ((with_reducible apply XBr.dec) <;> (intro h; first | (exfalso; omega) | ((try simp only [List.length_map] at h); first | (exfalso; omega) | (conv => whnf))))
            | ((with_reducible apply XBr.beq) <;> (intro h; first | (exfalso; omega) | (conv => whnf)))
            | ((with_reducible apply XBr.bne) <;> (intro h; first | (exfalso; omega) | (conv => whnf)))
            | ((with_reducible refine XInt.i64 (by omega) (by omega) ?_); conv => whnf)
            | ((with_reducible refine XHold.mk ?_ ?_); (first | omega | rfl | decide | exact ⟨rfl, by decide, rfl⟩ | exact wideI _ | exact widePr _ | exact wideSk _ | (unfold Room; constructor <;> ((try simp) <;> omega)) | exact ⟨rfl, by simp only [List.length_map], by unfold Room; constructor <;> ((try simp) <;> omega)⟩ | exact ⟨by omega, by omega, by unfold Room; constructor <;> ((try simp) <;> omega)⟩); conv => whnf)
            | ((with_reducible refine XIx.nat ?_ ?_ ?_); omega; (intro _; rfl); conv => whnf)
            | ((with_reducible refine XIx.map ?_ ?_ ?_ ?_); omega; omega; (intro _; rfl); conv => whnf)
            | (with_reducible apply XAnd.mk)
            | ((with_reducible apply Chk.go); conv => whnf)
            | ((with_reducible apply ChkA.go); conv => whnf)
            | ((with_reducible apply ChkF.go); conv => whnf)
            | ((with_reducible apply ChkB.go); conv => whnf)
            | (exact XSame.mk rfl rfl)
            | (exact XSame.mk (by first | rfl | (simp only [List.map_append, List.length_append, List.length_map]; done) | (simp only [List.map_append, List.length_append, List.length_map]; rfl)) (by first | rfl | (simp only [List.map_append]; done) | (simp only [List.map_append]; rfl)))
            | (with_reducible exact trivial)
            | ((with_reducible refine xdrop_app (by rw [List.length_map]; omega) ?_); conv => whnf)
            | ((with_reducible refine XArr.ints (by omega) (by omega) (by omega) ?_); conv => whnf)
            | ((with_reducible refine XArr.intsA (by omega) (by omega) (by omega) ?_); conv => whnf)
            | ((with_reducible refine XArr.nats ?_ ?_ ?_); omega; omega; conv => whnf)
            | ((with_reducible refine XArr.natsA ?_ ?_ ?_); omega; omega; conv => whnf)
            | ((with_reducible apply XArr.pim0); conv => whnf)
            | ((with_reducible apply XArr.pim1); conv => whnf)
            | ((with_reducible refine XArr.ptr ?_ ?_ ?_); omega; omega; conv => whnf)
            | ((refine xdrop_dkN (d := ⟨l, hv, b0⟩) hl ?_); conv => whnf)
            | ((refine xtk_all (by rw [List.length_map]; exact bl) ?_); conv => whnf)
            | ((refine XCall.ret (joined_c l b0 bl bs ok.nw hwp) ?_); conv => whnf)
            | ((refine xn_all (by rw [List.length_map, jl]; exact bl) ?_); conv => whnf)
            | ((refine xspl_all (by rw [List.length_map, List.length_map, List.length_replicate]; omega) ?_); conv => whnf)
            | ((with_reducible apply XBr.mk') <;> (intro h; conv => whnf))
      · skip
        repeat' first
            | ((with_reducible apply XBr.tt); conv => whnf)
            | ((with_reducible apply XBr.ff); conv => whnf)
            | (with_reducible apply XBr.not)
            | ((with_reducible apply XBr.dec) <;> (intro h; first | (exfalso; omega) | ((try simp only [List.length_map] at h); first | (exfalso; omega) | (conv => whnf))))
            | ((with_reducible apply XBr.beq) <;> (intro h; first | (exfalso; omega) | (conv => whnf)))
            | ((with_reducible apply XBr.bne) <;> (intro h; first | (exfalso; omega) | (conv => whnf)))
            | ((with_reducible refine XInt.i64 (by omega) (by omega) ?_); conv => whnf)
            | ((with_reducible refine XHold.mk ?_ ?_); (first | omega | rfl | decide | exact ⟨rfl, by decide, rfl⟩ | exact wideI _ | exact widePr _ | exact wideSk _ | (unfold Room; constructor <;> ((try simp) <;> omega)) | exact ⟨rfl, by simp only [List.length_map], by unfold Room; constructor <;> ((try simp) <;> omega)⟩ | exact ⟨by omega, by omega, by unfold Room; constructor <;> ((try simp) <;> omega)⟩); conv => whnf)
            | ((with_reducible refine XIx.nat ?_ ?_ ?_); omega; (intro _; rfl); conv => whnf)
            | ((with_reducible refine XIx.map ?_ ?_ ?_ ?_); omega; omega; (intro _; rfl); conv => whnf)
            | (with_reducible apply XAnd.mk)
            | ((with_reducible apply Chk.go); conv => whnf)
            | ((with_reducible apply ChkA.go); conv => whnf)
            | ((with_reducible apply ChkF.go); conv => whnf)
            | ((with_reducible apply ChkB.go); conv => whnf)
            | (exact XSame.mk rfl rfl)
            | (exact XSame.mk (by first | rfl | (simp only [List.map_append, List.length_append, List.length_map]; done) | (simp only [List.map_append, List.length_append, List.length_map]; rfl)) (by first | rfl | (simp only [List.map_append]; done) | (simp only [List.map_append]; rfl)))
            | (with_reducible exact trivial)
            | ((with_reducible refine xdrop_app (by rw [List.length_map]; omega) ?_); conv => whnf)
            | ((with_reducible refine XArr.ints (by omega) (by omega) (by omega) ?_); conv => whnf)
            | ((with_reducible refine XArr.intsA (by omega) (by omega) (by omega) ?_); conv => whnf)
            | ((with_reducible refine XArr.nats ?_ ?_ ?_); omega; omega; conv => whnf)
            | ((with_reducible refine XArr.natsA ?_ ?_ ?_); omega; omega; conv => whnf)
            | ((with_reducible apply XArr.pim0); conv => whnf)
            | ((with_reducible apply XArr.pim1); conv => whnf)
            | ((with_reducible refine XArr.ptr ?_ ?_ ?_); omega; omega; conv => whnf)
            | ((refine xdrop_dkN (d := ⟨l, hv, b0⟩) hl ?_); conv => whnf)
            | ((refine xtk_all (by rw [List.length_map]; exact bl) ?_); conv => whnf)
            | ((refine XCall.ret (joined_c l b0 bl bs ok.nw hwp) ?_); conv => whnf)
            | ((with_reducible apply XBr.mk') <;> (intro h; conv => whnf))
      · conv => whnf
        refine Walk.loopR tab_ok [] (fun g : Option (List Nat) × Nat × List Nat => g.2.2.length = 9 ∧ (∀ i, g.2.2.getD i 0 < 512) ∧ closeF l g.2.1 g.2.2 = res ∧ msr g.2.2 < g.2.1)
          (fun g => [(1, .pim (ldC l)), (5, .ptr 0 0), (9, .ptr (match g.1 with | none => 1 | some _ => 2) 0)])
          (fun g => match g.1 with | none => [.cells (deskC ⟨l, hv, g.2.2⟩), .cells (nats (joinR l g.2.2))] | some x => [.cells (deskC ⟨l, hv, g.2.2⟩), .cells (nats x), .cells (nats (joinR l g.2.2))])
          (fun g => g.2.1) (none, 5000, b0) 2 ⟨bl, bs, hcl, by have := msr_le b0 bl; dsimp only; omega⟩ rfl rfl ⟨rfl, rfl, rfl, trivial⟩ ?_
        rintro ⟨ph, n, b⟩ ⟨gl, gs, gc, gm⟩
        dsimp only at gl gs gc gm ⊢
        have jl := joinR_len l b
        have js := joinR_small l b gs
        have jl2 := joinR_len l (joinR l b)
        have hn : n = n - 1 + 1 := by omega
        have hge : joinR l b ≠ b → msr (joinR l b) < msr b := fun h => msr_lt _ _ jl.symm (joinR_ge l b) js (fun e => h e.symm)
        have hstep : joinR l b ≠ b → closeF l (n - 1) (joinR l b) = res := fun h => by
          have := closeF_step l (n - 1) b h
          rw [← hn] at this; rw [← this]; exact gc
        rcases ph with _ | x
        · skip
          conv => whnf
          apply Walk.drawX tab_ok mixed_ok [] [] (hsK _) [.agg (nats (joinR l b)), _, _, _, .agg (nats b), .bool (joinR l b != b)] (by kernel_rfl) rfl
          · skip
            repeat' first
                | ((with_reducible apply XBr.tt); conv => whnf)
                | ((with_reducible apply XBr.ff); conv => whnf)
                | (with_reducible apply XBr.not)
                | ((with_reducible apply XBr.dec) <;> (intro h; first | (exfalso; omega) | ((try simp only [List.length_map] at h); first | (exfalso; omega) | (conv => whnf))))
                | ((with_reducible apply XBr.beq) <;> (intro h; first | (exfalso; omega) | (conv => whnf)))
                | ((with_reducible apply XBr.bne) <;> (intro h; first | (exfalso; omega) | (conv => whnf)))
                | ((with_reducible refine XInt.i64 (by omega) (by omega) ?_); conv => whnf)
                | ((with_reducible refine XHold.mk ?_ ?_); (first | omega | rfl | decide | exact ⟨rfl, by decide, rfl⟩ | exact wideI _ | exact widePr _ | exact wideSk _ | (unfold Room; constructor <;> ((try simp) <;> omega)) | exact ⟨rfl, by simp only [List.length_map], by unfold Room; constructor <;> ((try simp) <;> omega)⟩ | exact ⟨by omega, by omega, by unfold Room; constructor <;> ((try simp) <;> omega)⟩); conv => whnf)
                | ((with_reducible refine XIx.nat ?_ ?_ ?_); omega; (intro _; rfl); conv => whnf)
                | ((with_reducible refine XIx.map ?_ ?_ ?_ ?_); omega; omega; (intro _; rfl); conv => whnf)
                | (with_reducible apply XAnd.mk)
                | ((with_reducible apply Chk.go); conv => whnf)
                | ((with_reducible apply ChkA.go); conv => whnf)
                | ((with_reducible apply ChkF.go); conv => whnf)
                | ((with_reducible apply ChkB.go); conv => whnf)
                | (exact XSame.mk rfl rfl)
                | (exact XSame.mk (by first | rfl | (simp only [List.map_append, List.length_append, List.length_map]; done) | (simp only [List.map_append, List.length_append, List.length_map]; rfl)) (by first | rfl | (simp only [List.map_append]; done) | (simp only [List.map_append]; rfl)))
                | (with_reducible exact trivial)
                | ((with_reducible refine xdrop_app (by rw [List.length_map]; omega) ?_); conv => whnf)
                | ((with_reducible refine XArr.ints (by omega) (by omega) (by omega) ?_); conv => whnf)
                | ((with_reducible refine XArr.intsA (by omega) (by omega) (by omega) ?_); conv => whnf)
                | ((with_reducible refine XArr.nats ?_ ?_ ?_); omega; omega; conv => whnf)
                | ((with_reducible refine XArr.natsA ?_ ?_ ?_); omega; omega; conv => whnf)
                | ((with_reducible apply XArr.pim0); conv => whnf)
                | ((with_reducible apply XArr.pim1); conv => whnf)
                | ((with_reducible refine XArr.ptr ?_ ?_ ?_); omega; omega; conv => whnf)
                | ((refine xdrop_dkN (d := ⟨l, hv, b⟩) hl ?_); conv => whnf)
                | ((refine xtk_all (by rw [List.length_map]; first | exact gl | (rw [jl]; exact gl)) ?_); conv => whnf)
                | ((with_reducible apply XBr.mk') <;> (intro h; conv => whnf))
            refine ⟨_, _, nats_ints _, nats_ints _, by simp [jl], by rw [List.length_map, jl, gl], ?_⟩
            exact XSame.mk (by rw [arr_eq]; rfl) rfl
          · skip
            repeat' first
                | ((with_reducible apply XBr.tt); conv => whnf)
                | ((with_reducible apply XBr.ff); conv => whnf)
                | (with_reducible apply XBr.not)
                | ((with_reducible apply XBr.dec) <;> (intro h; first | (exfalso; omega) | ((try simp only [List.length_map] at h); first | (exfalso; omega) | (conv => whnf))))
                | ((with_reducible apply XBr.beq) <;> (intro h; first | (exfalso; omega) | (conv => whnf)))
                | ((with_reducible apply XBr.bne) <;> (intro h; first | (exfalso; omega) | (conv => whnf)))
                | ((with_reducible refine XInt.i64 (by omega) (by omega) ?_); conv => whnf)
                | ((with_reducible refine XHold.mk ?_ ?_); (first | omega | rfl | decide | exact ⟨rfl, by decide, rfl⟩ | exact wideI _ | exact widePr _ | exact wideSk _ | (unfold Room; constructor <;> ((try simp) <;> omega)) | exact ⟨rfl, by simp only [List.length_map], by unfold Room; constructor <;> ((try simp) <;> omega)⟩ | exact ⟨by omega, by omega, by unfold Room; constructor <;> ((try simp) <;> omega)⟩); conv => whnf)
                | ((with_reducible refine XIx.nat ?_ ?_ ?_); omega; (intro _; rfl); conv => whnf)
                | ((with_reducible refine XIx.map ?_ ?_ ?_ ?_); omega; omega; (intro _; rfl); conv => whnf)
                | (with_reducible apply XAnd.mk)
                | ((with_reducible apply Chk.go); conv => whnf)
                | ((with_reducible apply ChkA.go); conv => whnf)
                | ((with_reducible apply ChkF.go); conv => whnf)
                | ((with_reducible apply ChkB.go); conv => whnf)
                | (exact XSame.mk rfl rfl)
                | (exact XSame.mk (by first | rfl | (simp only [List.map_append, List.length_append, List.length_map]; done) | (simp only [List.map_append, List.length_append, List.length_map]; rfl)) (by first | rfl | (simp only [List.map_append]; done) | (simp only [List.map_append]; rfl)))
                | (with_reducible exact trivial)
                | ((with_reducible refine xdrop_app (by rw [List.length_map]; omega) ?_); conv => whnf)
                | ((with_reducible refine XArr.ints (by omega) (by omega) (by omega) ?_); conv => whnf)
                | ((with_reducible refine XArr.intsA (by omega) (by omega) (by omega) ?_); conv => whnf)
                | ((with_reducible refine XArr.nats ?_ ?_ ?_); omega; omega; conv => whnf)
                | ((with_reducible refine XArr.natsA ?_ ?_ ?_); omega; omega; conv => whnf)
                | ((with_reducible apply XArr.pim0); conv => whnf)
                | ((with_reducible apply XArr.pim1); conv => whnf)
                | ((with_reducible refine XArr.ptr ?_ ?_ ?_); omega; omega; conv => whnf)
                | ((with_reducible apply XBr.mk') <;> (intro h; conv => whnf))
          · conv => whnf
            repeat' first
                | ((with_reducible apply XBr.tt); conv => whnf)
                | ((with_reducible apply XBr.ff); conv => whnf)
                | (with_reducible apply XBr.not)
                | ((with_reducible apply XBr.dec) <;> (intro h; first | (exfalso; omega) | ((try simp only [List.length_map] at h); first | (exfalso; omega) | (conv => whnf))))
                | ((with_reducible apply XBr.beq) <;> (intro h; first | (exfalso; omega) | (conv => whnf)))
                | ((with_reducible apply XBr.bne) <;> (intro h; first | (exfalso; omega) | (conv => whnf)))
                | ((with_reducible refine XInt.i64 (by omega) (by omega) ?_); conv => whnf)
                | ((with_reducible refine XHold.mk ?_ ?_); (first | omega | rfl | decide | exact ⟨rfl, by decide, rfl⟩ | exact wideI _ | exact widePr _ | exact wideSk _ | (unfold Room; constructor <;> ((try simp) <;> omega)) | exact ⟨rfl, by simp only [List.length_map], by unfold Room; constructor <;> ((try simp) <;> omega)⟩ | exact ⟨by omega, by omega, by unfold Room; constructor <;> ((try simp) <;> omega)⟩); conv => whnf)
                | ((with_reducible refine XIx.nat ?_ ?_ ?_); omega; (intro _; rfl); conv => whnf)
                | ((with_reducible refine XIx.map ?_ ?_ ?_ ?_); omega; omega; (intro _; rfl); conv => whnf)
                | (with_reducible apply XAnd.mk)
                | ((with_reducible apply Chk.go); conv => whnf)
                | ((with_reducible apply ChkA.go); conv => whnf)
                | ((with_reducible apply ChkF.go); conv => whnf)
                | ((with_reducible apply ChkB.go); conv => whnf)
                | (exact XSame.mk rfl rfl)
                | (exact XSame.mk (by first | rfl | (simp only [List.map_append, List.length_append, List.length_map]; done) | (simp only [List.map_append, List.length_append, List.length_map]; rfl)) (by first | rfl | (simp only [List.map_append]; done) | (simp only [List.map_append]; rfl)))
                | (with_reducible exact trivial)
                | ((with_reducible refine xdrop_app (by rw [List.length_map]; omega) ?_); conv => whnf)
                | ((with_reducible refine XArr.ints (by omega) (by omega) (by omega) ?_); conv => whnf)
                | ((with_reducible refine XArr.intsA (by omega) (by omega) (by omega) ?_); conv => whnf)
                | ((with_reducible refine XArr.nats ?_ ?_ ?_); omega; omega; conv => whnf)
                | ((with_reducible refine XArr.natsA ?_ ?_ ?_); omega; omega; conv => whnf)
                | ((with_reducible apply XArr.pim0); conv => whnf)
                | ((with_reducible apply XArr.pim1); conv => whnf)
                | ((with_reducible refine XArr.ptr ?_ ?_ ?_); omega; omega; conv => whnf)
                | ((refine xtk_all (by rw [List.length_map]; first | exact gl | (rw [jl]; exact gl)) ?_); conv => whnf)
                | ((refine xn_all (by rw [List.length_map]; first | (rw [jl]; exact gl) | (rw [jl2, jl]; exact gl)) ?_); (first | (refine xspl_dkA (d := ⟨l, hv, b⟩) hl gl (by rw [jl]; exact gl) ?_) | skip); conv => whnf)
                | ((refine xspl_all (by simp [jl2, jl, gl]) ?_); conv => whnf)
                | ((refine XCall.ret (joined_c l (joinR l b) (by rw [jl]; exact gl) js ok.nw hwp) ?_); conv => whnf)
                | ((with_reducible apply XBr.mk') <;> (intro h; conv => whnf))
            · have hne : joinR l b ≠ b := by simpa using h
              have := hge hne
              have := hstep hne
              exact XAgainR.go (some (joinR l b), n - 1, joinR l b) [0, 1, 2] ⟨by dsimp only; omega, js, this, by dsimp only; omega⟩ (by dsimp only; omega) ⟨rfl, by decide, fun i hi => by rcases i with _ | _ | i <;> first | rfl | (exfalso; omega), by decide⟩
                (fun x hx => by simp at hx; rcases hx with rfl | rfl | rfl <;> first | exact lowDk _ | exact lowN _)
                (fun i x hi hx => by rcases i with _ | _ | i <;> first | (cases hx; first | exact lowDk _ | exact lowN _) | (exfalso; omega))
                ⟨.inl ⟨rfl, lowDk _⟩, .inl ⟨rfl, lowN _⟩, .inl ⟨rfl, lowN _⟩, trivial⟩
                ⟨⟨.inl ⟨rfl, lowLd _⟩, lowLd _⟩, ⟨.inl ⟨rfl, rfl⟩, rfl⟩, ⟨.inr rfl, rfl⟩, trivial⟩
            · have he : joinR l b = b := by simpa using h
              rw [closeF_stop _ _ _ he] at gc
              rw [← gc] at hfin
              rw [hfin]
              exact ⟨Froz.tup (.cons (Froz.ptr rfl (lowOne (d := ⟨l, hv, b⟩)) (FrozL.low (lowDk _))) (.cons (Froz.low rfl) .nil))⟩
        · skip
          conv => whnf
          apply Walk.drawX tab_ok mixed_ok [] [] (hsK _) [.agg (nats (joinR l b)), _, _, _, .agg (nats b), .bool (joinR l b != b)] (by kernel_rfl) rfl
          · skip
            repeat' first
                | ((with_reducible apply XBr.tt); conv => whnf)
                | ((with_reducible apply XBr.ff); conv => whnf)
                | (with_reducible apply XBr.not)
                | ((with_reducible apply XBr.dec) <;> (intro h; first | (exfalso; omega) | ((try simp only [List.length_map] at h); first | (exfalso; omega) | (conv => whnf))))
                | ((with_reducible apply XBr.beq) <;> (intro h; first | (exfalso; omega) | (conv => whnf)))
                | ((with_reducible apply XBr.bne) <;> (intro h; first | (exfalso; omega) | (conv => whnf)))
                | ((with_reducible refine XInt.i64 (by omega) (by omega) ?_); conv => whnf)
                | ((with_reducible refine XHold.mk ?_ ?_); (first | omega | rfl | decide | exact ⟨rfl, by decide, rfl⟩ | exact wideI _ | exact widePr _ | exact wideSk _ | (unfold Room; constructor <;> ((try simp) <;> omega)) | exact ⟨rfl, by simp only [List.length_map], by unfold Room; constructor <;> ((try simp) <;> omega)⟩ | exact ⟨by omega, by omega, by unfold Room; constructor <;> ((try simp) <;> omega)⟩); conv => whnf)
                | ((with_reducible refine XIx.nat ?_ ?_ ?_); omega; (intro _; rfl); conv => whnf)
                | ((with_reducible refine XIx.map ?_ ?_ ?_ ?_); omega; omega; (intro _; rfl); conv => whnf)
                | (with_reducible apply XAnd.mk)
                | ((with_reducible apply Chk.go); conv => whnf)
                | ((with_reducible apply ChkA.go); conv => whnf)
                | ((with_reducible apply ChkF.go); conv => whnf)
                | ((with_reducible apply ChkB.go); conv => whnf)
                | (exact XSame.mk rfl rfl)
                | (exact XSame.mk (by first | rfl | (simp only [List.map_append, List.length_append, List.length_map]; done) | (simp only [List.map_append, List.length_append, List.length_map]; rfl)) (by first | rfl | (simp only [List.map_append]; done) | (simp only [List.map_append]; rfl)))
                | (with_reducible exact trivial)
                | ((with_reducible refine xdrop_app (by rw [List.length_map]; omega) ?_); conv => whnf)
                | ((with_reducible refine XArr.ints (by omega) (by omega) (by omega) ?_); conv => whnf)
                | ((with_reducible refine XArr.intsA (by omega) (by omega) (by omega) ?_); conv => whnf)
                | ((with_reducible refine XArr.nats ?_ ?_ ?_); omega; omega; conv => whnf)
                | ((with_reducible refine XArr.natsA ?_ ?_ ?_); omega; omega; conv => whnf)
                | ((with_reducible apply XArr.pim0); conv => whnf)
                | ((with_reducible apply XArr.pim1); conv => whnf)
                | ((with_reducible refine XArr.ptr ?_ ?_ ?_); omega; omega; conv => whnf)
                | ((refine xdrop_dkN (d := ⟨l, hv, b⟩) hl ?_); conv => whnf)
                | ((refine xtk_all (by rw [List.length_map]; first | exact gl | (rw [jl]; exact gl)) ?_); conv => whnf)
                | ((with_reducible apply XBr.mk') <;> (intro h; conv => whnf))
            refine ⟨_, _, nats_ints _, nats_ints _, by simp [jl], by rw [List.length_map, jl, gl], ?_⟩
            exact XSame.mk (by rw [arr_eq]; rfl) rfl
          · skip
            repeat' first
                | ((with_reducible apply XBr.tt); conv => whnf)
                | ((with_reducible apply XBr.ff); conv => whnf)
                | (with_reducible apply XBr.not)
                | ((with_reducible apply XBr.dec) <;> (intro h; first | (exfalso; omega) | ((try simp only [List.length_map] at h); first | (exfalso; omega) | (conv => whnf))))
                | ((with_reducible apply XBr.beq) <;> (intro h; first | (exfalso; omega) | (conv => whnf)))
                | ((with_reducible apply XBr.bne) <;> (intro h; first | (exfalso; omega) | (conv => whnf)))
                | ((with_reducible refine XInt.i64 (by omega) (by omega) ?_); conv => whnf)
                | ((with_reducible refine XHold.mk ?_ ?_); (first | omega | rfl | decide | exact ⟨rfl, by decide, rfl⟩ | exact wideI _ | exact widePr _ | exact wideSk _ | (unfold Room; constructor <;> ((try simp) <;> omega)) | exact ⟨rfl, by simp only [List.length_map], by unfold Room; constructor <;> ((try simp) <;> omega)⟩ | exact ⟨by omega, by omega, by unfold Room; constructor <;> ((try simp) <;> omega)⟩); conv => whnf)
                | ((with_reducible refine XIx.nat ?_ ?_ ?_); omega; (intro _; rfl); conv => whnf)
                | ((with_reducible refine XIx.map ?_ ?_ ?_ ?_); omega; omega; (intro _; rfl); conv => whnf)
                | (with_reducible apply XAnd.mk)
                | ((with_reducible apply Chk.go); conv => whnf)
                | ((with_reducible apply ChkA.go); conv => whnf)
                | ((with_reducible apply ChkF.go); conv => whnf)
                | ((with_reducible apply ChkB.go); conv => whnf)
                | (exact XSame.mk rfl rfl)
                | (exact XSame.mk (by first | rfl | (simp only [List.map_append, List.length_append, List.length_map]; done) | (simp only [List.map_append, List.length_append, List.length_map]; rfl)) (by first | rfl | (simp only [List.map_append]; done) | (simp only [List.map_append]; rfl)))
                | (with_reducible exact trivial)
                | ((with_reducible refine xdrop_app (by rw [List.length_map]; omega) ?_); conv => whnf)
                | ((with_reducible refine XArr.ints (by omega) (by omega) (by omega) ?_); conv => whnf)
                | ((with_reducible refine XArr.intsA (by omega) (by omega) (by omega) ?_); conv => whnf)
                | ((with_reducible refine XArr.nats ?_ ?_ ?_); omega; omega; conv => whnf)
                | ((with_reducible refine XArr.natsA ?_ ?_ ?_); omega; omega; conv => whnf)
                | ((with_reducible apply XArr.pim0); conv => whnf)
                | ((with_reducible apply XArr.pim1); conv => whnf)
                | ((with_reducible refine XArr.ptr ?_ ?_ ?_); omega; omega; conv => whnf)
                | ((with_reducible apply XBr.mk') <;> (intro h; conv => whnf))
          · conv => whnf
            repeat' first
                | ((with_reducible apply XBr.tt); conv => whnf)
                | ((with_reducible apply XBr.ff); conv => whnf)
                | (with_reducible apply XBr.not)
                | ((with_reducible apply XBr.dec) <;> (intro h; first | (exfalso; omega) | ((try simp only [List.length_map] at h); first | (exfalso; omega) | (conv => whnf))))
                | ((with_reducible apply XBr.beq) <;> (intro h; first | (exfalso; omega) | (conv => whnf)))
                | ((with_reducible apply XBr.bne) <;> (intro h; first | (exfalso; omega) | (conv => whnf)))
                | ((with_reducible refine XInt.i64 (by omega) (by omega) ?_); conv => whnf)
                | ((with_reducible refine XHold.mk ?_ ?_); (first | omega | rfl | decide | exact ⟨rfl, by decide, rfl⟩ | exact wideI _ | exact widePr _ | exact wideSk _ | (unfold Room; constructor <;> ((try simp) <;> omega)) | exact ⟨rfl, by simp only [List.length_map], by unfold Room; constructor <;> ((try simp) <;> omega)⟩ | exact ⟨by omega, by omega, by unfold Room; constructor <;> ((try simp) <;> omega)⟩); conv => whnf)
                | ((with_reducible refine XIx.nat ?_ ?_ ?_); omega; (intro _; rfl); conv => whnf)
                | ((with_reducible refine XIx.map ?_ ?_ ?_ ?_); omega; omega; (intro _; rfl); conv => whnf)
                | (with_reducible apply XAnd.mk)
                | ((with_reducible apply Chk.go); conv => whnf)
                | ((with_reducible apply ChkA.go); conv => whnf)
                | ((with_reducible apply ChkF.go); conv => whnf)
                | ((with_reducible apply ChkB.go); conv => whnf)
                | (exact XSame.mk rfl rfl)
                | (exact XSame.mk (by first | rfl | (simp only [List.map_append, List.length_append, List.length_map]; done) | (simp only [List.map_append, List.length_append, List.length_map]; rfl)) (by first | rfl | (simp only [List.map_append]; done) | (simp only [List.map_append]; rfl)))
                | (with_reducible exact trivial)
                | ((with_reducible refine xdrop_app (by rw [List.length_map]; omega) ?_); conv => whnf)
                | ((with_reducible refine XArr.ints (by omega) (by omega) (by omega) ?_); conv => whnf)
                | ((with_reducible refine XArr.intsA (by omega) (by omega) (by omega) ?_); conv => whnf)
                | ((with_reducible refine XArr.nats ?_ ?_ ?_); omega; omega; conv => whnf)
                | ((with_reducible refine XArr.natsA ?_ ?_ ?_); omega; omega; conv => whnf)
                | ((with_reducible apply XArr.pim0); conv => whnf)
                | ((with_reducible apply XArr.pim1); conv => whnf)
                | ((with_reducible refine XArr.ptr ?_ ?_ ?_); omega; omega; conv => whnf)
                | ((refine xtk_all (by rw [List.length_map]; first | exact gl | (rw [jl]; exact gl)) ?_); conv => whnf)
                | ((refine xn_all (by rw [List.length_map]; first | (rw [jl]; exact gl) | (rw [jl2, jl]; exact gl)) ?_); (first | (refine xspl_dkA (d := ⟨l, hv, b⟩) hl gl (by rw [jl]; exact gl) ?_) | skip); conv => whnf)
                | ((refine xspl_all (by simp [jl2, jl, gl]) ?_); conv => whnf)
                | ((refine XCall.ret (joined_c l (joinR l b) (by rw [jl]; exact gl) js ok.nw hwp) ?_); conv => whnf)
                | ((with_reducible apply XBr.mk') <;> (intro h; conv => whnf))
            · have hne : joinR l b ≠ b := by simpa using h
              have := hge hne
              have := hstep hne
              exact XAgainR.go (some x, n - 1, joinR l b) [0, 1, 3] ⟨by dsimp only; omega, js, this, by dsimp only; omega⟩ (by dsimp only; omega) ⟨rfl, by decide, fun i hi => by rcases i with _ | _ | i <;> first | rfl | (exfalso; omega), by decide⟩
                (fun x hx => by simp at hx; rcases hx with rfl | rfl | rfl <;> first | exact lowDk _ | exact lowN _)
                (fun i x hi hx => by rcases i with _ | _ | i <;> first | (cases hx; first | exact lowDk _ | exact lowN _) | (exfalso; omega))
                ⟨.inl ⟨rfl, lowDk _⟩, .inl ⟨rfl, lowN _⟩, .inl ⟨rfl, lowN _⟩, trivial⟩
                ⟨⟨.inl ⟨rfl, lowLd _⟩, lowLd _⟩, ⟨.inl ⟨rfl, rfl⟩, rfl⟩, ⟨.inr rfl, rfl⟩, trivial⟩
            · have he : joinR l b = b := by simpa using h
              rw [closeF_stop _ _ _ he] at gc
              rw [← gc] at hfin
              rw [hfin]
              exact ⟨Froz.tup (.cons (Froz.ptr rfl (lowOne (d := ⟨l, hv, b⟩)) (FrozL.low (lowDk _))) (.cons (Froz.low rfl) .nil))⟩
end GA
