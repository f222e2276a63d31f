/- Part 5 of a proof: S13, S14, Abs28, S15, Abs29, S16. -/
import Derived.Test.YtlbdomhfcghjdaaP4
section
namespace GA
open Go Go.RowKit Go.Proofs
set_option pp.deepTerms true
set_option maxRecDepth 8000
set_option linter.unusedVariables false
set_option linter.unusedSimpArgs false

def sumW : List Nat → Nat → Nat
  | [], _ => 0
  | w :: ws, s => (if s % 2 = 1 then w else 0) + sumW ws (s / 2)
def wt (l : Ld) (s : Sk) : Nat := (weightR l s).toNat
def wts (l : Ld) : List Nat := l.sacks.map (wt l)
def hvF (ws : List Nat) (n : Nat) : List Nat := (List.range 512).map fun s => if s < n then sumW ws s else 0
def ndI (n : Nat) : List Nat := (List.range 9).map fun i => if i < n then 2 ^ i else 0
theorem sumW_zero : ∀ ws : List Nat, sumW ws 0 = 0
  | [] => rfl
  | w :: ws => by unfold sumW; rw [Nat.zero_div, sumW_zero ws]; rfl
theorem sumW_add : ∀ (ws : List Nat) (i k : Nat), k < 2 ^ i → sumW ws (2 ^ i + k) = sumW ws k + ws.getD i 0
  | [], i, k, _ => by simp [sumW]
  | w :: ws, 0, k, h => by
    have : k = 0 := by simpa using h
    subst this
    simp [sumW, sumW_zero]
  | w :: ws, i + 1, k, h => by
    have e : 2 ^ (i + 1) = 2 * 2 ^ i := by rw [Nat.pow_succ]; omega
    have e1 : (2 ^ (i + 1) + k) % 2 = k % 2 := by omega
    have e2 : (2 ^ (i + 1) + k) / 2 = 2 ^ i + k / 2 := by omega
    unfold sumW
    rw [e1, e2, sumW_add ws i (k / 2) (by omega)]
    simp only [List.getD_cons_succ]; omega
theorem sumW_le : ∀ (ws : List Nat) (s : Nat), (∀ w ∈ ws, w ≤ 100) → sumW ws s ≤ 100 * ws.length
  | [], _, _ => by simp [sumW]
  | w :: ws, s, h => by
    have := sumW_le ws (s / 2) (fun x hx => h x (List.mem_cons_of_mem _ hx))
    have := h w List.mem_cons_self
    unfold sumW; simp only [List.length_cons]; split <;> omega
theorem hvF_len (ws : List Nat) (n : Nat) : (hvF ws n).length = 512 := by simp [hvF]
theorem ndI_len (n : Nat) : (ndI n).length = 9 := by simp [ndI]
theorem hvF_get {ws : List Nat} {n k : Nat} (hk : k < 512) : (hvF ws n).getD k 0 = if k < n then sumW ws k else 0 := by
  unfold hvF; rw [List.getD_eq_getElem?_getD, List.getElem?_map, List.getElem?_range hk]; rfl
theorem hvF_one (ws : List Nat) : hvF ws 1 = List.replicate 512 0 := by
  apply List.ext_getElem (by simp [hvF])
  intro i h1 h2
  simp only [hvF, List.getElem_map, List.getElem_range, List.getElem_replicate]
  split
  · rw [show i = 0 by omega, sumW_zero]
  · rfl
theorem hvF_set {ws : List Nat} {n v : Nat} (hn : n < 512) (hv : v = sumW ws n) : (hvF ws n).set n v = hvF ws (n + 1) := by
  subst hv
  apply List.ext_getElem (by simp [hvF])
  intro i h1 h2
  simp only [hvF, List.getElem_set, List.getElem_map, List.getElem_range]
  by_cases h : n = i
  · subst h; rw [if_pos rfl, if_pos (by omega)]
  · rw [if_neg h]
    by_cases h3 : i < n
    · rw [if_pos h3, if_pos (by omega)]
    · rw [if_neg h3, if_neg (by omega)]
theorem ndI_zero : ndI 0 = List.replicate 9 0 := by decide
theorem ndI_set {n : Nat} (hn : n < 9) : (ndI n).set n (2 ^ n) = ndI (n + 1) := by
  apply List.ext_getElem (by simp [ndI])
  intro i h1 h2
  simp only [ndI, List.getElem_set, List.getElem_map, List.getElem_range]
  by_cases h : n = i
  · subst h; rw [if_pos rfl, if_pos (by omega)]
  · rw [if_neg h]
    by_cases h3 : i < n
    · rw [if_pos h3, if_pos (by omega)]
    · rw [if_neg h3, if_neg (by omega)]
theorem ndI_small (n : Nat) : ∀ i, (ndI n).getD i 0 < 512 := by
  intro i
  rcases Nat.lt_or_ge i 9 with h | h
  · unfold ndI; rw [List.getD_eq_getElem?_getD, List.getElem?_map, List.getElem?_range h]
    simp only [Option.map_some, Option.getD_some]
    split
    · have := Nat.pow_le_pow_right (n := 2) (by omega) (show i ≤ 8 by omega); omega
    · omega
  · rw [List.getD_eq_getElem?_getD, List.getElem?_eq_none (by rw [ndI_len]; omega)]; simp

theorem desk_hv (d : Dk) {i : Nat} (hi : i < d.hv.length) : (deskC d)[5 + i]? = some (natA (d.hv.getD i 0)) := by
  unfold deskC
  rw [show 5 + i = i + 1 + 1 + 1 + 1 + 1 by omega]
  simp only [List.getElem?_cons_succ]
  rw [List.getElem?_append_left (by simpa using hi), List.getElem?_map, List.getD_eq_getElem?_getD, List.getElem?_eq_getElem hi]; rfl
theorem xdrop_dkW {d : Dk} {o : Nat} {k : List AV → Prop} (i : Nat) (ho : o = 5 + i) (hi : i < d.hv.length) (h : k (natA (d.hv.getD i 0) :: (deskC d).drop (o + 1))) : xdrop o (deskC d) k :=
  xdrop_at _ (by rw [ho]; exact desk_hv d hi) h
theorem xdrop_dkN {d : Dk} {k : List AV → Prop} (hh : d.hv.length = 512) (h : k (nats d.nd)) : xdrop 517 (deskC d) k :=
  xdrop_app (a := .int .i64 d.l.bears :: .int .i64 d.l.shrink :: .sl d.l.nls (d.l.sacks.map skA) :: .sl d.l.nla (d.l.apart.map prA) :: .sl d.l.nlw (d.l.wth.map prA) :: nats d.hv) (b := nats d.nd) (by simp [hh]) h
theorem splice_set {c : List AV} {o : Nat} {v : AV} (ho : o < c.length) : splice c o [v] = c.set o v := by
  rw [List.set_eq_take_append_cons_drop, if_pos ho]; simp [splice]
theorem xspl_dkW {d : Dk} {o : Nat} {v : Int} {k : List AV → Prop} (i m : Nat) (ho : o = 5 + i) (hv : v = (m : Int)) (hi : i < d.hv.length) (h : k (deskC { d with hv := d.hv.set i m })) : xspl (deskC d) o [.int .i64 v] k := by
  subst hv; subst ho
  have hl : 5 + i < (deskC d).length := by simp [deskC]; omega
  refine xspl_to _ (by simp only [List.length_cons, List.length_nil]; omega) ?_ h
  rw [splice_set hl]
  unfold deskC
  rw [show 5 + i = i + 1 + 1 + 1 + 1 + 1 by omega]
  simp only [List.set_cons_succ]
  rw [List.set_append, if_pos (by simpa using hi)]
  simp only [nats, List.map_set, natA]
theorem xspl_dkN {d : Dk} {o : Nat} {v : Int} {k : List AV → Prop} (i m : Nat) (hh : d.hv.length = 512) (ho : o = 517 + i) (hv : v = (m : Int)) (hi : i < d.nd.length) (h : k (deskC { d with nd := d.nd.set i m })) : xspl (deskC d) o [.int .i64 v] k := by
  subst hv; subst ho
  have hl : 517 + i < (deskC d).length := by simp [deskC]; omega
  refine xspl_to _ (by simp only [List.length_cons, List.length_nil]; omega) ?_ h
  rw [splice_set hl]
  unfold deskC
  rw [show 517 + i = 512 + i + 1 + 1 + 1 + 1 + 1 by omega]
  simp only [List.set_cons_succ]
  rw [List.set_append, if_neg (by simp [hh]), List.length_map, hh, Nat.add_sub_cancel_left]
  simp only [nats, List.map_set, natA]
theorem xspl_dkA {d : Dk} {b : List Nat} {k : List AV → Prop} (hh : d.hv.length = 512) (h1 : d.nd.length = 9) (h2 : b.length = 9) (h : k (deskC { d with nd := b })) : xspl (deskC d) 517 (nats b) k := by
  have hl : (deskC d).length = 526 := by simp [deskC, hh, h1]
  refine xspl_to _ (by simp [hl, h2]) ?_ h
  have e : deskC d = (.int .i64 d.l.bears :: .int .i64 d.l.shrink :: .sl d.l.nls (d.l.sacks.map skA) :: .sl d.l.nla (d.l.apart.map prA) :: .sl d.l.nlw (d.l.wth.map prA) :: nats d.hv) ++ nats d.nd := rfl
  unfold splice
  rw [List.drop_eq_nil_of_le (by simp [hl, h2]), List.append_nil, e, List.take_left' (by simp [hh])]
  rfl

def closeF (l : Ld) : Nat → List Nat → List Nat
  | 0, b => b
  | n + 1, b => if joinR l b = b then b else closeF l n (joinR l b)
def msr (b : List Nat) : Nat := (b.map fun x => 512 - x).sum
def openD (l : Ld) : Dk := ⟨l, hvF (wts l) (2 ^ l.sacks.length), closeF l 5000 (ndI l.sacks.length)⟩
theorem joinStep_ge (b : List Nat) (p : Int × Int) (i : Nat) : b.getD i 0 ≤ (joinStep b p).getD i 0 := by
  unfold joinStep
  simp only [List.getD_eq_getElem?_getD, List.getElem?_mapIdx]
  rcases Nat.lt_or_ge i b.length with h | h
  · rw [List.getElem?_eq_getElem h]
    simp only [Option.map_some, Option.getD_some]
    split
    · exact Nat.left_le_or
    · exact Nat.le_refl _
  · rw [List.getElem?_eq_none h]; simp
theorem foldl_ge : ∀ (ps : List (Int × Int)) (b : List Nat) (i : Nat), b.getD i 0 ≤ (ps.foldl joinStep b).getD i 0
  | [], _, _ => Nat.le_refl _
  | p :: ps, b, i => by rw [List.foldl_cons]; exact Nat.le_trans (joinStep_ge b p i) (foldl_ge ps _ i)
theorem joinR_ge (l : Ld) (b : List Nat) (i : Nat) : b.getD i 0 ≤ (joinR l b).getD i 0 := foldl_ge _ _ _
theorem joinR_len (l : Ld) (b : List Nat) : (joinR l b).length = b.length := foldl_len _ _
theorem joinR_small (l : Ld) (b : List Nat) (hs : ∀ i, b.getD i 0 < 512) : ∀ i, (joinR l b).getD i 0 < 512 := by
  have := joinI_small l b hs l.wth.length
  unfold joinI at this; rwa [List.take_length] at this
theorem msr_lt : ∀ (a b : List Nat), a.length = b.length → (∀ i, a.getD i 0 ≤ b.getD i 0) → (∀ i, b.getD i 0 < 512) → a ≠ b → msr b < msr a
  | [], [], _, _, _, h => absurd rfl h
  | x :: a, y :: b, hl, h1, h2, h3 => by
    have g1 := h1 0
    have g2 := h2 0
    simp only [List.getD_cons_zero] at g1 g2
    have i1 : ∀ i, a.getD i 0 ≤ b.getD i 0 := fun i => by simpa using h1 (i + 1)
    have i2 : ∀ i, b.getD i 0 < 512 := fun i => by simpa using h2 (i + 1)
    simp only [msr, List.map_cons, List.sum_cons]
    by_cases hab : a = b
    · subst hab
      have : x ≠ y := fun e => h3 (by rw [e])
      omega
    · have := msr_lt a b (by simpa using hl) i1 i2 hab
      unfold msr at this; omega
  | [], _ :: _, hl, _, _, _ => by simp at hl
  | _ :: _, [], hl, _, _, _ => by simp at hl
theorem msr_le (b : List Nat) (hb : b.length = 9) : msr b ≤ 4608 := by
  unfold msr
  match b, hb with
  | [a1, a2, a3, a4, a5, a6, a7, a8, a9], _ => simp; omega
theorem closeF_step (l : Ld) (n : Nat) (b : List Nat) (h : joinR l b ≠ b) : closeF l (n + 1) b = closeF l n (joinR l b) := by
  show (if joinR l b = b then b else _) = _; rw [if_neg h]
theorem closeF_stop (l : Ld) (n : Nat) (b : List Nat) (h : joinR l b = b) : closeF l n b = b := by
  cases n with
  | zero => rfl
  | succ n => show (if joinR l b = b then b else _) = _; rw [if_pos h]
end GA
end

section
namespace GA
open Go Go.RowKit Go.Proofs
set_option pp.deepTerms true
set_option maxRecDepth 8000
set_option linter.unusedVariables false
set_option linter.unusedSimpArgs false

structure LdOk (l : Ld) : Prop where
  n : l.sacks.length ≤ 9
  na : l.apart.length ≤ 8
  nw : l.wth.length ≤ 8
  b1 : 1 ≤ l.bears
  b2 : l.bears ≤ 100
  s1 : 0 ≤ l.shrink
  s2 : l.shrink ≤ 90
  sk : ∀ s ∈ l.sacks, 1 ≤ s.m ∧ s.m ≤ 100 ∧ 0 ≤ s.o ∧ s.o ≤ 5
  ap : ∀ p ∈ l.apart, 0 ≤ p.1 ∧ p.1 < l.sacks.length ∧ 0 ≤ p.2 ∧ p.2 < l.sacks.length ∧ p.1 ≠ p.2
  wp : ∀ p ∈ l.wth, 0 ≤ p.1 ∧ p.1 < l.sacks.length ∧ 0 ≤ p.2 ∧ p.2 < l.sacks.length ∧ p.1 ≠ p.2
theorem inB_iff {n lo hi : Int} : inB n lo hi = true ↔ lo ≤ n ∧ n ≤ hi := by simp [inB]
theorem checkR_ok (l : Ld) : checkR l = 0 ↔ LdOk l := by
  unfold checkR
  constructor
  · intro h
    split at h
    · cases h
    rename_i h1
    split at h
    · cases h
    rename_i h2
    split at h
    · cases h
    rename_i h3
    split at h
    · cases h
    rename_i h4
    split at h
    · cases h
    rename_i h5
    simp only [Bool.not_eq_false, Bool.and_eq_true, inB_iff, List.all_eq_true, prIn, List.mem_append, bne_iff_ne] at h2 h3 h4 h5
    refine ⟨by omega, by omega, by omega, by omega, by omega, by omega, by omega, fun s hs => ?_, fun p hp => ?_, fun p hp => ?_⟩
    · have := h3 s hs; omega
    · have a := h4 p (.inl hp); have b := h5 p (.inl hp); exact ⟨by omega, by omega, by omega, by omega, b⟩
    · have a := h4 p (.inr hp); have b := h5 p (.inr hp); exact ⟨by omega, by omega, by omega, by omega, b⟩
  · intro o
    rw [if_neg (by have := o.n; have := o.na; have := o.nw; omega)]
    rw [if_neg (by simp only [Bool.not_eq_false, Bool.and_eq_true, inB_iff]; have := o.b1; have := o.b2; have := o.s1; have := o.s2; omega)]
    rw [if_neg (by simp only [Bool.not_eq_false, Bool.and_eq_true, inB_iff, List.all_eq_true]; intro s hs; have := o.sk s hs; omega)]
    rw [if_neg (by
      simp only [Bool.not_eq_false, Bool.and_eq_true, inB_iff, List.all_eq_true, prIn, List.mem_append]
      rintro p (hp | hp)
      · have := o.ap p hp; omega
      · have := o.wp p hp; omega)]
    rw [if_neg (by
      simp only [Bool.not_eq_false, List.all_eq_true, List.mem_append, bne_iff_ne]
      rintro p (hp | hp)
      · exact (o.ap p hp).2.2.2.2
      · exact (o.wp p hp).2.2.2.2)]
theorem wt_le {l : Ld} (o : LdOk l) {s : Sk} (hs : s ∈ l.sacks) : (wt l s : Int) = weightR l s ∧ 1 ≤ wt l s ∧ wt l s ≤ 100 := by
  have h := o.sk s hs
  have h1 := o.s1
  have h2 := o.s2
  have e : s.m * l.shrink ≤ s.m * 90 := Int.mul_le_mul_of_nonneg_left h2 (by omega)
  have e0 : 0 ≤ s.m * l.shrink := Int.mul_nonneg (by omega) h1
  unfold wt weightR
  omega
theorem wts_le {l : Ld} (o : LdOk l) : ∀ w ∈ wts l, w ≤ 100 := by
  intro w hw
  obtain ⟨s, hs, rfl⟩ := List.mem_map.1 hw
  exact (wt_le o hs).2.2
theorem wts_get (l : Ld) {i : Nat} (hi : i < l.sacks.length) : (wts l).getD i 0 = wt l (l.sacks.getD i default) := by
  unfold wts; rw [List.getD_eq_getElem?_getD, List.getElem?_map, List.getD_eq_getElem?_getD, List.getElem?_eq_getElem hi]; rfl
theorem hvF_le {l : Ld} (o : LdOk l) (n i : Nat) : (hvF (wts l) n).getD i 0 ≤ 900 := by
  rcases Nat.lt_or_ge i 512 with h | h
  · rw [hvF_get h]
    split
    · have h1 := sumW_le (wts l) i (wts_le o)
      have h2 : (wts l).length = l.sacks.length := by simp [wts]
      have := o.n
      omega
    · omega
  · rw [List.getD_eq_getElem?_getD, List.getElem?_eq_none (by rw [hvF_len]; omega)]; simp
theorem lowOne {d : Dk} : ∀ x ∈ deskC d, x.one = true := by
  intro x hx
  simp only [deskC, List.mem_cons, List.mem_append, List.mem_map] at hx
  rcases hx with rfl | rfl | rfl | rfl | rfl | ⟨_, _, rfl⟩ | ⟨_, _, rfl⟩ <;> rfl
def openR (l : Ld) : AV := if checkR l = 0 then .tup [.pim (deskC (openD l)), .int .i64 0] else .tup [.nilp, .int .i64 (checkR l)]
theorem arr_eq {xs ys : List Nat} : ((xs.map fun n : Nat => (n : Int)) == (ys.map fun n : Nat => (n : Int))) = (xs == ys) := by
  rw [Bool.eq_iff_iff, beq_iff_eq, beq_iff_eq]
  exact ⟨fun h => (List.map_inj_right (fun _ _ => Int.ofNat.inj)).1 h, fun h => by rw [h]⟩
theorem nats_ints (b : List Nat) : nats b = (b.map fun n : Nat => (n : Int)).map (.int .i64) := by simp [nats, natA]

set_option maxHeartbeats 1000000 in
theorem opened_c (l : Ld) (hw : l.nla = true → l.apart = []) (h1 : l.sacks.length ≤ 100000) (h2 : l.apart.length ≤ 1000) (h3 : l.wth.length ≤ 1000) : Comp Try.prog 77 [ldA l] (openR l) := by
  refine Comp.body' (T := tab) (res := [.tmp 2, .tmp 3]) tab_ok [17] Try.func77 rfl (by kernel_rfl) Try.ntmps77 rfl (by simp only [List.length_cons, List.length_nil]; decide) (by simp only [lowL, AV.low, ldL]; rfl) ?_; conv => whnf
  refine XCall.ret (check_c l hw h1 h2 h3) ?_
  conv => whnf
  repeat' first | ((with_reducible first | apply XBr.tt | apply XBr.ff | apply Chk.go | apply ChkA.go | apply ChkF.go | apply ChkB.go | apply XArr.pim0 | apply XArr.pim1); conv => whnf) | (with_reducible apply XBr.not) | ((with_reducible apply XBr.dec) <;> (intro h; first | (exfalso; omega) | ((try simp only [List.length_map] at h); first | (exfalso; omega) | (conv => whnf)))) | ((with_reducible first | apply XBr.beq | apply XBr.bne) <;> (intro h; first | (exfalso; omega) | (conv => whnf))) | ((with_reducible refine XInt.i64 (by omega) (by omega) ?_); conv => whnf) | ((with_reducible refine XHold.mk ?_ ?_); (first | omega | rfl | decide | exact ⟨rfl, by decide, rfl⟩ | exact wideI _ | exact widePr _ | exact wideSk _ | (unfold Room; constructor <;> ((try simp) <;> omega)) | exact ⟨rfl, by simp only [List.length_map], by unfold Room; constructor <;> ((try simp) <;> omega)⟩ | exact ⟨by omega, by omega, by unfold Room; constructor <;> ((try simp) <;> omega)⟩); conv => whnf) | ((first | ((with_reducible refine XIx.nat ?_ ?_ ?_); omega; (intro _; rfl)) | ((with_reducible refine XIx.map ?_ ?_ ?_ ?_); omega; omega; (intro _; rfl))); conv => whnf) | (with_reducible apply XAnd.mk) | (exact XSame.mk rfl rfl) | (exact XSame.mk (by first | rfl | (simp only [List.map_append, List.length_append, List.length_map]; done) | (simp only [List.map_append, List.length_append, List.length_map]; rfl)) (by first | rfl | (simp only [List.map_append]; done) | (simp only [List.map_append]; rfl))) | (with_reducible exact trivial) | ((first | (with_reducible refine xdrop_app (by rw [List.length_map]; omega) ?_) | (with_reducible refine XDrop.desk (by assumption) ?_) | (with_reducible first | refine XArr.ints (by omega) (by omega) (by omega) ?_ | refine XArr.intsA (by omega) (by omega) (by omega) ?_) | ((with_reducible first | refine XArr.nats ?_ ?_ ?_ | refine XArr.natsA ?_ ?_ ?_ | refine XArr.ptr ?_ ?_ ?_); omega; omega)); conv => whnf) | ((with_reducible apply XBr.mk') <;> (intro h; conv => whnf))
  · refine ⟨?_⟩
    unfold openR; rw [if_neg h]
    exact Froz.low rfl
  have ok := (checkR_ok l).1 h
  have g := ok.n
  refine Walk.loopG tab_ok [] (fun i : Nat => i ≤ l.sacks.length) (fun i => [(1, .pim (ldC l)), (5, .ptr 0 0), (19, .sl l.nls (l.sacks.map skA)), (20, .int .i64 l.sacks.length), (21, .int .i64 i)])
    (fun i => [.cells (deskC ⟨l, hvF (wts l) (2 ^ i), ndI i⟩)]) (fun i => l.sacks.length - i) 0 (by omega) ?_ ⟨rfl, rfl, rfl, by simp only [List.length_map]; rfl, rfl, trivial⟩ ?_ ?_ ?_
  · rw [show 2 ^ 0 = 1 from rfl, hvF_one, ndI_zero]; unfold deskC; simp only [nats, List.map_replicate, List.replicate_append_replicate]; rfl
  · intro i _
    constructor
    · intro x hx; simp at hx; subst hx
      simp only [Blk.low, lowDk]
    · intro p hp; simp at hp; rcases hp with rfl | rfl | rfl | rfl | rfl <;> simp [AV.low, lowSk, lowLd]
  · intro i _; simp
  · intro i hi
    conv => whnf
    repeat' first | ((with_reducible first | apply XBr.tt | apply XBr.ff | apply Chk.go | apply ChkA.go | apply ChkF.go | apply ChkB.go | apply XArr.pim0 | apply XArr.pim1); conv => whnf) | (with_reducible apply XBr.not) | ((with_reducible apply XBr.dec) <;> (intro h; first | (exfalso; omega) | ((try simp only [List.length_map] at h); first | (exfalso; omega) | (conv => whnf)))) | ((with_reducible first | apply XBr.beq | apply XBr.bne) <;> (intro h; first | (exfalso; omega) | (conv => whnf))) | ((with_reducible refine XInt.i64 (by omega) (by omega) ?_); conv => whnf) | ((with_reducible refine XHold.mk ?_ ?_); (first | omega | rfl | decide | exact ⟨rfl, by decide, rfl⟩ | exact wideI _ | exact widePr _ | exact wideSk _ | (unfold Room; constructor <;> ((try simp) <;> omega)) | exact ⟨rfl, by simp only [List.length_map], by unfold Room; constructor <;> ((try simp) <;> omega)⟩ | exact ⟨by omega, by omega, by unfold Room; constructor <;> ((try simp) <;> omega)⟩); conv => whnf) | ((first | ((with_reducible refine XIx.nat ?_ ?_ ?_); omega; (intro _; rfl)) | ((with_reducible refine XIx.map ?_ ?_ ?_ ?_); omega; omega; (intro _; rfl))); conv => whnf) | (with_reducible apply XAnd.mk) | (exact XSame.mk rfl rfl) | (exact XSame.mk (by first | rfl | (simp only [List.map_append, List.length_append, List.length_map]; done) | (simp only [List.map_append, List.length_append, List.length_map]; rfl)) (by first | rfl | (simp only [List.map_append]; done) | (simp only [List.map_append]; rfl))) | (with_reducible exact trivial) | ((first | (with_reducible refine xdrop_app (by rw [List.length_map]; omega) ?_) | (with_reducible refine XDrop.desk (by assumption) ?_) | (with_reducible first | refine XArr.ints (by omega) (by omega) (by omega) ?_ | refine XArr.intsA (by omega) (by omega) (by omega) ?_) | ((with_reducible first | refine XArr.nats ?_ ?_ ?_ | refine XArr.natsA ?_ ?_ ?_ | refine XArr.ptr ?_ ?_ ?_); omega; omega)); conv => whnf) | ((with_reducible apply XBr.mk') <;> (intro h; conv => whnf))
    · have p9 := pow9 (n := i) (by omega)
      have hsm := getD_mem (xs := l.sacks) (i := i) (d := default) (by omega)
      have hw2 := wt_le ok hsm
      have hok := ok.sk _ hsm
      have hs1 := ok.s1
      have hs2 := ok.s2
      generalize hse : l.sacks.getD i default = s at hsm hw2 hok
      apply Walk.drawX tab_ok mixed_ok [] [7] (hsC [[.cells (deskC ⟨l, hvF (wts l) (2 ^ i), ndI i⟩), .cells [.int .i64 s.m, .int .i64 s.o]], [.cells (deskC ⟨l, hvF (wts l) (2 ^ i), (ndI i).set i (2 ^ i)⟩), .cells [.int .i64 s.m, .int .i64 s.o]]])
        [_, _, _, natA (2 ^ i), _, _, _, _] (by kernel_rfl) rfl
      · skip
        repeat' first | ((with_reducible first | apply XBr.tt | apply XBr.ff | apply Chk.go | apply ChkA.go | apply ChkF.go | apply ChkB.go | apply XArr.pim0 | apply XArr.pim1); conv => whnf) | (with_reducible apply XBr.not) | ((with_reducible apply XBr.dec) <;> (intro h; first | (exfalso; omega) | ((try simp only [List.length_map] at h); first | (exfalso; omega) | (conv => whnf)))) | ((with_reducible first | apply XBr.beq | apply XBr.bne) <;> (intro h; first | (exfalso; omega) | (conv => whnf))) | ((with_reducible refine XInt.i64 (by omega) (by omega) ?_); conv => whnf) | ((with_reducible refine XHold.mk ?_ ?_); (first | omega | rfl | decide | exact ⟨rfl, by decide, rfl⟩ | exact wideI _ | exact widePr _ | exact wideSk _ | (unfold Room; constructor <;> ((try simp) <;> omega)) | exact ⟨rfl, by simp only [List.length_map], by unfold Room; constructor <;> ((try simp) <;> omega)⟩ | exact ⟨by omega, by omega, by unfold Room; constructor <;> ((try simp) <;> omega)⟩); conv => whnf) | ((first | ((with_reducible refine XIx.nat ?_ ?_ ?_); omega; (intro _; rfl)) | ((with_reducible refine XIx.map ?_ ?_ ?_ ?_); omega; omega; (intro _; rfl))); conv => whnf) | (with_reducible apply XAnd.mk) | (exact XSame.mk rfl rfl) | (exact XSame.mk (by first | rfl | (simp only [List.map_append, List.length_append, List.length_map]; done) | (simp only [List.map_append, List.length_append, List.length_map]; rfl)) (by first | rfl | (simp only [List.map_append]; done) | (simp only [List.map_append]; rfl))) | (with_reducible exact trivial) | ((first | (with_reducible refine xdrop_app (by rw [List.length_map]; omega) ?_) | (with_reducible refine XDrop.desk (by assumption) ?_) | (with_reducible first | refine XArr.ints (by omega) (by omega) (by omega) ?_ | refine XArr.intsA (by omega) (by omega) (by omega) ?_) | ((with_reducible first | refine XArr.nats ?_ ?_ ?_ | refine XArr.natsA ?_ ?_ ?_ | refine XArr.ptr ?_ ?_ ?_); omega; omega) | (refine XInt.eq (y := ((2 ^ i : Nat) : Int)) (shl_nat (by omega)) (by omega) (by omega) ?_) | (refine xspl_dkN i (2 ^ i) (hvF_len _ _) (by omega) rfl (by rw [ndI_len]; omega) ?_)); conv => whnf) | ((with_reducible apply XBr.mk') <;> (intro h; conv => whnf))
      · skip
        repeat' first | ((with_reducible first | apply XBr.tt | apply XBr.ff | apply Chk.go | apply ChkA.go | apply ChkF.go | apply ChkB.go | apply XArr.pim0 | apply XArr.pim1); conv => whnf) | (with_reducible apply XBr.not) | ((with_reducible apply XBr.dec) <;> (intro h; first | (exfalso; omega) | ((try simp only [List.length_map] at h); first | (exfalso; omega) | (conv => whnf)))) | ((with_reducible first | apply XBr.beq | apply XBr.bne) <;> (intro h; first | (exfalso; omega) | (conv => whnf))) | ((with_reducible refine XInt.i64 (by omega) (by omega) ?_); conv => whnf) | ((with_reducible refine XHold.mk ?_ ?_); (first | omega | rfl | decide | exact ⟨rfl, by decide, rfl⟩ | exact wideI _ | exact widePr _ | exact wideSk _ | (unfold Room; constructor <;> ((try simp) <;> omega)) | exact ⟨rfl, by simp only [List.length_map], by unfold Room; constructor <;> ((try simp) <;> omega)⟩ | exact ⟨by omega, by omega, by unfold Room; constructor <;> ((try simp) <;> omega)⟩); conv => whnf) | ((first | ((with_reducible refine XIx.nat ?_ ?_ ?_); omega; (intro _; rfl)) | ((with_reducible refine XIx.map ?_ ?_ ?_ ?_); omega; omega; (intro _; rfl))); conv => whnf) | (with_reducible apply XAnd.mk) | (exact XSame.mk rfl rfl) | (exact XSame.mk (by first | rfl | (simp only [List.map_append, List.length_append, List.length_map]; done) | (simp only [List.map_append, List.length_append, List.length_map]; rfl)) (by first | rfl | (simp only [List.map_append]; done) | (simp only [List.map_append]; rfl))) | (with_reducible exact trivial) | ((first | (with_reducible refine xdrop_app (by rw [List.length_map]; omega) ?_) | (with_reducible refine XDrop.desk (by assumption) ?_) | (with_reducible first | refine XArr.ints (by omega) (by omega) (by omega) ?_ | refine XArr.intsA (by omega) (by omega) (by omega) ?_) | ((with_reducible first | refine XArr.nats ?_ ?_ ?_ | refine XArr.natsA ?_ ?_ ?_ | refine XArr.ptr ?_ ?_ ?_); omega; omega)); conv => whnf) | ((with_reducible apply XBr.mk') <;> (intro h; conv => whnf))
      · rw [ndI_set (by omega)]
        conv => whnf
        repeat' first | ((with_reducible first | apply XBr.tt | apply XBr.ff | apply Chk.go | apply ChkA.go | apply ChkF.go | apply ChkB.go | apply XArr.pim0 | apply XArr.pim1); conv => whnf) | (with_reducible apply XBr.not) | ((with_reducible apply XBr.dec) <;> (intro h; first | (exfalso; omega) | ((try simp only [List.length_map] at h); first | (exfalso; omega) | (conv => whnf)))) | ((with_reducible first | apply XBr.beq | apply XBr.bne) <;> (intro h; first | (exfalso; omega) | (conv => whnf))) | ((with_reducible refine XInt.i64 (by omega) (by omega) ?_); conv => whnf) | ((with_reducible refine XHold.mk ?_ ?_); (first | omega | rfl | decide | exact ⟨rfl, by decide, rfl⟩ | exact wideI _ | exact widePr _ | exact wideSk _ | (unfold Room; constructor <;> ((try simp) <;> omega)) | exact ⟨rfl, by simp only [List.length_map], by unfold Room; constructor <;> ((try simp) <;> omega)⟩ | exact ⟨by omega, by omega, by unfold Room; constructor <;> ((try simp) <;> omega)⟩); conv => whnf) | ((first | ((with_reducible refine XIx.nat ?_ ?_ ?_); omega; (intro _; rfl)) | ((with_reducible refine XIx.map ?_ ?_ ?_ ?_); omega; omega; (intro _; rfl))); conv => whnf) | (with_reducible apply XAnd.mk) | (exact XSame.mk rfl rfl) | (exact XSame.mk (by first | rfl | (simp only [List.map_append, List.length_append, List.length_map]; done) | (simp only [List.map_append, List.length_append, List.length_map]; rfl)) (by first | rfl | (simp only [List.map_append]; done) | (simp only [List.map_append]; rfl))) | (with_reducible exact trivial) | ((first | (with_reducible refine xdrop_app (by rw [List.length_map]; omega) ?_) | (with_reducible refine XDrop.desk (by assumption) ?_) | (with_reducible first | refine XArr.ints (by omega) (by omega) (by omega) ?_ | refine XArr.intsA (by omega) (by omega) (by omega) ?_) | ((with_reducible first | refine XArr.nats ?_ ?_ ?_ | refine XArr.natsA ?_ ?_ ?_ | refine XArr.ptr ?_ ?_ ?_); omega; omega)); conv => whnf) | ((with_reducible apply XBr.mk') <;> (intro h; conv => whnf))
        refine XInt.eq (y := ((2 ^ i : Nat) : Int)) (shl_nat (by omega)) (by omega) (by omega) ?_
        conv => whnf
        refine Walk.loop tab_ok [] (fun k : Nat => k ≤ 2 ^ i) (fun k => [(1, .pim (ldC l)), (5, .ptr 0 0), (19, .sl l.nls (l.sacks.map skA)), (20, .int .i64 l.sacks.length), (21, .int .i64 i), (6, .int .i64 i), (7, .ptr 1 0), (34, .int .i64 (2 ^ i : Nat)), (35, .int .i64 k)])
          (fun k => [.cells (deskC ⟨l, hvF (wts l) (2 ^ i + k), ndI (i + 1)⟩), .cells [.int .i64 s.m, .int .i64 s.o]]) (fun k => 2 ^ i - k) 0 (by omega) rfl ⟨rfl, rfl, rfl, rfl, rfl, rfl, rfl, rfl, rfl, trivial⟩ ?_
        intro k hk
        conv => whnf
        repeat' first | ((with_reducible first | apply XBr.tt | apply XBr.ff | apply Chk.go | apply ChkA.go | apply ChkF.go | apply ChkB.go | apply XArr.pim0 | apply XArr.pim1); conv => whnf) | (with_reducible apply XBr.not) | ((with_reducible apply XBr.dec) <;> (intro h; first | (exfalso; omega) | ((try simp only [List.length_map] at h); first | (exfalso; omega) | (conv => whnf)))) | ((with_reducible first | apply XBr.beq | apply XBr.bne) <;> (intro h; first | (exfalso; omega) | (conv => whnf))) | ((with_reducible refine XInt.i64 (by omega) (by omega) ?_); conv => whnf) | ((with_reducible refine XHold.mk ?_ ?_); (first | omega | rfl | decide | exact ⟨rfl, by decide, rfl⟩ | exact wideI _ | exact widePr _ | exact wideSk _ | (unfold Room; constructor <;> ((try simp) <;> omega)) | exact ⟨rfl, by simp only [List.length_map], by unfold Room; constructor <;> ((try simp) <;> omega)⟩ | exact ⟨by omega, by omega, by unfold Room; constructor <;> ((try simp) <;> omega)⟩); conv => whnf) | ((first | ((with_reducible refine XIx.nat ?_ ?_ ?_); omega; (intro _; rfl)) | ((with_reducible refine XIx.map ?_ ?_ ?_ ?_); omega; omega; (intro _; rfl))); conv => whnf) | (with_reducible apply XAnd.mk) | (exact XSame.mk rfl rfl) | (exact XSame.mk (by first | rfl | (simp only [List.map_append, List.length_append, List.length_map]; done) | (simp only [List.map_append, List.length_append, List.length_map]; rfl)) (by first | rfl | (simp only [List.map_append]; done) | (simp only [List.map_append]; rfl))) | (with_reducible exact trivial) | ((first | (with_reducible refine xdrop_app (by rw [List.length_map]; omega) ?_) | (with_reducible refine XDrop.desk (by assumption) ?_) | (with_reducible first | refine XArr.ints (by omega) (by omega) (by omega) ?_ | refine XArr.intsA (by omega) (by omega) (by omega) ?_) | ((with_reducible first | refine XArr.nats ?_ ?_ ?_ | refine XArr.natsA ?_ ?_ ?_ | refine XArr.ptr ?_ ?_ ?_); omega; omega)); conv => whnf) | ((with_reducible apply XBr.mk') <;> (intro h; conv => whnf))
        · have p8 : 2 ^ i ≤ 256 := Nat.pow_le_pow_right (n := 2) (by omega) (show i ≤ 8 by omega)
          have hk2 : k < 2 ^ i := by omega
          have hle := hvF_le ok (2 ^ i + k) k
          have hor : ior .i64 (k : Int) ((2 ^ i : Nat) : Int) = ((2 ^ i + k : Nat) : Int) := by
            rw [ior_nat (by omega) (by omega)]
            have := Nat.two_pow_add_eq_or_of_lt hk2 1
            rw [Nat.mul_one] at this; rw [this, Nat.or_comm]
          have hget : (hvF (wts l) (2 ^ i + k)).getD k 0 = sumW (wts l) k := by rw [hvF_get (by omega), if_pos (by omega)]
          have hsum : sumW (wts l) (2 ^ i + k) = sumW (wts l) k + wt l s := by rw [sumW_add _ _ _ hk2, wts_get l (by omega), hse]
          have hset : (hvF (wts l) (2 ^ i + k)).set (2 ^ i + k) (sumW (wts l) k + wt l s) = hvF (wts l) (2 ^ i + (k + 1)) := hvF_set (by omega) hsum.symm
          rw [hget] at hle
          apply Walk.drawX tab_ok mixed_ok [] [18] (hsC [[.cells (deskC ⟨l, hvF (wts l) (2 ^ i + k), ndI (i + 1)⟩), .cells [.int .i64 s.m, .int .i64 s.o]], [.cells (deskC ⟨l, hvF (wts l) (2 ^ i + (k + 1)), ndI (i + 1)⟩), .cells [.int .i64 s.m, .int .i64 s.o]]])
            [_, _, _, natA (2 ^ i), natA (2 ^ i + k), _, _, _, _, _, natA (sumW (wts l) k), _, _, natA (wt l s), natA (sumW (wts l) k + wt l s), _, _, _, _] (by kernel_rfl) rfl
          · skip
            repeat' first | ((with_reducible first | apply XBr.tt | apply XBr.ff | apply Chk.go | apply ChkA.go | apply ChkF.go | apply ChkB.go | apply XArr.pim0 | apply XArr.pim1); conv => whnf) | (with_reducible apply XBr.not) | ((with_reducible apply XBr.dec) <;> (intro h; first | (exfalso; omega) | ((try simp only [List.length_map] at h); first | (exfalso; omega) | (conv => whnf)))) | ((with_reducible first | apply XBr.beq | apply XBr.bne) <;> (intro h; first | (exfalso; omega) | (conv => whnf))) | ((with_reducible refine XInt.i64 (by omega) (by omega) ?_); conv => whnf) | ((with_reducible refine XHold.mk ?_ ?_); (first | omega | rfl | decide | exact ⟨rfl, by decide, rfl⟩ | exact wideI _ | exact widePr _ | exact wideSk _ | (unfold Room; constructor <;> ((try simp) <;> omega)) | exact ⟨rfl, by simp only [List.length_map], by unfold Room; constructor <;> ((try simp) <;> omega)⟩ | exact ⟨by omega, by omega, by unfold Room; constructor <;> ((try simp) <;> omega)⟩); conv => whnf) | ((first | ((with_reducible refine XIx.nat ?_ ?_ ?_); omega; (intro _; rfl)) | ((with_reducible refine XIx.map ?_ ?_ ?_ ?_); omega; omega; (intro _; rfl))); conv => whnf) | (with_reducible apply XAnd.mk) | (exact XSame.mk rfl rfl) | (exact XSame.mk (by first | rfl | (simp only [List.map_append, List.length_append, List.length_map]; done) | (simp only [List.map_append, List.length_append, List.length_map]; rfl)) (by first | rfl | (simp only [List.map_append]; done) | (simp only [List.map_append]; rfl))) | (with_reducible exact trivial) | ((first | (with_reducible refine xdrop_app (by rw [List.length_map]; omega) ?_) | (with_reducible refine XDrop.desk (by assumption) ?_) | (with_reducible first | refine XArr.ints (by omega) (by omega) (by omega) ?_ | refine XArr.intsA (by omega) (by omega) (by omega) ?_) | ((with_reducible first | refine XArr.nats ?_ ?_ ?_ | refine XArr.natsA ?_ ?_ ?_ | refine XArr.ptr ?_ ?_ ?_); omega; omega) | (refine XInt.eq (y := ((2 ^ i : Nat) : Int)) (shl_nat (by omega)) (by omega) (by omega) ?_)); conv => whnf) | (exact XSame.mk (congrArg (AV.int .i64) hor) rfl) | ((refine xdrop_dkW (d := ⟨l, hvF (wts l) (2 ^ i + k), ndI (i + 1)⟩) k (by omega) (by rw [hvF_len]; omega) ?_); conv => whnf) | (exact XSame.mk (congrArg (fun n : Nat => AV.int .i64 n) hget) rfl) | ((refine XCall.ret (weight_c l s (by omega) (by omega) (by omega) (by omega)) ?_); conv => whnf) | (exact XSame.mk (congrArg (AV.int .i64) hw2.1.symm) rfl) | (((refine xspl_dkW (d := ⟨l, hvF (wts l) (2 ^ i + k), ndI (i + 1)⟩) (2 ^ i + k) (sumW (wts l) k + wt l s) (by omega) rfl (by rw [hvF_len]; omega) ?_); dsimp only; rw [hset]); conv => whnf) | ((with_reducible apply XBr.mk') <;> (intro h; conv => whnf))
          · skip
            repeat' first | ((with_reducible first | apply XBr.tt | apply XBr.ff | apply Chk.go | apply ChkA.go | apply ChkF.go | apply ChkB.go | apply XArr.pim0 | apply XArr.pim1); conv => whnf) | (with_reducible apply XBr.not) | ((with_reducible apply XBr.dec) <;> (intro h; first | (exfalso; omega) | ((try simp only [List.length_map] at h); first | (exfalso; omega) | (conv => whnf)))) | ((with_reducible first | apply XBr.beq | apply XBr.bne) <;> (intro h; first | (exfalso; omega) | (conv => whnf))) | ((with_reducible refine XInt.i64 (by omega) (by omega) ?_); conv => whnf) | ((with_reducible refine XHold.mk ?_ ?_); (first | omega | rfl | decide | exact ⟨rfl, by decide, rfl⟩ | exact wideI _ | exact widePr _ | exact wideSk _ | (unfold Room; constructor <;> ((try simp) <;> omega)) | exact ⟨rfl, by simp only [List.length_map], by unfold Room; constructor <;> ((try simp) <;> omega)⟩ | exact ⟨by omega, by omega, by unfold Room; constructor <;> ((try simp) <;> omega)⟩); conv => whnf) | ((first | ((with_reducible refine XIx.nat ?_ ?_ ?_); omega; (intro _; rfl)) | ((with_reducible refine XIx.map ?_ ?_ ?_ ?_); omega; omega; (intro _; rfl))); conv => whnf) | (with_reducible apply XAnd.mk) | (exact XSame.mk rfl rfl) | (exact XSame.mk (by first | rfl | (simp only [List.map_append, List.length_append, List.length_map]; done) | (simp only [List.map_append, List.length_append, List.length_map]; rfl)) (by first | rfl | (simp only [List.map_append]; done) | (simp only [List.map_append]; rfl))) | (with_reducible exact trivial) | ((first | (with_reducible refine xdrop_app (by rw [List.length_map]; omega) ?_) | (with_reducible refine XDrop.desk (by assumption) ?_) | (with_reducible first | refine XArr.ints (by omega) (by omega) (by omega) ?_ | refine XArr.intsA (by omega) (by omega) (by omega) ?_) | ((with_reducible first | refine XArr.nats ?_ ?_ ?_ | refine XArr.natsA ?_ ?_ ?_ | refine XArr.ptr ?_ ?_ ?_); omega; omega)); conv => whnf) | ((with_reducible apply XBr.mk') <;> (intro h; conv => whnf))
          · conv => whnf
            repeat' first | ((with_reducible first | apply XBr.tt | apply XBr.ff | apply Chk.go | apply ChkA.go | apply ChkF.go | apply ChkB.go | apply XArr.pim0 | apply XArr.pim1); conv => whnf) | (with_reducible apply XBr.not) | ((with_reducible apply XBr.dec) <;> (intro h; first | (exfalso; omega) | ((try simp only [List.length_map] at h); first | (exfalso; omega) | (conv => whnf)))) | ((with_reducible first | apply XBr.beq | apply XBr.bne) <;> (intro h; first | (exfalso; omega) | (conv => whnf))) | ((with_reducible refine XInt.i64 (by omega) (by omega) ?_); conv => whnf) | ((with_reducible refine XHold.mk ?_ ?_); (first | omega | rfl | decide | exact ⟨rfl, by decide, rfl⟩ | exact wideI _ | exact widePr _ | exact wideSk _ | (unfold Room; constructor <;> ((try simp) <;> omega)) | exact ⟨rfl, by simp only [List.length_map], by unfold Room; constructor <;> ((try simp) <;> omega)⟩ | exact ⟨by omega, by omega, by unfold Room; constructor <;> ((try simp) <;> omega)⟩); conv => whnf) | ((first | ((with_reducible refine XIx.nat ?_ ?_ ?_); omega; (intro _; rfl)) | ((with_reducible refine XIx.map ?_ ?_ ?_ ?_); omega; omega; (intro _; rfl))); conv => whnf) | (with_reducible apply XAnd.mk) | (exact XSame.mk rfl rfl) | (exact XSame.mk (by first | rfl | (simp only [List.map_append, List.length_append, List.length_map]; done) | (simp only [List.map_append, List.length_append, List.length_map]; rfl)) (by first | rfl | (simp only [List.map_append]; done) | (simp only [List.map_append]; rfl))) | (with_reducible exact trivial) | ((first | (with_reducible refine xdrop_app (by rw [List.length_map]; omega) ?_) | (with_reducible refine XDrop.desk (by assumption) ?_) | (with_reducible first | refine XArr.ints (by omega) (by omega) (by omega) ?_ | refine XArr.intsA (by omega) (by omega) (by omega) ?_) | ((with_reducible first | refine XArr.nats ?_ ?_ ?_ | refine XArr.natsA ?_ ?_ ?_ | refine XArr.ptr ?_ ?_ ?_); omega; omega)); conv => whnf) | ((with_reducible apply XBr.mk') <;> (intro h; conv => whnf))
            exact XAgain.go (k + 1) (by omega) (by omega) rfl ⟨rfl, rfl, rfl, rfl, rfl, rfl, rfl, rfl, rfl, trivial⟩
        · have hke : k = 2 ^ i := by omega
          refine XAgainG.go (i + 1) [.cells [.int .i64 s.m, .int .i64 s.o]] (by omega) (by omega) ?_ ⟨rfl, rfl, rfl, rfl, rfl, trivial⟩
          subst hke
          rw [show 2 ^ (i + 1) = 2 ^ i + 2 ^ i by rw [Nat.pow_succ]; omega]; rfl
    · have hie : i = l.sacks.length := by omega
      subst hie
      clear hi h g
      have hfin : openR l = .tup [.pim (deskC ⟨l, hvF (wts l) (2 ^ l.sacks.length), closeF l 5000 (ndI l.sacks.length)⟩), .int .i64 0] := by
        unfold openR; rw [if_pos ((checkR_ok l).2 ok)]; rfl
      have hl := hvF_len (wts l) (2 ^ l.sacks.length)
      have bl := ndI_len l.sacks.length
      have bs := ndI_small l.sacks.length
      generalize hvF (wts l) (2 ^ l.sacks.length) = hv at hl hfin ⊢
      generalize ndI l.sacks.length = b0 at bl bs hfin ⊢
      have hwp : ∀ p ∈ l.wth, 0 ≤ p.1 ∧ p.1 < 9 ∧ 0 ≤ p.2 ∧ p.2 < 9 := fun p hp => by have := ok.wp p hp; have := ok.n; omega
      have jl := joinR_len l b0
      generalize hcl : closeF l 5000 b0 = res at hfin
      apply Walk.drawX tab_ok mixed_ok [] [6, 7] (hsC [[.cells (deskC ⟨l, hv, b0⟩)], [.cells (deskC ⟨l, hv, b0⟩), .cells (nats (List.replicate 9 0))], [.cells (deskC ⟨l, hv, b0⟩), .cells (nats (joinR l b0))]])
        [_, _, _, _, .agg (nats b0), .agg (nats (joinR l b0)), _, _] (by kernel_rfl) rfl
      · skip
        repeat' first | ((with_reducible first | apply XBr.tt | apply XBr.ff | apply Chk.go | apply ChkA.go | apply ChkF.go | apply ChkB.go | apply XArr.pim0 | apply XArr.pim1); conv => whnf) | (with_reducible apply XBr.not) | ((with_reducible apply XBr.dec) <;> (intro h; first | (exfalso; omega) | ((try simp only [List.length_map] at h); first | (exfalso; omega) | (conv => whnf)))) | ((with_reducible first | apply XBr.beq | apply XBr.bne) <;> (intro h; first | (exfalso; omega) | (conv => whnf))) | ((with_reducible refine XInt.i64 (by omega) (by omega) ?_); conv => whnf) | ((with_reducible refine XHold.mk ?_ ?_); (first | omega | rfl | decide | exact ⟨rfl, by decide, rfl⟩ | exact wideI _ | exact widePr _ | exact wideSk _ | (unfold Room; constructor <;> ((try simp) <;> omega)) | exact ⟨rfl, by simp only [List.length_map], by unfold Room; constructor <;> ((try simp) <;> omega)⟩ | exact ⟨by omega, by omega, by unfold Room; constructor <;> ((try simp) <;> omega)⟩); conv => whnf) | ((first | ((with_reducible refine XIx.nat ?_ ?_ ?_); omega; (intro _; rfl)) | ((with_reducible refine XIx.map ?_ ?_ ?_ ?_); omega; omega; (intro _; rfl))); conv => whnf) | (with_reducible apply XAnd.mk) | (exact XSame.mk rfl rfl) | (exact XSame.mk (by first | rfl | (simp only [List.map_append, List.length_append, List.length_map]; done) | (simp only [List.map_append, List.length_append, List.length_map]; rfl)) (by first | rfl | (simp only [List.map_append]; done) | (simp only [List.map_append]; rfl))) | (with_reducible exact trivial) | ((first | (with_reducible refine xdrop_app (by rw [List.length_map]; omega) ?_) | (with_reducible refine XDrop.desk (by assumption) ?_) | (with_reducible first | refine XArr.ints (by omega) (by omega) (by omega) ?_ | refine XArr.intsA (by omega) (by omega) (by omega) ?_) | ((with_reducible first | refine XArr.nats ?_ ?_ ?_ | refine XArr.natsA ?_ ?_ ?_ | refine XArr.ptr ?_ ?_ ?_); omega; omega) | (refine xdrop_dkN (d := ⟨l, hv, b0⟩) hl ?_) | (refine xtk_all (by rw [List.length_map]; exact bl) ?_) | (refine XCall.ret (joined_c l b0 bl bs ok.nw hwp) ?_) | (refine xn_all (by rw [List.length_map, jl]; exact bl) ?_) | (refine xspl_all (by rw [List.length_map, List.length_map, List.length_replicate]; omega) ?_)); conv => whnf) | ((with_reducible apply XBr.mk') <;> (intro h; conv => whnf))
      · skip
        repeat' first | ((with_reducible first | apply XBr.tt | apply XBr.ff | apply Chk.go | apply ChkA.go | apply ChkF.go | apply ChkB.go | apply XArr.pim0 | apply XArr.pim1); conv => whnf) | (with_reducible apply XBr.not) | ((with_reducible apply XBr.dec) <;> (intro h; first | (exfalso; omega) | ((try simp only [List.length_map] at h); first | (exfalso; omega) | (conv => whnf)))) | ((with_reducible first | apply XBr.beq | apply XBr.bne) <;> (intro h; first | (exfalso; omega) | (conv => whnf))) | ((with_reducible refine XInt.i64 (by omega) (by omega) ?_); conv => whnf) | ((with_reducible refine XHold.mk ?_ ?_); (first | omega | rfl | decide | exact ⟨rfl, by decide, rfl⟩ | exact wideI _ | exact widePr _ | exact wideSk _ | (unfold Room; constructor <;> ((try simp) <;> omega)) | exact ⟨rfl, by simp only [List.length_map], by unfold Room; constructor <;> ((try simp) <;> omega)⟩ | exact ⟨by omega, by omega, by unfold Room; constructor <;> ((try simp) <;> omega)⟩); conv => whnf) | ((first | ((with_reducible refine XIx.nat ?_ ?_ ?_); omega; (intro _; rfl)) | ((with_reducible refine XIx.map ?_ ?_ ?_ ?_); omega; omega; (intro _; rfl))); conv => whnf) | (with_reducible apply XAnd.mk) | (exact XSame.mk rfl rfl) | (exact XSame.mk (by first | rfl | (simp only [List.map_append, List.length_append, List.length_map]; done) | (simp only [List.map_append, List.length_append, List.length_map]; rfl)) (by first | rfl | (simp only [List.map_append]; done) | (simp only [List.map_append]; rfl))) | (with_reducible exact trivial) | ((first | (with_reducible refine xdrop_app (by rw [List.length_map]; omega) ?_) | (with_reducible refine XDrop.desk (by assumption) ?_) | (with_reducible first | refine XArr.ints (by omega) (by omega) (by omega) ?_ | refine XArr.intsA (by omega) (by omega) (by omega) ?_) | ((with_reducible first | refine XArr.nats ?_ ?_ ?_ | refine XArr.natsA ?_ ?_ ?_ | refine XArr.ptr ?_ ?_ ?_); omega; omega) | (refine xdrop_dkN (d := ⟨l, hv, b0⟩) hl ?_) | (refine xtk_all (by rw [List.length_map]; exact bl) ?_) | (refine XCall.ret (joined_c l b0 bl bs ok.nw hwp) ?_)); conv => whnf) | ((with_reducible apply XBr.mk') <;> (intro h; conv => whnf))
      · conv => whnf
        refine Walk.loopR tab_ok [] (fun g : Option (List Nat) × Nat × List Nat => g.2.2.length = 9 ∧ (∀ i, g.2.2.getD i 0 < 512) ∧ closeF l g.2.1 g.2.2 = res ∧ msr g.2.2 < g.2.1)
          (fun g => [(1, .pim (ldC l)), (5, .ptr 0 0), (9, .ptr (match g.1 with | none => 1 | some _ => 2) 0)])
          (fun g => match g.1 with | none => [.cells (deskC ⟨l, hv, g.2.2⟩), .cells (nats (joinR l g.2.2))] | some x => [.cells (deskC ⟨l, hv, g.2.2⟩), .cells (nats x), .cells (nats (joinR l g.2.2))])
          (fun g => g.2.1) (none, 5000, b0) 2 ⟨bl, bs, hcl, by have := msr_le b0 bl; dsimp only; omega⟩ rfl rfl ⟨rfl, rfl, rfl, trivial⟩ ?_
        rintro ⟨ph, n, b⟩ ⟨gl, gs, gc, gm⟩
        dsimp only at gl gs gc gm ⊢
        have jl := joinR_len l b
        have js := joinR_small l b gs
        have jl2 := joinR_len l (joinR l b)
        have hn : n = n - 1 + 1 := by omega
        have hge : joinR l b ≠ b → msr (joinR l b) < msr b := fun h => msr_lt _ _ jl.symm (joinR_ge l b) js (fun e => h e.symm)
        have hstep : joinR l b ≠ b → closeF l (n - 1) (joinR l b) = res := fun h => by
          have := closeF_step l (n - 1) b h
          rw [← hn] at this; rw [← this]; exact gc
        rcases ph with _ | x
        · skip
          conv => whnf
          apply Walk.drawX tab_ok mixed_ok [] [] (hsK _) [.agg (nats (joinR l b)), _, _, _, .agg (nats b), .bool (joinR l b != b)] (by kernel_rfl) rfl
          · skip
            repeat' first | ((with_reducible first | apply XBr.tt | apply XBr.ff | apply Chk.go | apply ChkA.go | apply ChkF.go | apply ChkB.go | apply XArr.pim0 | apply XArr.pim1); conv => whnf) | (with_reducible apply XBr.not) | ((with_reducible apply XBr.dec) <;> (intro h; first | (exfalso; omega) | ((try simp only [List.length_map] at h); first | (exfalso; omega) | (conv => whnf)))) | ((with_reducible first | apply XBr.beq | apply XBr.bne) <;> (intro h; first | (exfalso; omega) | (conv => whnf))) | ((with_reducible refine XInt.i64 (by omega) (by omega) ?_); conv => whnf) | ((with_reducible refine XHold.mk ?_ ?_); (first | omega | rfl | decide | exact ⟨rfl, by decide, rfl⟩ | exact wideI _ | exact widePr _ | exact wideSk _ | (unfold Room; constructor <;> ((try simp) <;> omega)) | exact ⟨rfl, by simp only [List.length_map], by unfold Room; constructor <;> ((try simp) <;> omega)⟩ | exact ⟨by omega, by omega, by unfold Room; constructor <;> ((try simp) <;> omega)⟩); conv => whnf) | ((first | ((with_reducible refine XIx.nat ?_ ?_ ?_); omega; (intro _; rfl)) | ((with_reducible refine XIx.map ?_ ?_ ?_ ?_); omega; omega; (intro _; rfl))); conv => whnf) | (with_reducible apply XAnd.mk) | (exact XSame.mk rfl rfl) | (exact XSame.mk (by first | rfl | (simp only [List.map_append, List.length_append, List.length_map]; done) | (simp only [List.map_append, List.length_append, List.length_map]; rfl)) (by first | rfl | (simp only [List.map_append]; done) | (simp only [List.map_append]; rfl))) | (with_reducible exact trivial) | ((first | (with_reducible refine xdrop_app (by rw [List.length_map]; omega) ?_) | (with_reducible refine XDrop.desk (by assumption) ?_) | (with_reducible first | refine XArr.ints (by omega) (by omega) (by omega) ?_ | refine XArr.intsA (by omega) (by omega) (by omega) ?_) | ((with_reducible first | refine XArr.nats ?_ ?_ ?_ | refine XArr.natsA ?_ ?_ ?_ | refine XArr.ptr ?_ ?_ ?_); omega; omega) | (refine xdrop_dkN (d := ⟨l, hv, b⟩) hl ?_) | (refine xtk_all (by rw [List.length_map]; first | exact gl | (rw [jl]; exact gl)) ?_)); conv => whnf) | ((with_reducible apply XBr.mk') <;> (intro h; conv => whnf))
            refine ⟨_, _, nats_ints _, nats_ints _, by simp [jl], by rw [List.length_map, jl, gl], ?_⟩
            exact XSame.mk (by rw [arr_eq]; rfl) rfl
          · skip
            repeat' first | ((with_reducible first | apply XBr.tt | apply XBr.ff | apply Chk.go | apply ChkA.go | apply ChkF.go | apply ChkB.go | apply XArr.pim0 | apply XArr.pim1); conv => whnf) | (with_reducible apply XBr.not) | ((with_reducible apply XBr.dec) <;> (intro h; first | (exfalso; omega) | ((try simp only [List.length_map] at h); first | (exfalso; omega) | (conv => whnf)))) | ((with_reducible first | apply XBr.beq | apply XBr.bne) <;> (intro h; first | (exfalso; omega) | (conv => whnf))) | ((with_reducible refine XInt.i64 (by omega) (by omega) ?_); conv => whnf) | ((with_reducible refine XHold.mk ?_ ?_); (first | omega | rfl | decide | exact ⟨rfl, by decide, rfl⟩ | exact wideI _ | exact widePr _ | exact wideSk _ | (unfold Room; constructor <;> ((try simp) <;> omega)) | exact ⟨rfl, by simp only [List.length_map], by unfold Room; constructor <;> ((try simp) <;> omega)⟩ | exact ⟨by omega, by omega, by unfold Room; constructor <;> ((try simp) <;> omega)⟩); conv => whnf) | ((first | ((with_reducible refine XIx.nat ?_ ?_ ?_); omega; (intro _; rfl)) | ((with_reducible refine XIx.map ?_ ?_ ?_ ?_); omega; omega; (intro _; rfl))); conv => whnf) | (with_reducible apply XAnd.mk) | (exact XSame.mk rfl rfl) | (exact XSame.mk (by first | rfl | (simp only [List.map_append, List.length_append, List.length_map]; done) | (simp only [List.map_append, List.length_append, List.length_map]; rfl)) (by first | rfl | (simp only [List.map_append]; done) | (simp only [List.map_append]; rfl))) | (with_reducible exact trivial) | ((first | (with_reducible refine xdrop_app (by rw [List.length_map]; omega) ?_) | (with_reducible refine XDrop.desk (by assumption) ?_) | (with_reducible first | refine XArr.ints (by omega) (by omega) (by omega) ?_ | refine XArr.intsA (by omega) (by omega) (by omega) ?_) | ((with_reducible first | refine XArr.nats ?_ ?_ ?_ | refine XArr.natsA ?_ ?_ ?_ | refine XArr.ptr ?_ ?_ ?_); omega; omega)); conv => whnf) | ((with_reducible apply XBr.mk') <;> (intro h; conv => whnf))
          · conv => whnf
            repeat' first | ((with_reducible first | apply XBr.tt | apply XBr.ff | apply Chk.go | apply ChkA.go | apply ChkF.go | apply ChkB.go | apply XArr.pim0 | apply XArr.pim1); conv => whnf) | (with_reducible apply XBr.not) | ((with_reducible apply XBr.dec) <;> (intro h; first | (exfalso; omega) | ((try simp only [List.length_map] at h); first | (exfalso; omega) | (conv => whnf)))) | ((with_reducible first | apply XBr.beq | apply XBr.bne) <;> (intro h; first | (exfalso; omega) | (conv => whnf))) | ((with_reducible refine XInt.i64 (by omega) (by omega) ?_); conv => whnf) | ((with_reducible refine XHold.mk ?_ ?_); (first | omega | rfl | decide | exact ⟨rfl, by decide, rfl⟩ | exact wideI _ | exact widePr _ | exact wideSk _ | (unfold Room; constructor <;> ((try simp) <;> omega)) | exact ⟨rfl, by simp only [List.length_map], by unfold Room; constructor <;> ((try simp) <;> omega)⟩ | exact ⟨by omega, by omega, by unfold Room; constructor <;> ((try simp) <;> omega)⟩); conv => whnf) | ((first | ((with_reducible refine XIx.nat ?_ ?_ ?_); omega; (intro _; rfl)) | ((with_reducible refine XIx.map ?_ ?_ ?_ ?_); omega; omega; (intro _; rfl))); conv => whnf) | (with_reducible apply XAnd.mk) | (exact XSame.mk rfl rfl) | (exact XSame.mk (by first | rfl | (simp only [List.map_append, List.length_append, List.length_map]; done) | (simp only [List.map_append, List.length_append, List.length_map]; rfl)) (by first | rfl | (simp only [List.map_append]; done) | (simp only [List.map_append]; rfl))) | (with_reducible exact trivial) | ((first | (with_reducible refine xdrop_app (by rw [List.length_map]; omega) ?_) | (with_reducible refine XDrop.desk (by assumption) ?_) | (with_reducible first | refine XArr.ints (by omega) (by omega) (by omega) ?_ | refine XArr.intsA (by omega) (by omega) (by omega) ?_) | ((with_reducible first | refine XArr.nats ?_ ?_ ?_ | refine XArr.natsA ?_ ?_ ?_ | refine XArr.ptr ?_ ?_ ?_); omega; omega) | (refine xtk_all (by rw [List.length_map]; first | exact gl | (rw [jl]; exact gl)) ?_) | ((refine xn_all (by rw [List.length_map]; first | (rw [jl]; exact gl) | (rw [jl2, jl]; exact gl)) ?_); (first | (refine xspl_dkA (d := ⟨l, hv, b⟩) hl gl (by rw [jl]; exact gl) ?_) | skip)) | (refine xspl_all (by simp [jl2, jl, gl]) ?_) | (refine XCall.ret (joined_c l (joinR l b) (by rw [jl]; exact gl) js ok.nw hwp) ?_)); conv => whnf) | ((with_reducible apply XBr.mk') <;> (intro h; conv => whnf))
            · have hne : joinR l b ≠ b := by simpa using h
              have := hge hne
              have := hstep hne
              exact XAgainR.go (some (joinR l b), n - 1, joinR l b) [0, 1, 2] ⟨by dsimp only; omega, js, this, by dsimp only; omega⟩ (by dsimp only; omega) ⟨rfl, by decide, fun i hi => by rcases i with _ | _ | i <;> first | rfl | (exfalso; omega), by decide⟩
                (fun x hx => by simp at hx; rcases hx with rfl | rfl | rfl <;> first | exact lowDk _ | exact lowN _)
                (fun i x hi hx => by rcases i with _ | _ | i <;> first | (cases hx; first | exact lowDk _ | exact lowN _) | (exfalso; omega))
                ⟨.inl ⟨rfl, lowDk _⟩, .inl ⟨rfl, lowN _⟩, .inl ⟨rfl, lowN _⟩, trivial⟩
                ⟨⟨.inl ⟨rfl, lowLd _⟩, lowLd _⟩, ⟨.inl ⟨rfl, rfl⟩, rfl⟩, ⟨.inr rfl, rfl⟩, trivial⟩
            · have he : joinR l b = b := by simpa using h
              rw [closeF_stop _ _ _ he] at gc
              rw [← gc] at hfin
              rw [hfin]
              exact ⟨Froz.tup (.cons (Froz.ptr rfl (lowOne (d := ⟨l, hv, b⟩)) (FrozL.low (lowDk _))) (.cons (Froz.low rfl) .nil))⟩
        · skip
          conv => whnf
          apply Walk.drawX tab_ok mixed_ok [] [] (hsK _) [.agg (nats (joinR l b)), _, _, _, .agg (nats b), .bool (joinR l b != b)] (by kernel_rfl) rfl
          · skip
            repeat' first | ((with_reducible first | apply XBr.tt | apply XBr.ff | apply Chk.go | apply ChkA.go | apply ChkF.go | apply ChkB.go | apply XArr.pim0 | apply XArr.pim1); conv => whnf) | (with_reducible apply XBr.not) | ((with_reducible apply XBr.dec) <;> (intro h; first | (exfalso; omega) | ((try simp only [List.length_map] at h); first | (exfalso; omega) | (conv => whnf)))) | ((with_reducible first | apply XBr.beq | apply XBr.bne) <;> (intro h; first | (exfalso; omega) | (conv => whnf))) | ((with_reducible refine XInt.i64 (by omega) (by omega) ?_); conv => whnf) | ((with_reducible refine XHold.mk ?_ ?_); (first | omega | rfl | decide | exact ⟨rfl, by decide, rfl⟩ | exact wideI _ | exact widePr _ | exact wideSk _ | (unfold Room; constructor <;> ((try simp) <;> omega)) | exact ⟨rfl, by simp only [List.length_map], by unfold Room; constructor <;> ((try simp) <;> omega)⟩ | exact ⟨by omega, by omega, by unfold Room; constructor <;> ((try simp) <;> omega)⟩); conv => whnf) | ((first | ((with_reducible refine XIx.nat ?_ ?_ ?_); omega; (intro _; rfl)) | ((with_reducible refine XIx.map ?_ ?_ ?_ ?_); omega; omega; (intro _; rfl))); conv => whnf) | (with_reducible apply XAnd.mk) | (exact XSame.mk rfl rfl) | (exact XSame.mk (by first | rfl | (simp only [List.map_append, List.length_append, List.length_map]; done) | (simp only [List.map_append, List.length_append, List.length_map]; rfl)) (by first | rfl | (simp only [List.map_append]; done) | (simp only [List.map_append]; rfl))) | (with_reducible exact trivial) | ((first | (with_reducible refine xdrop_app (by rw [List.length_map]; omega) ?_) | (with_reducible refine XDrop.desk (by assumption) ?_) | (with_reducible first | refine XArr.ints (by omega) (by omega) (by omega) ?_ | refine XArr.intsA (by omega) (by omega) (by omega) ?_) | ((with_reducible first | refine XArr.nats ?_ ?_ ?_ | refine XArr.natsA ?_ ?_ ?_ | refine XArr.ptr ?_ ?_ ?_); omega; omega) | (refine xdrop_dkN (d := ⟨l, hv, b⟩) hl ?_) | (refine xtk_all (by rw [List.length_map]; first | exact gl | (rw [jl]; exact gl)) ?_)); conv => whnf) | ((with_reducible apply XBr.mk') <;> (intro h; conv => whnf))
            refine ⟨_, _, nats_ints _, nats_ints _, by simp [jl], by rw [List.length_map, jl, gl], ?_⟩
            exact XSame.mk (by rw [arr_eq]; rfl) rfl
          · skip
            repeat' first | ((with_reducible first | apply XBr.tt | apply XBr.ff | apply Chk.go | apply ChkA.go | apply ChkF.go | apply ChkB.go | apply XArr.pim0 | apply XArr.pim1); conv => whnf) | (with_reducible apply XBr.not) | ((with_reducible apply XBr.dec) <;> (intro h; first | (exfalso; omega) | ((try simp only [List.length_map] at h); first | (exfalso; omega) | (conv => whnf)))) | ((with_reducible first | apply XBr.beq | apply XBr.bne) <;> (intro h; first | (exfalso; omega) | (conv => whnf))) | ((with_reducible refine XInt.i64 (by omega) (by omega) ?_); conv => whnf) | ((with_reducible refine XHold.mk ?_ ?_); (first | omega | rfl | decide | exact ⟨rfl, by decide, rfl⟩ | exact wideI _ | exact widePr _ | exact wideSk _ | (unfold Room; constructor <;> ((try simp) <;> omega)) | exact ⟨rfl, by simp only [List.length_map], by unfold Room; constructor <;> ((try simp) <;> omega)⟩ | exact ⟨by omega, by omega, by unfold Room; constructor <;> ((try simp) <;> omega)⟩); conv => whnf) | ((first | ((with_reducible refine XIx.nat ?_ ?_ ?_); omega; (intro _; rfl)) | ((with_reducible refine XIx.map ?_ ?_ ?_ ?_); omega; omega; (intro _; rfl))); conv => whnf) | (with_reducible apply XAnd.mk) | (exact XSame.mk rfl rfl) | (exact XSame.mk (by first | rfl | (simp only [List.map_append, List.length_append, List.length_map]; done) | (simp only [List.map_append, List.length_append, List.length_map]; rfl)) (by first | rfl | (simp only [List.map_append]; done) | (simp only [List.map_append]; rfl))) | (with_reducible exact trivial) | ((first | (with_reducible refine xdrop_app (by rw [List.length_map]; omega) ?_) | (with_reducible refine XDrop.desk (by assumption) ?_) | (with_reducible first | refine XArr.ints (by omega) (by omega) (by omega) ?_ | refine XArr.intsA (by omega) (by omega) (by omega) ?_) | ((with_reducible first | refine XArr.nats ?_ ?_ ?_ | refine XArr.natsA ?_ ?_ ?_ | refine XArr.ptr ?_ ?_ ?_); omega; omega)); conv => whnf) | ((with_reducible apply XBr.mk') <;> (intro h; conv => whnf))
          · conv => whnf
            repeat' first | ((with_reducible first | apply XBr.tt | apply XBr.ff | apply Chk.go | apply ChkA.go | apply ChkF.go | apply ChkB.go | apply XArr.pim0 | apply XArr.pim1); conv => whnf) | (with_reducible apply XBr.not) | ((with_reducible apply XBr.dec) <;> (intro h; first | (exfalso; omega) | ((try simp only [List.length_map] at h); first | (exfalso; omega) | (conv => whnf)))) | ((with_reducible first | apply XBr.beq | apply XBr.bne) <;> (intro h; first | (exfalso; omega) | (conv => whnf))) | ((with_reducible refine XInt.i64 (by omega) (by omega) ?_); conv => whnf) | ((with_reducible refine XHold.mk ?_ ?_); (first | omega | rfl | decide | exact ⟨rfl, by decide, rfl⟩ | exact wideI _ | exact widePr _ | exact wideSk _ | (unfold Room; constructor <;> ((try simp) <;> omega)) | exact ⟨rfl, by simp only [List.length_map], by unfold Room; constructor <;> ((try simp) <;> omega)⟩ | exact ⟨by omega, by omega, by unfold Room; constructor <;> ((try simp) <;> omega)⟩); conv => whnf) | ((first | ((with_reducible refine XIx.nat ?_ ?_ ?_); omega; (intro _; rfl)) | ((with_reducible refine XIx.map ?_ ?_ ?_ ?_); omega; omega; (intro _; rfl))); conv => whnf) | (with_reducible apply XAnd.mk) | (exact XSame.mk rfl rfl) | (exact XSame.mk (by first | rfl | (simp only [List.map_append, List.length_append, List.length_map]; done) | (simp only [List.map_append, List.length_append, List.length_map]; rfl)) (by first | rfl | (simp only [List.map_append]; done) | (simp only [List.map_append]; rfl))) | (with_reducible exact trivial) | ((first | (with_reducible refine xdrop_app (by rw [List.length_map]; omega) ?_) | (with_reducible refine XDrop.desk (by assumption) ?_) | (with_reducible first | refine XArr.ints (by omega) (by omega) (by omega) ?_ | refine XArr.intsA (by omega) (by omega) (by omega) ?_) | ((with_reducible first | refine XArr.nats ?_ ?_ ?_ | refine XArr.natsA ?_ ?_ ?_ | refine XArr.ptr ?_ ?_ ?_); omega; omega) | (refine xtk_all (by rw [List.length_map]; first | exact gl | (rw [jl]; exact gl)) ?_) | ((refine xn_all (by rw [List.length_map]; first | (rw [jl]; exact gl) | (rw [jl2, jl]; exact gl)) ?_); (first | (refine xspl_dkA (d := ⟨l, hv, b⟩) hl gl (by rw [jl]; exact gl) ?_) | skip)) | (refine xspl_all (by simp [jl2, jl, gl]) ?_) | (refine XCall.ret (joined_c l (joinR l b) (by rw [jl]; exact gl) js ok.nw hwp) ?_)); conv => whnf) | ((with_reducible apply XBr.mk') <;> (intro h; conv => whnf))
            · have hne : joinR l b ≠ b := by simpa using h
              have := hge hne
              have := hstep hne
              exact XAgainR.go (some x, n - 1, joinR l b) [0, 1, 3] ⟨by dsimp only; omega, js, this, by dsimp only; omega⟩ (by dsimp only; omega) ⟨rfl, by decide, fun i hi => by rcases i with _ | _ | i <;> first | rfl | (exfalso; omega), by decide⟩
                (fun x hx => by simp at hx; rcases hx with rfl | rfl | rfl <;> first | exact lowDk _ | exact lowN _)
                (fun i x hi hx => by rcases i with _ | _ | i <;> first | (cases hx; first | exact lowDk _ | exact lowN _) | (exfalso; omega))
                ⟨.inl ⟨rfl, lowDk _⟩, .inl ⟨rfl, lowN _⟩, .inl ⟨rfl, lowN _⟩, trivial⟩
                ⟨⟨.inl ⟨rfl, lowLd _⟩, lowLd _⟩, ⟨.inl ⟨rfl, rfl⟩, rfl⟩, ⟨.inr rfl, rfl⟩, trivial⟩
            · have he : joinR l b = b := by simpa using h
              rw [closeF_stop _ _ _ he] at gc
              rw [← gc] at hfin
              rw [hfin]
              exact ⟨Froz.tup (.cons (Froz.ptr rfl (lowOne (d := ⟨l, hv, b⟩)) (FrozL.low (lowDk _))) (.cons (Froz.low rfl) .nil))⟩
end GA
end

section
namespace GA
open Go Go.RowKit
set_option linter.unusedVariables false

def hsV (H : List Blk) (l : List (List Blk → List Blk)) (fl : List Bool) : List Blk := match lget l (fl.countP id) with | some f => f H | none => H
def hsW (H : List Blk) (l : List (List Blk → List Blk)) (fl : List Bool) : List Blk := match lget l (bin fl) with | some f => f H | none => H
def look (n : Int) : List (Int × Nat) → Option Nat
  | [] => none
  | (k, u) :: l => if k = n then some u else look n l
def putm (n : Int) (v : Nat) : List (Int × Nat) → List (Int × Nat)
  | [] => [(n, v)]
  | (k, u) :: l => if k = n then (k, v) :: l else (k, u) :: putm n v l
def esA (m : List (Int × Nat)) : List (Int × AV) := m.map fun p => (p.1, .int .i64 p.2)
theorem mget_esA (n : Int) : ∀ m : List (Int × Nat), mget n (esA m) = (look n m).map fun v : Nat => AV.int .i64 v
  | [] => rfl
  | (k, u) :: l => by
    have := mget_esA n l
    simp only [esA, List.map_cons, mget, look] at this ⊢
    split
    · rfl
    · exact this
theorem mput_esA (n : Int) (v : Nat) : ∀ m : List (Int × Nat), mput n (.int .i64 v) (esA m) = esA (putm n v m)
  | [] => rfl
  | (k, u) :: l => by
    have := mput_esA n v l
    simp only [esA, List.map_cons, mput, putm] at this ⊢
    split
    · rfl
    · simp only [List.map_cons, this]
theorem look_put (n k : Int) (v : Nat) : ∀ m : List (Int × Nat), look k (putm n v m) = if k = n then some v else look k m
  | [] => by simp only [putm, look]; split <;> split <;> simp_all
  | (j, u) :: l => by
    have := look_put n k v l
    simp only [putm]
    split
    · rename_i e
      subst e
      simp only [look]
      split
      · rename_i e; rw [if_pos e.symm]
      · rename_i e; rw [if_neg (fun h => e h.symm)]
    · rename_i e
      simp only [look]
      split
      · rename_i e2; subst e2; rw [if_neg e]
      · exact this
theorem low_esA {n : Nat} (m : List (Int × Nat)) : (Blk.map (esA m)).low n = true := by
  simp only [Blk.low, esA, List.map_map]
  exact lowL_iff.2 fun x hx => by obtain ⟨p, _, rfl⟩ := List.mem_map.1 hx; rfl
theorem ren_esA (f : Nat → Nat) (m : List (Int × Nat)) : (Blk.map (esA m)).ren f = .map (esA m) := Blk.ren_low (n := 0) (fun i hi => by omega) (low_esA m)
end GA
end

section
namespace GA
open Go Go.RowKit Go.Proofs
set_option pp.deepTerms true
set_option maxRecDepth 8000
set_option linter.unusedVariables false
set_option linter.unusedSimpArgs false

theorem IterOk.run {P : Program} {i : Nat} {H : List Blk} {K : List Blk → Prop} {S : Type} (upd : List Blk → S → List Blk) (step : S → Nat → S) (I : S → List Nat → Prop)
    (x : ∀ s c cs, I s (c :: cs) → XYield P i [natA c] (upd H s) (fun r H' => r = .bool true ∧ H' = upd H (step s c)) ∧ I (step s c) cs) :
    ∀ (cs : List Nat) (s : S), I s cs → K (upd H (cs.foldl step s)) → IterOk P i K cs (upd H s)
  | [], s, _, hk => hk
  | c :: cs, s, hI, hk => by
    obtain ⟨h1, h2⟩ := x s c cs hI
    refine ⟨AYield.mono h1.o ?_⟩
    rintro r H' ⟨rfl, rfl⟩
    exact .inl ⟨rfl, IterOk.run upd step I x cs _ h2 hk⟩
theorem IterOk.go {P : Program} {i : Nat} {H : List Blk} {K : List Blk → Prop} {S : Type} {cs : List Nat} (upd : List Blk → S → List Blk) (step : S → Nat → S) (I : S → List Nat → Prop) (s0 : S) (hH : upd H s0 = H)
    (x : ∀ s c cs, I s (c :: cs) → XYield P i [natA c] (upd H s) (fun r H' => r = .bool true ∧ H' = upd H (step s c)) ∧ I (step s c) cs) (hI : I s0 cs) (hk : K (upd H (cs.foldl step s0))) : IterOk P i K cs H := by
  have := IterOk.run upd step I x cs s0 hI hk
  rwa [hH] at this
def ofM (d : Dk) : Nat → Nat → List (Int × Nat) → Nat × List (Int × Nat)
  | 0, _, m => (0, m)
  | f + 1, set, m => match look set m with
    | some v => (v, m)
    | none =>
      let r := (cartsL d set).foldl (fun (p : Nat × List (Int × Nat)) c => (min p.1 ((ofM d f (diff set c) p.2).1 + 1), (ofM d f (diff set c) p.2).2)) (10, m)
      (r.1, putm set r.1 r.2)
def ofStep (d : Dk) (f set : Nat) (p : Nat × List (Int × Nat)) (c : Nat) : Nat × List (Int × Nat) := (min p.1 ((ofM d f (diff set c) p.2).1 + 1), (ofM d f (diff set c) p.2).2)
theorem ofM_succ (d : Dk) (f set : Nat) (m : List (Int × Nat)) : ofM d (f + 1) set m = match look set m with
    | some v => (v, m)
    | none => (((cartsL d set).foldl (ofStep d f set) (10, m)).1, putm set ((cartsL d set).foldl (ofStep d f set) (10, m)).1 ((cartsL d set).foldl (ofStep d f set) (10, m)).2) := rfl

structure MOk (m : List (Int × Nat)) : Prop where
  z : look 0 m = some 0
  le : ∀ k v, look k m = some v → v ≤ 10
theorem ofM_ok (d : Dk) : ∀ (f set : Nat) (m : List (Int × Nat)), MOk m → (ofM d f set m).1 ≤ 10 ∧ MOk (ofM d f set m).2
  | 0, set, m, h => ⟨by simp [ofM], h⟩
  | f + 1, set, m, h => by
    rw [ofM_succ]
    cases hl : look (set : Int) m with
    | some v => exact ⟨h.le _ _ hl, h⟩
    | none =>
      have fold : ∀ (cs : List Nat) (p : Nat × List (Int × Nat)), p.1 ≤ 10 → MOk p.2 → (cs.foldl (ofStep d f set) p).1 ≤ 10 ∧ MOk (cs.foldl (ofStep d f set) p).2 := by
        intro cs
        induction cs with
        | nil => intro p h1 h2; exact ⟨h1, h2⟩
        | cons c cs ih =>
          intro p h1 h2
          rw [List.foldl_cons]
          obtain ⟨h3, h4⟩ := ofM_ok d f (diff set c) p.2 h2
          exact ih _ (by simp only [ofStep]; omega) h4
      obtain ⟨h1, h2⟩ := fold (cartsL d set) (10, m) (Nat.le_refl 10) h
      have hne : (0 : Int) ≠ set := fun e => by rw [← e, h.z] at hl; cases hl
      refine ⟨h1, by rw [look_put, if_neg hne]; exact h2.z, fun k v e => ?_⟩
      rw [look_put] at e
      split at e
      · cases e; exact h1
      · exact h2.le k v e
theorem diff_bit (a b i : Nat) : (diff a b).testBit i = (a.testBit i && !b.testBit i) := by
  unfold diff; simp only [Nat.testBit_xor, Nat.testBit_and]
  cases a.testBit i <;> cases b.testBit i <;> rfl
def Sub (a b : Nat) : Prop := ∀ i, a.testBit i = true → b.testBit i = true
theorem Sub.le {a b : Nat} (h : Sub a b) : a ≤ b := by
  have : a &&& b = a := by
    apply Nat.eq_of_testBit_eq; intro i; rw [Nat.testBit_and]
    cases e : a.testBit i
    · rfl
    · rw [h i e]; rfl
  rw [← this]; exact Nat.and_le_right
theorem lowb_sub (s : Nat) : Sub (lowb s) s := fun i h => by unfold lowb at h; rw [diff_bit, Bool.and_eq_true] at h; exact h.1
theorem lowb_pos_all : ∀ s : Fin 512, s.val ≠ 0 → lowb s.val ≠ 0 := by decide +kernel
theorem lowb_pos {s : Nat} (h0 : 0 < s) (h : s < 512) : lowb s ≠ 0 := lowb_pos_all ⟨s, h⟩ (by simp only; omega)
theorem cartsF_mem (d : Dk) (set : Nat) : ∀ (f rest : Nat), Sub rest (diff set (lowb set)) → ∀ c ∈ cartsF d set f rest, ∃ r, c = r ||| lowb set ∧ Sub r (diff set (lowb set)) ∧ rightB d c = true
  | 0, _, _, c, hc => by simp [cartsF] at hc
  | f + 1, rest, hr, c, hc => by
    rw [cartsF_succ, List.mem_append] at hc
    rcases hc with hc | hc
    · split at hc
      · rename_i h; simp only [List.mem_singleton] at hc; subst hc; exact ⟨rest, rfl, hr, h⟩
      · simp at hc
    · split at hc
      · simp at hc
      · refine cartsF_mem d set f _ (fun i hi => ?_) c hc
        rw [diff_bit, Nat.testBit_and, Bool.and_eq_true, Bool.and_eq_true] at hi
        rw [diff_bit, hi.1.2, hi.2]; rfl
theorem carts_sub (d : Dk) {set c : Nat} (hc : c ∈ cartsL d set) : Sub c set ∧ Sub (lowb set) c ∧ rightB d c = true := by
  obtain ⟨r, rfl, h1, h2⟩ := cartsF_mem d set 512 _ (fun i h => h) c hc
  refine ⟨fun i h => ?_, fun i h => by rw [Nat.testBit_or, h, Bool.or_true], h2⟩
  rw [Nat.testBit_or, Bool.or_eq_true] at h
  rcases h with h | h
  · have := h1 i h; rw [diff_bit, Bool.and_eq_true] at this; exact this.1
  · exact lowb_sub set i h
theorem diff_lt {set c : Nat} (h0 : 0 < set) (h9 : set < 512) (hl : Sub (lowb set) c) : diff set c < set := by
  have h1 := diff_le set c
  rcases Nat.lt_or_ge (diff set c) set with h | h
  · exact h
  · exfalso
    have he : diff set c = set := by omega
    apply lowb_pos h0 h9
    apply Nat.eq_of_testBit_eq; intro i
    rw [Nat.zero_testBit]
    cases hb : (lowb set).testBit i
    · rfl
    · have h2 := hl i hb
      have h3 := lowb_sub set i hb
      have h4 := diff_bit set c i
      rw [he, h2, h3] at h4; cases h4
theorem carts_lt (d : Dk) {set c : Nat} (hs : 0 < set) (h9 : set < 512) (hc : c ∈ cartsL d set) : diff set c < set ∧ c < 512 := by
  obtain ⟨h1, h2, _⟩ := carts_sub d hc
  exact ⟨diff_lt hs h9 h2, by have := h1.le; omega⟩

def ofC (d : Dk) (j : Nat) : AV := .fn 132 [.ptr (j + 1) 0, .pim [.pim (deskC d)], .ptr (j + 2) 0]
def ofH (d : Dk) (m : List (Int × Nat)) : List Blk := [.map (esA m), .cells [.mp 0], .cells [ofC d 0]]
def OfOk (d : Dk) (f set : Nat) (m : List (Int × Nat)) : Prop :=
  ACall Try.prog 132 [natA set, .ptr 1 0, .pim [.pim (deskC d)], .ptr 2 0] (ofH d m) fun r H' => r = natA (ofM d f set m).1 ∧ H' = ofH d (ofM d f set m).2
theorem ofH_low (d : Dk) (m : List (Int × Nat)) : ∀ x ∈ ofH d m, x.low 3 = true := by
  intro x hx
  simp only [ofH, List.mem_cons, List.not_mem_nil, or_false] at hx
  rcases hx with rfl | rfl | rfl
  · exact low_esA m
  · rfl
  · simp only [Blk.low, ofC, lowL, AV.low, lowDk]; rfl
theorem XCall.of {d : Dk} {f set : Nat} {m : List (Int × Nat)} (x : OfOk d f set m) {H : List Blk} {k : AV → List Blk → Prop} (j : Nat) (h0 : lget H j = some (.map (esA m))) (h1 : lget H (j + 1) = some (.cells [.mp j])) (h2 : lget H (j + 2) = some (.cells [ofC d j]))
    (hk : k (natA (ofM d f set m).1) (H.set j (.map (esA (ofM d f set m).2)))) : XCall Try.prog 132 [natA set, .ptr (j + 1) 0, .pim [.pim (deskC d)], .ptr (j + 2) 0] H k := by
  constructor
  have e := ACall.frame (ρ := fun i => j + i) (H := H) (k := k) x (fun a b _ _ h => by have : j + a = j + b := h; omega) ?_ (ofH_low d m) ?_ ?_
  · have hd : renL (fun i => j + i) (deskC d) = deskC d := renL_low0 (lowDk d)
    simp only [List.map_cons, List.map_nil, natA, AV.ren, renL, hd] at e
    exact e
  · intro i x1 hi
    rw [lget_eq] at h0 h1 h2
    rcases i with _ | _ | _ | i
    · simp only [ofH, List.getElem?_cons_zero, Option.some.injEq] at hi; subst hi
      rw [ren_esA]; exact h0
    · simp only [ofH, List.getElem?_cons_succ, List.getElem?_cons_zero, Option.some.injEq] at hi; subst hi
      exact h1
    · simp only [ofH, List.getElem?_cons_succ, List.getElem?_cons_zero, Option.some.injEq] at hi; subst hi
      simp only [Blk.ren, renL, ofC, AV.ren, renL_low0 (lowDk d)]
      exact h2
    · simp [ofH] at hi
  · simp only [ofH, List.length_cons, List.length_nil, lowL, AV.low, natA, lowDk]; rfl
  · rintro r1 H1' ⟨rfl, rfl⟩
    rw [lget_eq] at h0 h1 h2
    have hj := (List.getElem?_eq_some_iff.1 h0).1
    refine ⟨rfl, H.set j (.map (esA (ofM d f set m).2)), by simp, fun i x1 hi => ?_, fun q hq => ?_, hk⟩
    · rcases i with _ | _ | _ | i
      · simp only [ofH, List.getElem?_cons_zero, Option.some.injEq] at hi; subst hi
        rw [ren_esA]; simp [hj]
      · simp only [ofH, List.getElem?_cons_succ, List.getElem?_cons_zero, Option.some.injEq] at hi; subst hi
        rw [List.getElem?_set_ne (by simp)]; exact h1
      · simp only [ofH, List.getElem?_cons_succ, List.getElem?_cons_zero, Option.some.injEq] at hi; subst hi
        rw [List.getElem?_set_ne (by simp)]
        simp only [Blk.ren, renL, ofC, AV.ren, renL_low0 (lowDk d)]
        exact h2
      · simp [ofH] at hi
    · exact List.getElem?_set_ne (by have := hq 0 (by simp [ofH]); simpa using this)

theorem of_c (d : Dk) (ok : DkFull d) : ∀ (f set : Nat) (m : List (Int × Nat)), set < f → set < 512 → MOk m → OfOk d f set m
  | 0, set, m, hf, _, _ => by omega
  | f + 1, set, m, hf, hs, hM => by
    have h0 := hM.z
    unfold OfOk
    refine ACall.bodyK (T := tab) (res := [.tmp 5]) tab_ok [] Try.func132 rfl (by kernel_rfl) Try.ntmps132 rfl (by simp only [List.length_cons, List.length_nil]; decide) ?_; conv => whnf
    constructor
    rw [mget_esA]
    cases hl : look (set : Int) m with
    | some v =>
      conv => whnf
      repeat' first | ((with_reducible first | apply XBr.tt | apply XBr.ff | apply Chk.go | apply ChkA.go | apply ChkF.go | apply ChkB.go | apply XArr.pim0 | apply XArr.pim1); conv => whnf) | (with_reducible apply XBr.not) | ((with_reducible apply XBr.dec) <;> (intro h; first | (exfalso; omega) | ((try simp only [List.length_map] at h); first | (exfalso; omega) | (conv => whnf)))) | ((with_reducible first | apply XBr.beq | apply XBr.bne) <;> (intro h; first | (exfalso; omega) | (conv => whnf))) | ((with_reducible refine XInt.i64 (by omega) (by omega) ?_); conv => whnf) | ((with_reducible refine XHold.mk ?_ ?_); (first | omega | rfl | decide | exact ⟨rfl, by decide, rfl⟩ | exact wideI _ | exact widePr _ | exact wideSk _ | (unfold Room; constructor <;> ((try simp) <;> omega)) | exact ⟨rfl, by simp only [List.length_map], by unfold Room; constructor <;> ((try simp) <;> omega)⟩ | exact ⟨by omega, by omega, by unfold Room; constructor <;> ((try simp) <;> omega)⟩); conv => whnf) | ((first | ((with_reducible refine XIx.nat ?_ ?_ ?_); omega; (intro _; rfl)) | ((with_reducible refine XIx.map ?_ ?_ ?_ ?_); omega; omega; (intro _; rfl))); conv => whnf) | (with_reducible apply XAnd.mk) | (exact XSame.mk rfl rfl) | (exact XSame.mk (by first | rfl | (simp only [List.map_append, List.length_append, List.length_map]; done) | (simp only [List.map_append, List.length_append, List.length_map]; rfl)) (by first | rfl | (simp only [List.map_append]; done) | (simp only [List.map_append]; rfl))) | (with_reducible exact trivial) | ((first | (with_reducible refine xdrop_app (by rw [List.length_map]; omega) ?_) | (with_reducible refine XDrop.desk (by assumption) ?_) | (with_reducible first | refine XArr.ints (by omega) (by omega) (by omega) ?_ | refine XArr.intsA (by omega) (by omega) (by omega) ?_) | ((with_reducible first | refine XArr.nats ?_ ?_ ?_ | refine XArr.natsA ?_ ?_ ?_ | refine XArr.ptr ?_ ?_ ?_); omega; omega)); conv => whnf) | ((with_reducible apply XBr.mk') <;> (intro h; conv => whnf))
      refine XCut.mk' (ofH d m) [.cells [natA v]] rfl rfl (ofH_low d m) rfl ?_
      rw [ofM_succ, hl]; exact ⟨rfl, rfl⟩
    | none =>
      conv => whnf
      repeat' first | ((with_reducible first | apply XBr.tt | apply XBr.ff | apply Chk.go | apply ChkA.go | apply ChkF.go | apply ChkB.go | apply XArr.pim0 | apply XArr.pim1); conv => whnf) | (with_reducible apply XBr.not) | ((with_reducible apply XBr.dec) <;> (intro h; first | (exfalso; omega) | ((try simp only [List.length_map] at h); first | (exfalso; omega) | (conv => whnf)))) | ((with_reducible first | apply XBr.beq | apply XBr.bne) <;> (intro h; first | (exfalso; omega) | (conv => whnf))) | ((with_reducible refine XInt.i64 (by omega) (by omega) ?_); conv => whnf) | ((with_reducible refine XHold.mk ?_ ?_); (first | omega | rfl | decide | exact ⟨rfl, by decide, rfl⟩ | exact wideI _ | exact widePr _ | exact wideSk _ | (unfold Room; constructor <;> ((try simp) <;> omega)) | exact ⟨rfl, by simp only [List.length_map], by unfold Room; constructor <;> ((try simp) <;> omega)⟩ | exact ⟨by omega, by omega, by unfold Room; constructor <;> ((try simp) <;> omega)⟩); conv => whnf) | ((first | ((with_reducible refine XIx.nat ?_ ?_ ?_); omega; (intro _; rfl)) | ((with_reducible refine XIx.map ?_ ?_ ?_ ?_); omega; omega; (intro _; rfl))); conv => whnf) | (with_reducible apply XAnd.mk) | (exact XSame.mk rfl rfl) | (exact XSame.mk (by first | rfl | (simp only [List.map_append, List.length_append, List.length_map]; done) | (simp only [List.map_append, List.length_append, List.length_map]; rfl)) (by first | rfl | (simp only [List.map_append]; done) | (simp only [List.map_append]; rfl))) | (with_reducible exact trivial) | ((first | (with_reducible refine xdrop_app (by rw [List.length_map]; omega) ?_) | (with_reducible refine XDrop.desk (by assumption) ?_) | (with_reducible first | refine XArr.ints (by omega) (by omega) (by omega) ?_ | refine XArr.intsA (by omega) (by omega) (by omega) ?_) | ((with_reducible first | refine XArr.nats ?_ ?_ ?_ | refine XArr.natsA ?_ ?_ ?_ | refine XArr.ptr ?_ ?_ ?_); omega; omega)); conv => whnf) | ((with_reducible apply XBr.mk') <;> (intro h; conv => whnf))
      refine XCall.ret (carts_c d set) ?_
      conv => whnf
      refine Walk.range (own := []) tab_ok [(3, .ptr 2 0), (4, .pim [natA set]), (6, .ptr 3 0)] rfl ⟨rfl, rfl, rfl, trivial⟩ ?_
      intro fn
      refine carts1_c d ok set 5 hs _ _ ?_
      have hpos : 0 < set := by
        rcases Nat.eq_zero_or_pos set with e | e
        · subst e; rw [show ((0 : Nat) : Int) = 0 from rfl, h0] at hl; cases hl
        · exact e
      refine IterOk.go (S := Nat × List (Int × Nat)) (fun H s => (H.set 0 (.map (esA s.2))).set 3 (.cells [natA s.1])) (ofStep d f set) (fun s cs => s.1 ≤ 10 ∧ MOk s.2 ∧ ∀ c ∈ cs, diff set c < set ∧ c < 512) (10, m) rfl ?_ ⟨Nat.le_refl 10, hM, fun c hc => carts_lt d hpos hs hc⟩ ?_
      · rintro ⟨n, m'⟩ c cs ⟨g0, g1, g2⟩
        dsimp only at g0 g1 g2 ⊢
        have hc := (g2 c List.mem_cons_self).1
        have hc512 : c < 9223372036854775808 := by have := (g2 c List.mem_cons_self).2; omega
        refine ⟨XYield.go (own := []) tab_ok rfl rfl (by decide) ?_, ?_⟩
        · intro ρ
          conv => whnf
          have e1 : iandn .i64 (set : Int) (c : Int) = ((diff set c : Nat) : Int) := iandn_nat (by omega) hc512
          have hof := of_c d ok f (diff set c) m' (by omega) (by omega) g1
          obtain ⟨q1, q2⟩ := ofM_ok d f (diff set c) m' g1
          generalize hq : ofM d f (diff set c) m' = q at q1 q2
          apply Walk.drawX tab_ok mixed_ok [] [5, 8] (hsV _ [id, fun H => H.set 0 (.map (esA q.2)), fun H => (H.set 0 (.map (esA q.2))).set 3 (.cells [natA (min n (q.1 + 1))])])
            [natA n, ofC d 0, natA set, natA c, natA (diff set c), natA q.1, natA (q.1 + 1), natA (min n (q.1 + 1)), _] (by kernel_rfl) rfl
          · skip
            repeat' first | ((with_reducible first | apply XBr.tt | apply XBr.ff | apply Chk.go | apply ChkA.go | apply ChkF.go | apply ChkB.go | apply XArr.pim0 | apply XArr.pim1); conv => whnf) | (with_reducible apply XBr.not) | ((with_reducible apply XBr.dec) <;> (intro h; first | (exfalso; omega) | ((try simp only [List.length_map] at h); first | (exfalso; omega) | (conv => whnf)))) | ((with_reducible first | apply XBr.beq | apply XBr.bne) <;> (intro h; first | (exfalso; omega) | (conv => whnf))) | ((with_reducible refine XInt.i64 (by omega) (by omega) ?_); conv => whnf) | ((with_reducible refine XHold.mk ?_ ?_); (first | omega | rfl | decide | exact ⟨rfl, by decide, rfl⟩ | exact wideI _ | exact widePr _ | exact wideSk _ | (unfold Room; constructor <;> ((try simp) <;> omega)) | exact ⟨rfl, by simp only [List.length_map], by unfold Room; constructor <;> ((try simp) <;> omega)⟩ | exact ⟨by omega, by omega, by unfold Room; constructor <;> ((try simp) <;> omega)⟩); conv => whnf) | ((first | ((with_reducible refine XIx.nat ?_ ?_ ?_); omega; (intro _; rfl)) | ((with_reducible refine XIx.map ?_ ?_ ?_ ?_); omega; omega; (intro _; rfl))); conv => whnf) | (with_reducible apply XAnd.mk) | (exact XSame.mk rfl rfl) | (exact XSame.mk (by first | rfl | (simp only [List.map_append, List.length_append, List.length_map]; done) | (simp only [List.map_append, List.length_append, List.length_map]; rfl)) (by first | rfl | (simp only [List.map_append]; done) | (simp only [List.map_append]; rfl))) | (with_reducible exact trivial) | ((first | (with_reducible refine xdrop_app (by rw [List.length_map]; omega) ?_) | (with_reducible refine XDrop.desk (by assumption) ?_) | (with_reducible first | refine XArr.ints (by omega) (by omega) (by omega) ?_ | refine XArr.intsA (by omega) (by omega) (by omega) ?_) | ((with_reducible first | refine XArr.nats ?_ ?_ ?_ | refine XArr.natsA ?_ ?_ ?_ | refine XArr.ptr ?_ ?_ ?_); omega; omega)); conv => whnf) | (exact XSame.mk (congrArg (AV.int .i64) e1) rfl) | (((refine XCall.of hof 0 rfl rfl rfl ?_); rw [hq]); conv => whnf) | (exact XSame.mk (congrArg (AV.int .i64) (by omega)) rfl) | ((with_reducible apply XBr.mk') <;> (intro h; conv => whnf))
          · skip
            repeat' first | ((with_reducible first | apply XBr.tt | apply XBr.ff | apply Chk.go | apply ChkA.go | apply ChkF.go | apply ChkB.go | apply XArr.pim0 | apply XArr.pim1); conv => whnf) | (with_reducible apply XBr.not) | ((with_reducible apply XBr.dec) <;> (intro h; first | (exfalso; omega) | ((try simp only [List.length_map] at h); first | (exfalso; omega) | (conv => whnf)))) | ((with_reducible first | apply XBr.beq | apply XBr.bne) <;> (intro h; first | (exfalso; omega) | (conv => whnf))) | ((with_reducible refine XInt.i64 (by omega) (by omega) ?_); conv => whnf) | ((with_reducible refine XHold.mk ?_ ?_); (first | omega | rfl | decide | exact ⟨rfl, by decide, rfl⟩ | exact wideI _ | exact widePr _ | exact wideSk _ | (unfold Room; constructor <;> ((try simp) <;> omega)) | exact ⟨rfl, by simp only [List.length_map], by unfold Room; constructor <;> ((try simp) <;> omega)⟩ | exact ⟨by omega, by omega, by unfold Room; constructor <;> ((try simp) <;> omega)⟩); conv => whnf) | ((first | ((with_reducible refine XIx.nat ?_ ?_ ?_); omega; (intro _; rfl)) | ((with_reducible refine XIx.map ?_ ?_ ?_ ?_); omega; omega; (intro _; rfl))); conv => whnf) | (with_reducible apply XAnd.mk) | (exact XSame.mk rfl rfl) | (exact XSame.mk (by first | rfl | (simp only [List.map_append, List.length_append, List.length_map]; done) | (simp only [List.map_append, List.length_append, List.length_map]; rfl)) (by first | rfl | (simp only [List.map_append]; done) | (simp only [List.map_append]; rfl))) | (with_reducible exact trivial) | ((first | (with_reducible refine xdrop_app (by rw [List.length_map]; omega) ?_) | (with_reducible refine XDrop.desk (by assumption) ?_) | (with_reducible first | refine XArr.ints (by omega) (by omega) (by omega) ?_ | refine XArr.intsA (by omega) (by omega) (by omega) ?_) | ((with_reducible first | refine XArr.nats ?_ ?_ ?_ | refine XArr.natsA ?_ ?_ ?_ | refine XArr.ptr ?_ ?_ ?_); omega; omega)); conv => whnf) | (exact XSame.mk (congrArg (AV.int .i64) e1) rfl) | (((refine XCall.of hof 0 rfl rfl rfl ?_); rw [hq]); conv => whnf) | (exact XSame.mk (congrArg (AV.int .i64) (by omega)) rfl) | ((with_reducible apply XBr.mk') <;> (intro h; conv => whnf))
          · conv => whnf
            repeat' first | ((with_reducible first | apply XBr.tt | apply XBr.ff | apply Chk.go | apply ChkA.go | apply ChkF.go | apply ChkB.go | apply XArr.pim0 | apply XArr.pim1); conv => whnf) | (with_reducible apply XBr.not) | ((with_reducible apply XBr.dec) <;> (intro h; first | (exfalso; omega) | ((try simp only [List.length_map] at h); first | (exfalso; omega) | (conv => whnf)))) | ((with_reducible first | apply XBr.beq | apply XBr.bne) <;> (intro h; first | (exfalso; omega) | (conv => whnf))) | ((with_reducible refine XInt.i64 (by omega) (by omega) ?_); conv => whnf) | ((with_reducible refine XHold.mk ?_ ?_); (first | omega | rfl | decide | exact ⟨rfl, by decide, rfl⟩ | exact wideI _ | exact widePr _ | exact wideSk _ | (unfold Room; constructor <;> ((try simp) <;> omega)) | exact ⟨rfl, by simp only [List.length_map], by unfold Room; constructor <;> ((try simp) <;> omega)⟩ | exact ⟨by omega, by omega, by unfold Room; constructor <;> ((try simp) <;> omega)⟩); conv => whnf) | ((first | ((with_reducible refine XIx.nat ?_ ?_ ?_); omega; (intro _; rfl)) | ((with_reducible refine XIx.map ?_ ?_ ?_ ?_); omega; omega; (intro _; rfl))); conv => whnf) | (with_reducible apply XAnd.mk) | (exact XSame.mk rfl rfl) | (exact XSame.mk (by first | rfl | (simp only [List.map_append, List.length_append, List.length_map]; done) | (simp only [List.map_append, List.length_append, List.length_map]; rfl)) (by first | rfl | (simp only [List.map_append]; done) | (simp only [List.map_append]; rfl))) | (with_reducible exact trivial) | ((first | (with_reducible refine xdrop_app (by rw [List.length_map]; omega) ?_) | (with_reducible refine XDrop.desk (by assumption) ?_) | (with_reducible first | refine XArr.ints (by omega) (by omega) (by omega) ?_ | refine XArr.intsA (by omega) (by omega) (by omega) ?_) | ((with_reducible first | refine XArr.nats ?_ ?_ ?_ | refine XArr.natsA ?_ ?_ ?_ | refine XArr.ptr ?_ ?_ ?_); omega; omega)); conv => whnf) | ((with_reducible apply XBr.mk') <;> (intro h; conv => whnf))
            subst hq
            exact ⟨rfl, rfl⟩
        · exact ⟨by have := (ofM_ok d f (diff set c) m' g1).1; simp only [ofStep]; omega, (ofM_ok d f (diff set c) m' g1).2, fun c hc => g2 c (List.mem_cons_of_mem _ hc)⟩
      · conv => whnf
        repeat' first | ((with_reducible first | apply XBr.tt | apply XBr.ff | apply Chk.go | apply ChkA.go | apply ChkF.go | apply ChkB.go | apply XArr.pim0 | apply XArr.pim1); conv => whnf) | (with_reducible apply XBr.not) | ((with_reducible apply XBr.dec) <;> (intro h; first | (exfalso; omega) | ((try simp only [List.length_map] at h); first | (exfalso; omega) | (conv => whnf)))) | ((with_reducible first | apply XBr.beq | apply XBr.bne) <;> (intro h; first | (exfalso; omega) | (conv => whnf))) | ((with_reducible refine XInt.i64 (by omega) (by omega) ?_); conv => whnf) | ((with_reducible refine XHold.mk ?_ ?_); (first | omega | rfl | decide | exact ⟨rfl, by decide, rfl⟩ | exact wideI _ | exact widePr _ | exact wideSk _ | (unfold Room; constructor <;> ((try simp) <;> omega)) | exact ⟨rfl, by simp only [List.length_map], by unfold Room; constructor <;> ((try simp) <;> omega)⟩ | exact ⟨by omega, by omega, by unfold Room; constructor <;> ((try simp) <;> omega)⟩); conv => whnf) | ((first | ((with_reducible refine XIx.nat ?_ ?_ ?_); omega; (intro _; rfl)) | ((with_reducible refine XIx.map ?_ ?_ ?_ ?_); omega; omega; (intro _; rfl))); conv => whnf) | (with_reducible apply XAnd.mk) | (exact XSame.mk rfl rfl) | (exact XSame.mk (by first | rfl | (simp only [List.map_append, List.length_append, List.length_map]; done) | (simp only [List.map_append, List.length_append, List.length_map]; rfl)) (by first | rfl | (simp only [List.map_append]; done) | (simp only [List.map_append]; rfl))) | (with_reducible exact trivial) | ((first | (with_reducible refine xdrop_app (by rw [List.length_map]; omega) ?_) | (with_reducible refine XDrop.desk (by assumption) ?_) | (with_reducible first | refine XArr.ints (by omega) (by omega) (by omega) ?_ | refine XArr.intsA (by omega) (by omega) (by omega) ?_) | ((with_reducible first | refine XArr.nats ?_ ?_ ?_ | refine XArr.natsA ?_ ?_ ?_ | refine XArr.ptr ?_ ?_ ?_); omega; omega)); conv => whnf) | ((with_reducible apply XBr.mk') <;> (intro h; conv => whnf))
        refine ⟨ofH d (putm set ((cartsL d set).foldl (ofStep d f set) (10, m)).1 ((cartsL d set).foldl (ofStep d f set) (10, m)).2), [.cells [natA ((cartsL d set).foldl (ofStep d f set) (10, m)).1], .raw (.deferred (some [])), .dead], ?_, rfl, ofH_low d _, by simp, ?_, rfl, ?_⟩
        · rw [show mput (set : Int) (natA _) (esA _) = _ from mput_esA _ _ _]; rfl
        · intro i hi; simp at hi; subst hi; exact ⟨by simp [ofH], rfl⟩
        · rw [ofM_succ, hl]; exact ⟨rfl, rfl⟩
end GA
end

section
namespace GA
open Go Go.RowKit
set_option linter.unusedVariables false

section
variable {P : Program} {T : Tab} {N : Nat} {ρ : Option Nat} {own : List Nat} {D : List Nat} {σ : St} {H : List Blk} {Q : Post} {E : Env} {h : Nat → Option Obj} {β : Nat → Value} {w : World} {a : Act}

theorem DfL.mem {en : Nat → Option Obj} {D : List Nat} {ds : List Deferred} (d : DfL P h β H en D ds) {b : Nat} (hb : ({ target := .collected b, args := #[] } : Deferred) ∈ ds) : (∃ j ∈ D, Rep P h β H (.yld j) (.func (.yield b) #[] #[])) ∨ h b = some (.deferred (some [])) := by
  induction d with
  | nil => simp at hb
  | @own i b' D ds r t ih =>
    rcases List.mem_cons.1 hb with e | e
    · cases e; exact .inl ⟨i, List.mem_cons_self, r⟩
    · rcases ih e with ⟨j, h1, h2⟩ | h1
      · exact .inl ⟨j, List.mem_cons_of_mem _ h1, h2⟩
      · exact .inr h1
  | @lost b' D ds h1 he nd t ih =>
    rcases List.mem_cons.1 hb with e | e
    · cases e; exact .inr h1
    · exact ih e
theorem DfL.lose {en : Nat → Option Obj} {h' : Nat → Option Obj} {H' : List Blk} {i b : Nat} {D0 : List Nat} {ds : List Deferred} (s : SR P E h β H w) (X : Ext h β H h' β H') (hbo : blkOf β H i = some b) (hb' : h' b = some (.deferred (some []))) (he : en b = none) (hm : h b = none) (hi : H[i]? = some (.raw (.deferred (some []))))
    (d : DfL P h β H en D0 ds) : ∀ {D : List Nat}, D0 = i :: D → i ∉ D → (∀ j ∈ D, H[j]? = some (.raw (.deferred (some [])))) → DfL P h' β H' en D ds := by
  induction d with
  | nil => intro D e; cases e
  | @own i' b' D' ds r t ih =>
    intro D e hni hD
    cases e
    have hbb : b' = b := by
      cases r with
      | yld hlv hb =>
        have hbi := hb _ hi rfl
        have : blkOf β H i = some b' := by simp only [blkOf, hi, hbi]; rfl
        rw [hbo] at this; cases this; rfl
    subst hbb
    refine .lost hb' he (fun b2 hb2 => ?_) (t.ext X)
    rintro rfl
    rcases t.mem hb2 with ⟨j, h1, h2⟩ | h1
    · cases h2 with
      | yld hlv hb =>
        have hj := hD j h1
        have hbj := hb _ hj rfl
        have : blkOf β H j = some b2 := by simp only [blkOf, hj, hbj]; rfl
        exact hni (s.own _ _ _ hbo this ▸ h1)
    · rw [hm] at h1; cases h1
  | @lost b' D' ds h1 he' nd t ih =>
    intro D e hni hD
    exact .lost (X.imm _ _ h1) he' nd (ih e hni hD)
theorem Stands.lose : ∀ {D : List Nat} {h : Nat → Option Obj} {H : List Blk}, Stands P E N h β D σ H a w → D.Nodup → (∀ i ∈ D, H[i]? = some (.raw (.deferred (some [])))) →
    ∃ h' H', Stands P E N h' β [] σ H' a w ∧ Ext h β H h' β H' ∧ H'.length = H.length ∧ ∀ j, j ∉ D → H'[j]? = H[j]?
  | [], h, H, s, _, _ => ⟨h, H, s, Ext.refl _ _ _, rfl, fun _ _ => rfl⟩
  | i :: D, h, H, s, hnd, hD => by
    have hi := hD i List.mem_cons_self
    obtain ⟨b, hb1, hb2⟩ := s.sr.blk i _ hi
    have hbo : blkOf β H i = some b := by simp only [blkOf, hi, hb1]; rfl
    have hm := s.sr.fresh _ _ hbo
    have he : E.en b = none := by
      cases hx : E.en b with
      | none => rfl
      | some o => rw [s.df.en b o hx] at hm; cases hm
    obtain ⟨h1, s1, X1, hf⟩ := s.sr.freeze hi
    have hni := (List.nodup_cons.1 hnd).1
    have hDs : ∀ j ∈ D, H[j]? = some (.raw (.deferred (some []))) := fun j hj => hD j (List.mem_cons_of_mem _ hj)
    have d1 := DfL.lose s.sr X1 hbo (hf b _ hbo hb2) he hm hi s.df.l rfl hni hDs
    have s2 : Stands P E N h1 β D σ (H.set i .dead) a w := ⟨s1, s.fits.ext X1, s.size, ⟨(s.df.ext X1).en, d1⟩⟩
    obtain ⟨h', H', s3, X3, hl, ho⟩ := Stands.lose s2 (List.nodup_cons.1 hnd).2 (fun j hj => by rw [List.getElem?_set_ne (show i ≠ j from fun e => hni (by rw [e]; exact hj))]; exact hDs j hj)
    refine ⟨h', H', s3, X1.trans X3, by rw [hl]; simp, fun j hj => ?_⟩
    rw [ho j (fun h => hj (List.mem_cons_of_mem _ h)), List.getElem?_set_ne (show i ≠ j from fun e => hj (by rw [← e]; exact List.mem_cons_self))]

theorem Walk.norm {id : Nat} {ops : Array Oper} (ok : TabOk P T) (own : List Nat) (L : List (Nat × AV)) (hs : SubX L σ) (x : XReg P T N own ops.toList ops.toList (stX L) H (Q .normal D)) : Walk P N ρ (.region id ops false) Q D σ H :=
  ⟨AWp.weaken (stX_sub hs) (AWp.regionX ok x)⟩
structure MarksOk (D : List Nat) (H : List Blk) (f : Nat → Nat) (n : Nat) : Prop where
  nd : D.Nodup
  raw : ∀ i ∈ D, H[i]? = some (.raw (.deferred (some [])))
  out : ∀ i, i < n → f i ∉ D

theorem AWp.loopM {c : Code} {G : Type} (st : G → St) (hp : G → List Blk) (μ : G → Nat) (g0 : G) (hσ : ∀ t r, st g0 t = some r → σ t = some r) (hH : hp g0 = H) (hD : D = [])
    (round : ∀ g, AWp P N ρ c (thenQ (fun D' σ' H' => ∃ g' f, μ g' < μ g ∧ MarksOk D' H' f (hp g').length ∧ RenS f H.length (hp g') (st g') H' σ') Q) D (st g) (hp g)) : AWp P N ρ (.loop c) Q D σ H := by
  intro E h β a w s
  subst hH; subst hD
  let I : G → Act → World → Prop := fun g a w => ∃ h' β', Ext h β (hp g0) h' β' (hp g) ∧ Stands P E N h' β' [] (st g) (hp g) a w
  have least : ∀ a w, (∃ g, I g a w) → ∃ n, (∃ g, I g a w ∧ μ g = n) ∧ ∀ m, m < n → ¬ ∃ g, I g a w ∧ μ g = m :=
    fun a w ⟨g, hg⟩ => exists_least ⟨μ g, g, hg, rfl⟩
  classical
  let M : Act → World → Nat := fun a w => if e : ∃ g, I g a w then Classical.choose (least a w e) else 0
  have hM : ∀ a w (e : ∃ g, I g a w), (∃ g, I g a w ∧ μ g = M a w) ∧ ∀ g, I g a w → M a w ≤ μ g := by
    intro a w e
    have hc := Classical.choose_spec (least a w e)
    have hm : M a w = Classical.choose (least a w e) := by simp only [M, dif_pos e]
    rw [hm]
    refine ⟨hc.1, fun g hg => ?_⟩
    rcases Nat.lt_or_ge (μ g) (Classical.choose (least a w e)) with hlt | hge
    · exact absurd ⟨g, hg, rfl⟩ (hc.2 _ hlt)
    · exact hge
  refine wpIn_loop (fun a w => ∃ g, I g a w) M ⟨g0, h, β, Ext.refl _ _ _, s.sr, fun t r e => s.fits t r (hσ t r e), s.size, s.df⟩ ?_
  intro a' w' hI
  obtain ⟨⟨g, hg, hmu⟩, _⟩ := hM a' w' hI
  obtain ⟨h', β', X, s'⟩ := hg
  refine wpIn_mono (round g E h' β' a' w' s') ?_
  rintro e a'' w'' ⟨D'', σ'', H0', h0', β'', q, X0', s0''⟩
  cases e with
  | normal =>
    obtain ⟨g', f, hlt, m, r0⟩ := q
    obtain ⟨h'', H'', s'', X1, hl, ho⟩ := s0''.lose m.nd m.raw
    have X' := X0'.trans X1
    have hm : ∀ (i : Nat) x1, (hp g')[i]? = some x1 → H''[f i]? = some (x1.ren f) := fun i x1 e => by
      rw [ho _ (m.out i (List.getElem?_eq_some_iff.1 e).1)]; exact r0.hm i x1 e
    have R : Ren f (fun i => β'' (f i)) (hp g') β'' H'' := ⟨hm, fun _ _ => rfl⟩
    have hI' : I g' a'' w'' := by
      refine ⟨h'', fun i => β'' (f i), ⟨(X.trans X').imm, r0.len, fun i x x' e e' => ?_⟩, R.sr s''.sr r0.inj r0.low, fun t r e => ?_, s''.size, s''.df.any⟩
      · have hi := (List.getElem?_eq_some_iff.1 e).1
        have h1 := hm i x' e'
        rw [r0.fix i hi, r0.lowb i x' hi e'] at h1
        have h2 := (X.trans X').to i x x' e h1
        cases x with
        | dead => exact h2
        | free => trivial
        | _ => simpa only [Blk.to, r0.fix i hi] using h2
      · obtain ⟨h1, h2⟩ := r0.st t r e
        obtain ⟨v, h3, h4⟩ := s''.fits t _ h1
        exact ⟨v, h3, R.unrep h4 rfl h2⟩
    refine ⟨⟨g', hI'⟩, ?_⟩
    have := (hM a'' w'' ⟨g', hI'⟩).2 g' hI'
    omega
  | _ => exact ⟨D'', σ'', H0', h0', β'', q, X.trans X0', s0''⟩

structure XAgainM {G : Type} (I : G → Prop) (L : G → List (Nat × AV)) (hp : G → List Blk) (μ : G → Nat) (base : Nat) (g : G) (D' : List Nat) (σ' : St) (H' : List Blk) : Prop where
  o : ∃ g' f, I g' ∧ μ g' < μ g ∧ MarksOk D' H' f (hp g').length ∧ RenS f base (hp g') (stX (L g')) H' σ'
theorem Walk.loopM {c : Code} {G : Type} (ok : TabOk P T) (own : List Nat) (I : G → Prop) (L : G → List (Nat × AV)) (hp : G → List Blk) (μ : G → Nat) (g0 : G) (base : Nat) (h0 : I g0) (hH : hp g0 = H) (hb : base = H.length) (hs : SubX (L g0) σ)
    (round : ∀ g, I g → XRun P T N ρ own c (thenQ (XAgainM I L hp μ base g) Q) [] (stX (L g)) (hp g)) : Walk P N ρ (.loop c) Q [] σ H := by
  constructor
  refine AWp.loopM (G := {g : G // I g}) (fun g => stX (L g.1)) (fun g => hp g.1) (fun g => μ g.1) ⟨g0, h0⟩ (stX_sub hs) hH rfl fun g => ?_
  refine (XRun.sound ok (round g.1 g.2)).mono fun e D' σ' H' q => ?_
  cases e with
  | normal => obtain ⟨g', f, h2, h3, h4, h5⟩ := q; exact ⟨⟨g', h2⟩, f, h3, h4, hb ▸ h5⟩
  | _ => exact q
theorem stX_mem : ∀ (l : List (Nat × AV)) t r, stX l t = some r → (t, r) ∈ l := by
  intro l; induction l with
  | nil => intro t r h; cases h
  | cons p l ih =>
    obtain ⟨u, x⟩ := p
    intro t r h; simp only [stX, updX_eq, upd] at h
    split at h
    · rename_i e; cases h; subst e; exact List.mem_cons_self
    · exact List.mem_cons_of_mem _ (ih t r h)
theorem AV.ren_id (a : AV) : a.ren id = a := by
  refine AV.rec (motive_1 := fun a => a.ren id = a) (motive_2 := fun l => renL id l = l) ?_ ?_ ?_ ?_ ?_ ?_ ?_ ?_ ?_ ?_ ?_ ?_ ?_ ?_ ?_ ?_ ?_ ?_ ?_ ?_ a
  all_goals first | (intros; rfl) | (intro cs ih; simp only [AV.ren, ih]) | (intro f cs ih; simp only [AV.ren, ih]) | (intro x l ih1 ih2; simp only [renL, ih1, ih2])
theorem Blk.ren_id (x : Blk) : x.ren id = x := by
  have hL : ∀ l : List AV, renL id l = l := fun l => by have := AV.ren_id (.agg l); simpa [AV.ren] using this
  cases x with
  | cells cs => simp only [Blk.ren, hL]
  | grow t nl els => simp only [Blk.ren, hL]
  | map es =>
    simp only [Blk.ren]
    have : ∀ p ∈ es, (fun p : Int × AV => (p.1, p.2.ren id)) p = id p := fun p _ => by simp only [AV.ren_id]; rfl
    rw [List.map_congr_left this, List.map_id]
  | lp st pend f tm ps x y n =>
    simp only [Blk.ren]
    have : ∀ p ∈ tm, (fun p : Nat × AV => (p.1, p.2.ren id)) p = id p := fun p _ => by simp only [AV.ren_id]; rfl
    rw [List.map_congr_left this, List.map_id]
  | _ => rfl
theorem XAgainM.go {G : Type} {I : G → Prop} {L : G → List (Nat × AV)} {hp : G → List Blk} {μ : G → Nat} {base : Nat} {g : G} {D : List Nat} (g' : G) (l : List Blk) (h1 : I g') (h2 : μ g' < μ g) (h3 : hp g' ++ l = H) (h4 : SubX (L g') σ) (hb : base ≤ (hp g').length)
    (h5 : ∀ x ∈ hp g', x.low (hp g').length = true) (h6 : ∀ p ∈ L g', p.2.low (hp g').length = true) (hnd : D.Nodup) (hD : ∀ i ∈ D, (hp g').length ≤ i ∧ lget H i = some (.raw (.deferred (some [])))) : XAgainM I L hp μ base g D σ H :=
  ⟨g', id, h1, h2, ⟨hnd, fun i hi => by have := (hD i hi).2; rwa [lget_eq] at this, fun i hi h => by have := (hD _ h).1; simp only [id] at this; omega⟩,
    ⟨fun _ _ _ _ e => e, fun _ _ => rfl, hb, fun i x1 e => by
      rw [← h3, Blk.ren_id]; simp only [id]
      rw [List.getElem?_append_left (List.getElem?_eq_some_iff.1 e).1]; exact e, fun _ x1 _ _ => Blk.ren_id x1, h5, fun t r e => by
      refine ⟨by rw [AV.ren_id]; exact stX_sub h4 t r e, h6 (t, r) (stX_mem _ _ _ e)⟩⟩⟩
end
end GA
end

section
namespace GA
open Go Go.RowKit Go.Proofs
set_option pp.deepTerms true
set_option maxRecDepth 8000
set_option linter.unusedVariables false
set_option linter.unusedSimpArgs false

abbrev allD (d : Dk) : Nat := 2 ^ d.l.sacks.length - 1
def pickB (d : Dk) (many n left : Nat) (p : Nat × List (Int × Nat)) (c : Nat) : Nat × List (Int × Nat) :=
  (if (ofM d 512 (diff left c) p.2).1 + n + 1 = many ∧ (p.1 = 0 ∨ c &&& lowb (c ^^^ p.1) ≠ 0) then c else p.1, (ofM d 512 (diff left c) p.2).2)
def bestB (d : Dk) (many n left : Nat) (m : List (Int × Nat)) : Nat × List (Int × Nat) := (cartsL d left).foldl (pickB d many n left) (0, m)
def fillB (n : Nat) (out : List Nat) (is : List Int) : List Nat := is.foldl (fun o i => o.set i.toNat n) out
structure LS where
  left : Nat
  m : List (Int × Nat)
  out : List Nat
def loadStep (d : Dk) (many : Nat) (s : LS) (n : Nat) : LS := ⟨diff s.left (bestB d many n s.left s.m).1, (bestB d many n s.left s.m).2, fillB n s.out (bits (bestB d many n s.left s.m).1)⟩
def load0 (d : Dk) : LS := ⟨allD d, (ofM d 512 (allD d) [(0, 0)]).2, List.replicate d.l.sacks.length 0⟩
def loadI (d : Dk) (many n : Nat) : LS := (List.range n).foldl (loadStep d many) (load0 d)
def manyD (d : Dk) : Nat := (ofM d 512 (allD d) [(0, 0)]).1
def fewestD (d : Dk) : AV := if 9 < manyD d then .tup [.sl true [], .int .i64 0, .int .i64 6] else .tup [.sl false (nats (loadI d (manyD d) (manyD d)).out), natA (manyD d), .int .i64 0]
def fewestR (l : Ld) : AV := if checkR l = 0 then fewestD (openD l) else .tup [.sl true [], .int .i64 0, .int .i64 (checkR l)]

theorem MOk.zero : MOk [(0, 0)] := ⟨rfl, fun k v h => by simp only [look] at h; split at h <;> cases h; omega⟩
theorem closeF_len (l : Ld) : ∀ (n : Nat) (b : List Nat), (closeF l n b).length = b.length
  | 0, _ => rfl
  | n + 1, b => by
    show (if joinR l b = b then b else closeF l n (joinR l b)).length = _
    split
    · rfl
    · rw [closeF_len l n, joinR_len]
theorem closeF_small (l : Ld) : ∀ (n : Nat) (b : List Nat), (∀ i, b.getD i 0 < 512) → ∀ i, (closeF l n b).getD i 0 < 512
  | 0, _, h => h
  | n + 1, b, h => by
    show ∀ i, (if joinR l b = b then b else closeF l n (joinR l b)).getD i 0 < 512
    split
    · exact h
    · exact closeF_small l n _ (joinR_small l b h)
theorem openD_full {l : Ld} (o : LdOk l) : DkFull (openD l) where
  hv := hvF_len _ _
  nd := by show (closeF l 5000 _).length = 9; rw [closeF_len, ndI_len]
  small := closeF_small l _ _ (ndI_small _)
  big := fun i => by have := hvF_le o (2 ^ l.sacks.length) i; show (hvF _ _).getD i 0 < _; omega
  al := by show l.apart.length ≤ 1000; have := o.na; omega
  ap := fun p hp => by have := o.ap p hp; have := o.n; omega

theorem pick_ok (d : Dk) (many n left : Nat) : ∀ (cs : List Nat) (p : Nat × List (Int × Nat)), MOk p.2 → (∀ c ∈ cs, Sub c left) → Sub p.1 left → MOk (cs.foldl (pickB d many n left) p).2 ∧ Sub (cs.foldl (pickB d many n left) p).1 left
  | [], p, h1, _, h2 => ⟨h1, h2⟩
  | c :: cs, p, h1, h2, h3 => by
    rw [List.foldl_cons]
    refine pick_ok d many n left cs _ ?_ (fun c hc => h2 c (List.mem_cons_of_mem _ hc)) ?_
    · exact (ofM_ok d 512 (diff left c) p.2 h1).2
    · simp only [pickB]; split
      · exact h2 c List.mem_cons_self
      · exact h3
theorem Sub.zero (a : Nat) : Sub 0 a := fun i h => by rw [Nat.zero_testBit] at h; cases h
theorem best_ok (d : Dk) (many n left : Nat) (m : List (Int × Nat)) (h : MOk m) : MOk (bestB d many n left m).2 ∧ Sub (bestB d many n left m).1 left :=
  pick_ok d many n left _ _ h (fun c hc => (carts_sub d hc).1) (Sub.zero _)
theorem fillB_len (n : Nat) : ∀ (is : List Int) (out : List Nat), (fillB n out is).length = out.length
  | [], _ => rfl
  | i :: is, out => by rw [fillB, List.foldl_cons]; exact (fillB_len n is _).trans (by simp)
structure LSOk (d : Dk) (s : LS) : Prop where
  left : s.left ≤ allD d
  m : MOk s.m
  out : s.out.length = d.l.sacks.length
theorem loadStep_ok (d : Dk) (many : Nat) (s : LS) (n : Nat) (h : LSOk d s) : LSOk d (loadStep d many s n) :=
  ⟨Nat.le_trans (diff_le _ _) h.left, (best_ok d many n s.left s.m h.m).1, by simp only [loadStep, fillB_len]; exact h.out⟩
theorem load0_ok (d : Dk) : LSOk d (load0 d) := ⟨Nat.le_refl _, (ofM_ok d 512 _ _ MOk.zero).2, by simp [load0]⟩
theorem loadI_succ (d : Dk) (many n : Nat) : loadI d many (n + 1) = loadStep d many (loadI d many n) n := by
  unfold loadI; rw [List.range_succ, List.foldl_append]; rfl
theorem loadI_ok (d : Dk) (many : Nat) : ∀ n, LSOk d (loadI d many n)
  | 0 => load0_ok d
  | n + 1 => by rw [loadI_succ]; exact loadStep_ok d many _ n (loadI_ok d many n)

theorem fewest_c (l : Ld) (hw : l.nla = true → l.apart = []) (h1 : l.sacks.length ≤ 100000) (h2 : l.apart.length ≤ 1000) (h3 : l.wth.length ≤ 1000) : Comp Try.prog 18 [ldA l] (fewestR l) := by
  refine Comp.body' (T := tab) (res := [.tmp 2, .tmp 3, .tmp 4]) tab_ok [] Try.func18 rfl (by kernel_rfl) Try.ntmps18 rfl (by simp only [List.length_cons, List.length_nil]; decide) (by simp only [lowL, AV.low, ldL]; rfl) ?_; conv => whnf
  refine XCall.ret (opened_c l hw h1 h2 h3) ?_
  unfold openR fewestR
  by_cases hc : checkR l = 0
  · rw [if_pos hc, if_pos hc]
    have ok := (checkR_ok l).1 hc
    have dok := openD_full ok
    have hn : (openD l).l = l := rfl
    have hall : allD (openD l) < 512 := by have := pow9 ok.n; show 2 ^ l.sacks.length - 1 < 512; omega
    conv => whnf
    repeat' first | ((with_reducible first | apply XBr.tt | apply XBr.ff | apply Chk.go | apply ChkA.go | apply ChkF.go | apply ChkB.go | apply XArr.pim0 | apply XArr.pim1); conv => whnf) | (with_reducible apply XBr.not) | ((with_reducible apply XBr.dec) <;> (intro h; first | (exfalso; omega) | ((try simp only [List.length_map] at h); first | (exfalso; omega) | (conv => whnf)))) | ((with_reducible first | apply XBr.beq | apply XBr.bne) <;> (intro h; first | (exfalso; omega) | (conv => whnf))) | ((with_reducible refine XInt.i64 (by omega) (by omega) ?_); conv => whnf) | ((with_reducible refine XHold.mk ?_ ?_); (first | omega | rfl | decide | exact ⟨rfl, by decide, rfl⟩ | exact wideI _ | exact widePr _ | exact wideSk _ | (unfold Room; constructor <;> ((try simp) <;> omega)) | exact ⟨rfl, by simp only [List.length_map], by unfold Room; constructor <;> ((try simp) <;> omega)⟩ | exact ⟨by omega, by omega, by unfold Room; constructor <;> ((try simp) <;> omega)⟩); conv => whnf) | ((first | ((with_reducible refine XIx.nat ?_ ?_ ?_); omega; (intro _; rfl)) | ((with_reducible refine XIx.map ?_ ?_ ?_ ?_); omega; omega; (intro _; rfl))); conv => whnf) | (with_reducible apply XAnd.mk) | (exact XSame.mk rfl rfl) | (exact XSame.mk (by first | rfl | (simp only [List.map_append, List.length_append, List.length_map]; done) | (simp only [List.map_append, List.length_append, List.length_map]; rfl)) (by first | rfl | (simp only [List.map_append]; done) | (simp only [List.map_append]; rfl))) | (with_reducible exact trivial) | ((first | (with_reducible refine xdrop_app (by rw [List.length_map]; omega) ?_) | (with_reducible refine XDrop.desk (by assumption) ?_) | (with_reducible first | refine XArr.ints (by omega) (by omega) (by omega) ?_ | refine XArr.intsA (by omega) (by omega) (by omega) ?_) | ((with_reducible first | refine XArr.nats ?_ ?_ ?_ | refine XArr.natsA ?_ ?_ ?_ | refine XArr.ptr ?_ ?_ ?_); omega; omega)); conv => whnf) | ((with_reducible apply XBr.mk') <;> (intro h; conv => whnf))
    refine XCall.inl (T := tab) (res := [.cell 2 133]) tab_ok [] Try.func78 rfl (by kernel_rfl) Try.ntmps78 rfl (by simp only [List.length_append, List.length_cons, List.length_nil]; decide) ?_; conv => whnf
    repeat' first | ((with_reducible first | apply XBr.tt | apply XBr.ff | apply Chk.go | apply ChkA.go | apply ChkF.go | apply ChkB.go | apply XArr.pim0 | apply XArr.pim1); conv => whnf) | (with_reducible apply XBr.not) | ((with_reducible apply XBr.dec) <;> (intro h; first | (exfalso; omega) | ((try simp only [List.length_map] at h); first | (exfalso; omega) | (conv => whnf)))) | ((with_reducible first | apply XBr.beq | apply XBr.bne) <;> (intro h; first | (exfalso; omega) | (conv => whnf))) | ((with_reducible refine XInt.i64 (by omega) (by omega) ?_); conv => whnf) | ((with_reducible refine XHold.mk ?_ ?_); (first | omega | rfl | decide | exact ⟨rfl, by decide, rfl⟩ | exact wideI _ | exact widePr _ | exact wideSk _ | (unfold Room; constructor <;> ((try simp) <;> omega)) | exact ⟨rfl, by simp only [List.length_map], by unfold Room; constructor <;> ((try simp) <;> omega)⟩ | exact ⟨by omega, by omega, by unfold Room; constructor <;> ((try simp) <;> omega)⟩); conv => whnf) | ((first | ((with_reducible refine XIx.nat ?_ ?_ ?_); omega; (intro _; rfl)) | ((with_reducible refine XIx.map ?_ ?_ ?_ ?_); omega; omega; (intro _; rfl))); conv => whnf) | (with_reducible apply XAnd.mk) | (exact XSame.mk rfl rfl) | (exact XSame.mk (by first | rfl | (simp only [List.map_append, List.length_append, List.length_map]; done) | (simp only [List.map_append, List.length_append, List.length_map]; rfl)) (by first | rfl | (simp only [List.map_append]; done) | (simp only [List.map_append]; rfl))) | (with_reducible exact trivial) | ((first | (with_reducible refine xdrop_app (by rw [List.length_map]; omega) ?_) | (with_reducible refine XDrop.desk (by assumption) ?_) | (with_reducible first | refine XArr.ints (by omega) (by omega) (by omega) ?_ | refine XArr.intsA (by omega) (by omega) (by omega) ?_) | ((with_reducible first | refine XArr.nats ?_ ?_ ?_ | refine XArr.natsA ?_ ?_ ?_ | refine XArr.ptr ?_ ?_ ?_); omega; omega)); conv => whnf) | ((with_reducible apply XBr.mk') <;> (intro h; conv => whnf))
    have hof := of_c _ dok 512 (allD (openD l)) [(0, 0)] hall hall MOk.zero
    have hle := (ofM_ok (openD l) 512 (allD (openD l)) _ MOk.zero).1
    have h0 := load0_ok (openD l)
    generalize hq : ofM (openD l) 512 (allD (openD l)) [(0, 0)] = q at hle
    apply Walk.drawX tab_ok mixed_ok [] [4, 5, 6] (hsW _ [id, fun H => H.set 1 (.map (esA q.2)), fun H => H ++ [.cells [.int .i64 0]], fun H => (H.set 1 (.map (esA q.2))) ++ [.cells [.int .i64 0]], id, id, id, fun H => (H.set 1 (.map (esA q.2))) ++ [.cells [natA q.1]]])
      [_, _, _, natA (allD (openD l)), natA q.1, _, _] (by kernel_rfl) rfl
    · skip
      repeat' first | ((with_reducible first | apply XBr.tt | apply XBr.ff | apply Chk.go | apply ChkA.go | apply ChkF.go | apply ChkB.go | apply XArr.pim0 | apply XArr.pim1); conv => whnf) | (with_reducible apply XBr.not) | ((with_reducible apply XBr.dec) <;> (intro h; first | (exfalso; omega) | ((try simp only [List.length_map] at h); first | (exfalso; omega) | (conv => whnf)))) | ((with_reducible first | apply XBr.beq | apply XBr.bne) <;> (intro h; first | (exfalso; omega) | (conv => whnf))) | ((with_reducible refine XInt.i64 (by omega) (by omega) ?_); conv => whnf) | ((with_reducible refine XHold.mk ?_ ?_); (first | omega | rfl | decide | exact ⟨rfl, by decide, rfl⟩ | exact wideI _ | exact widePr _ | exact wideSk _ | (unfold Room; constructor <;> ((try simp) <;> omega)) | exact ⟨rfl, by simp only [List.length_map], by unfold Room; constructor <;> ((try simp) <;> omega)⟩ | exact ⟨by omega, by omega, by unfold Room; constructor <;> ((try simp) <;> omega)⟩); conv => whnf) | ((first | ((with_reducible refine XIx.nat ?_ ?_ ?_); omega; (intro _; rfl)) | ((with_reducible refine XIx.map ?_ ?_ ?_ ?_); omega; omega; (intro _; rfl))); conv => whnf) | (with_reducible apply XAnd.mk) | (exact XSame.mk rfl rfl) | (exact XSame.mk (by first | rfl | (simp only [List.map_append, List.length_append, List.length_map]; done) | (simp only [List.map_append, List.length_append, List.length_map]; rfl)) (by first | rfl | (simp only [List.map_append]; done) | (simp only [List.map_append]; rfl))) | (with_reducible exact trivial) | ((first | (with_reducible refine xdrop_app (by rw [List.length_map]; omega) ?_) | (with_reducible refine XDrop.desk (by assumption) ?_) | (with_reducible first | refine XArr.ints (by omega) (by omega) (by omega) ?_ | refine XArr.intsA (by omega) (by omega) (by omega) ?_) | ((with_reducible first | refine XArr.nats ?_ ?_ ?_ | refine XArr.natsA ?_ ?_ ?_ | refine XArr.ptr ?_ ?_ ?_); omega; omega) | (refine XCall.ret (all_c (openD l) ok.n) ?_) | ((refine XCall.of hof 1 rfl rfl rfl ?_); rw [hq])); conv => whnf) | ((with_reducible apply XBr.mk') <;> (intro h; conv => whnf))
    · skip
      repeat' first | ((with_reducible first | apply XBr.tt | apply XBr.ff | apply Chk.go | apply ChkA.go | apply ChkF.go | apply ChkB.go | apply XArr.pim0 | apply XArr.pim1); conv => whnf) | (with_reducible apply XBr.not) | ((with_reducible apply XBr.dec) <;> (intro h; first | (exfalso; omega) | ((try simp only [List.length_map] at h); first | (exfalso; omega) | (conv => whnf)))) | ((with_reducible first | apply XBr.beq | apply XBr.bne) <;> (intro h; first | (exfalso; omega) | (conv => whnf))) | ((with_reducible refine XInt.i64 (by omega) (by omega) ?_); conv => whnf) | ((with_reducible refine XHold.mk ?_ ?_); (first | omega | rfl | decide | exact ⟨rfl, by decide, rfl⟩ | exact wideI _ | exact widePr _ | exact wideSk _ | (unfold Room; constructor <;> ((try simp) <;> omega)) | exact ⟨rfl, by simp only [List.length_map], by unfold Room; constructor <;> ((try simp) <;> omega)⟩ | exact ⟨by omega, by omega, by unfold Room; constructor <;> ((try simp) <;> omega)⟩); conv => whnf) | ((first | ((with_reducible refine XIx.nat ?_ ?_ ?_); omega; (intro _; rfl)) | ((with_reducible refine XIx.map ?_ ?_ ?_ ?_); omega; omega; (intro _; rfl))); conv => whnf) | (with_reducible apply XAnd.mk) | (exact XSame.mk rfl rfl) | (exact XSame.mk (by first | rfl | (simp only [List.map_append, List.length_append, List.length_map]; done) | (simp only [List.map_append, List.length_append, List.length_map]; rfl)) (by first | rfl | (simp only [List.map_append]; done) | (simp only [List.map_append]; rfl))) | (with_reducible exact trivial) | ((first | (with_reducible refine xdrop_app (by rw [List.length_map]; omega) ?_) | (with_reducible refine XDrop.desk (by assumption) ?_) | (with_reducible first | refine XArr.ints (by omega) (by omega) (by omega) ?_ | refine XArr.intsA (by omega) (by omega) (by omega) ?_) | ((with_reducible first | refine XArr.nats ?_ ?_ ?_ | refine XArr.natsA ?_ ?_ ?_ | refine XArr.ptr ?_ ?_ ?_); omega; omega) | (refine XCall.ret (all_c (openD l) ok.n) ?_) | ((refine XCall.of hof 1 rfl rfl rfl ?_); rw [hq])); conv => whnf) | ((with_reducible apply XBr.mk') <;> (intro h; conv => whnf))
    · conv => whnf
      have hfin : fewestD (openD l) = if 9 < q.1 then .tup [.sl true [], .int .i64 0, .int .i64 6] else .tup [.sl false (nats (loadI (openD l) q.1 q.1).out), natA q.1, .int .i64 0] := by
        unfold fewestD manyD; rw [hq]
      have hI0 : loadI (openD l) q.1 0 = ⟨allD (openD l), q.2, List.replicate l.sacks.length 0⟩ := by
        show load0 (openD l) = _; unfold load0; rw [hq, hn]
      have ha : ∀ x, XCall Try.prog 79 [.pim (deskC (openD l))] x = XCall Try.prog 79 [.pim (deskC (openD l))] x := fun _ => rfl
      have hallc := all_c (openD l) ok.n
      clear h0 hq
      generalize hd : openD l = d at *
      clear hd
      have hdn : d.l.sacks.length = l.sacks.length := by rw [hn]
      repeat' first | ((with_reducible first | apply XBr.tt | apply XBr.ff | apply Chk.go | apply ChkA.go | apply ChkF.go | apply ChkB.go | apply XArr.pim0 | apply XArr.pim1); conv => whnf) | (with_reducible apply XBr.not) | ((with_reducible apply XBr.dec) <;> (intro h; first | (exfalso; omega) | ((try simp only [List.length_map] at h); first | (exfalso; omega) | (conv => whnf)))) | ((with_reducible first | apply XBr.beq | apply XBr.bne) <;> (intro h; first | (exfalso; omega) | (conv => whnf))) | ((with_reducible refine XInt.i64 (by omega) (by omega) ?_); conv => whnf) | ((with_reducible refine XHold.mk ?_ ?_); (first | omega | rfl | decide | exact ⟨rfl, by decide, rfl⟩ | exact wideI _ | exact widePr _ | exact wideSk _ | (unfold Room; constructor <;> ((try simp) <;> omega)) | exact ⟨rfl, by simp only [List.length_map], by unfold Room; constructor <;> ((try simp) <;> omega)⟩ | exact ⟨by omega, by omega, by unfold Room; constructor <;> ((try simp) <;> omega)⟩); conv => whnf) | ((first | ((with_reducible refine XIx.nat ?_ ?_ ?_); omega; (intro _; rfl)) | ((with_reducible refine XIx.map ?_ ?_ ?_ ?_); omega; omega; (intro _; rfl))); conv => whnf) | (with_reducible apply XAnd.mk) | (exact XSame.mk rfl rfl) | (exact XSame.mk (by first | rfl | (simp only [List.map_append, List.length_append, List.length_map]; done) | (simp only [List.map_append, List.length_append, List.length_map]; rfl)) (by first | rfl | (simp only [List.map_append]; done) | (simp only [List.map_append]; rfl))) | (with_reducible exact trivial) | ((first | (with_reducible refine xdrop_app (by rw [List.length_map]; omega) ?_) | (with_reducible refine XDrop.desk (by assumption) ?_) | (with_reducible first | refine XArr.ints (by omega) (by omega) (by omega) ?_ | refine XArr.intsA (by omega) (by omega) (by omega) ?_) | ((with_reducible first | refine XArr.nats ?_ ?_ ?_ | refine XArr.natsA ?_ ?_ ?_ | refine XArr.ptr ?_ ?_ ?_); omega; omega)); conv => whnf) | ((with_reducible apply XBr.mk') <;> (intro h; conv => whnf))
      · rename_i h
        exact ⟨by rw [hfin, if_pos (by omega)]; exact Froz.low rfl⟩
      · rename_i h
        refine XCall.ret hallc ?_
        conv => whnf
        rw [if_neg (by omega)] at hfin
        refine Walk.loopM tab_ok [] (fun n : Nat => n ≤ q.1) (fun n => [(5, .pim (deskC d)), (7, .ptr 4 0), (8, .ptr 5 0), (9, .gr 6 l.sacks.length), (10, .ptr 7 0), (40, natA q.1), (41, natA n)])
          (fun n => [.cells [ofC d 1], .map (esA (loadI d q.1 n).m), .cells [.mp 1], .cells [ofC d 1], .cells [ofC d 1], .cells [natA q.1], .grow 3 false (nats (loadI d q.1 n).out), .cells [natA (loadI d q.1 n).left]])
          (fun n => q.1 - n) 0 8 (by omega) ?_ rfl ⟨rfl, rfl, rfl, by simp only [List.length_map, Int.toNat_natCast]; rfl, rfl, rfl, rfl, trivial⟩ ?_
        · rw [hI0]
          have e1 : (allD d : Nat) = 2 ^ d.l.sacks.length - 1 := rfl
          simp only [nats, List.map_replicate, e1, List.length_map, Int.toNat_natCast]; rfl
        · intro n hnq
          have sok := loadI_ok d q.1 n
          have hnext := loadI_succ d q.1 n
          generalize hs : loadI d q.1 n = s at sok hnext
          obtain ⟨left, m0, out0⟩ := s
          obtain ⟨k1, k2, k3⟩ := sok
          dsimp only at k1 k2 k3
          have hlen9 := ok.n
          conv => whnf
          repeat' first | ((with_reducible first | apply XBr.tt | apply XBr.ff | apply Chk.go | apply ChkA.go | apply ChkF.go | apply ChkB.go | apply XArr.pim0 | apply XArr.pim1); conv => whnf) | (with_reducible apply XBr.not) | ((with_reducible apply XBr.dec) <;> (intro h; first | (exfalso; omega) | ((try simp only [List.length_map] at h); first | (exfalso; omega) | (conv => whnf)))) | ((with_reducible first | apply XBr.beq | apply XBr.bne) <;> (intro h; first | (exfalso; omega) | (conv => whnf))) | ((with_reducible refine XInt.i64 (by omega) (by omega) ?_); conv => whnf) | ((with_reducible refine XHold.mk ?_ ?_); (first | omega | rfl | decide | exact ⟨rfl, by decide, rfl⟩ | exact wideI _ | exact widePr _ | exact wideSk _ | (unfold Room; constructor <;> ((try simp) <;> omega)) | exact ⟨rfl, by simp only [List.length_map], by unfold Room; constructor <;> ((try simp) <;> omega)⟩ | exact ⟨by omega, by omega, by unfold Room; constructor <;> ((try simp) <;> omega)⟩); conv => whnf) | ((first | ((with_reducible refine XIx.nat ?_ ?_ ?_); omega; (intro _; rfl)) | ((with_reducible refine XIx.map ?_ ?_ ?_ ?_); omega; omega; (intro _; rfl))); conv => whnf) | (with_reducible apply XAnd.mk) | (exact XSame.mk rfl rfl) | (exact XSame.mk (by first | rfl | (simp only [List.map_append, List.length_append, List.length_map]; done) | (simp only [List.map_append, List.length_append, List.length_map]; rfl)) (by first | rfl | (simp only [List.map_append]; done) | (simp only [List.map_append]; rfl))) | (with_reducible exact trivial) | ((first | (with_reducible refine xdrop_app (by rw [List.length_map]; omega) ?_) | (with_reducible refine XDrop.desk (by assumption) ?_) | (with_reducible first | refine XArr.ints (by omega) (by omega) (by omega) ?_ | refine XArr.intsA (by omega) (by omega) (by omega) ?_) | ((with_reducible first | refine XArr.nats ?_ ?_ ?_ | refine XArr.natsA ?_ ?_ ?_ | refine XArr.ptr ?_ ?_ ?_); omega; omega)); conv => whnf) | ((with_reducible apply XBr.mk') <;> (intro h; conv => whnf))
          · refine XCall.ret (carts_c d left) ?_
            conv => whnf
            refine Walk.range (own := []) tab_ok [(5, .pim (deskC d)), (7, .ptr 4 0), (8, .ptr 5 0), (10, .ptr 7 0), (11, .ptr 8 0), (12, .ptr 9 0)] rfl ⟨rfl, rfl, rfl, rfl, rfl, rfl, trivial⟩ ?_
            intro fn
            refine carts1_c d dok left 11 (by omega) _ _ ?_
            refine IterOk.go (S := Nat × List (Int × Nat)) (fun H s => (H.set 1 (.map (esA s.2))).set 9 (.cells [natA s.1])) (pickB d q.1 n left) (fun s cs => Sub s.1 left ∧ MOk s.2 ∧ ∀ c ∈ cs, Sub c left) (0, m0) rfl ?_ ⟨Sub.zero _, k2, fun c hc => (carts_sub d hc).1⟩ ?_
            · rintro ⟨b, m'⟩ c cs ⟨g0, g1, g2⟩
              dsimp only at g0 g1 g2 ⊢
              have gc := g2 c List.mem_cons_self
              have gc2 := gc.le
              have g02 := g0.le
              obtain ⟨qq, hqq⟩ : ∃ x, ofM d 512 (diff left c) m' = x := ⟨_, rfl⟩
              have hdl := diff_le left c
              have hof2 := of_c d dok 512 (diff left c) m' (by omega) (by omega) g1
              obtain ⟨q1, q2⟩ := ofM_ok d 512 (diff left c) m' g1
              rw [hqq] at q1 q2
              refine ⟨XYield.go (own := []) tab_ok rfl rfl (by decide) ?_, ?_⟩
              · intro ρ
                have e1 : iandn .i64 (left : Int) (c : Int) = ((diff left c : Nat) : Int) := iandn_nat (by omega) (by omega)
                have e2 : ixor .i64 (c : Int) (b : Int) = ((c ^^^ b : Nat) : Int) := ixor_nat (by omega) (by omega)
                have hx9 : c ^^^ b < 512 := Nat.xor_lt_two_pow (n := 9) (by omega) (by omega)
                have e3 := low_int hx9
                have hlb := lowb_le (c ^^^ b)
                have e4 : iand .i64 (c : Int) ((lowb (c ^^^ b) : Nat) : Int) = ((c &&& lowb (c ^^^ b) : Nat) : Int) := iand_nat (by omega) (by omega)
                have hand : c &&& lowb (c ^^^ b) ≤ c := Nat.and_le_left
                conv => whnf
                by_cases hA : qq.1 + n + 1 = q.1
                · have eA : ((qq.1 : Int) == (q.1 : Int) - (n : Int) - 1) = true := by rw [beq_iff_eq]; omega
                  by_cases hB : b = 0
                  · have eB : ((b : Int) == 0) = true := by rw [beq_iff_eq]; omega
                    have hp : pickB d q.1 n left (b, m') c = (c, qq.2) := by simp only [pickB, hqq]; rw [if_pos ⟨hA, .inl hB⟩]
                    apply Walk.drawX tab_ok mixed_ok [] [5] (hsV _ [id, fun H => H.set 1 (.map (esA qq.2))])
                      [_, _, _, _, natA (diff left c), natA qq.1, _, _, _, _, .bool true, _, _, .bool true, _, _, _, _, _, _, _, _, _, _] (by kernel_rfl) rfl
                    · skip
                      repeat' first | ((with_reducible first | apply XBr.tt | apply XBr.ff | apply Chk.go | apply ChkA.go | apply ChkF.go | apply ChkB.go | apply XArr.pim0 | apply XArr.pim1); conv => whnf) | (with_reducible apply XBr.not) | ((with_reducible apply XBr.dec) <;> (intro h; first | (exfalso; omega) | ((try simp only [List.length_map] at h); first | (exfalso; omega) | (conv => whnf)))) | ((with_reducible first | apply XBr.beq | apply XBr.bne) <;> (intro h; first | (exfalso; omega) | (conv => whnf))) | ((with_reducible refine XInt.i64 (by omega) (by omega) ?_); conv => whnf) | ((with_reducible refine XHold.mk ?_ ?_); (first | omega | rfl | decide | exact ⟨rfl, by decide, rfl⟩ | exact wideI _ | exact widePr _ | exact wideSk _ | (unfold Room; constructor <;> ((try simp) <;> omega)) | exact ⟨rfl, by simp only [List.length_map], by unfold Room; constructor <;> ((try simp) <;> omega)⟩ | exact ⟨by omega, by omega, by unfold Room; constructor <;> ((try simp) <;> omega)⟩); conv => whnf) | ((first | ((with_reducible refine XIx.nat ?_ ?_ ?_); omega; (intro _; rfl)) | ((with_reducible refine XIx.map ?_ ?_ ?_ ?_); omega; omega; (intro _; rfl))); conv => whnf) | (with_reducible apply XAnd.mk) | (exact XSame.mk rfl rfl) | (exact XSame.mk (by first | rfl | (simp only [List.map_append, List.length_append, List.length_map]; done) | (simp only [List.map_append, List.length_append, List.length_map]; rfl)) (by first | rfl | (simp only [List.map_append]; done) | (simp only [List.map_append]; rfl))) | (with_reducible exact trivial) | ((first | (with_reducible refine xdrop_app (by rw [List.length_map]; omega) ?_) | (with_reducible refine XDrop.desk (by assumption) ?_) | (with_reducible first | refine XArr.ints (by omega) (by omega) (by omega) ?_ | refine XArr.intsA (by omega) (by omega) (by omega) ?_) | ((with_reducible first | refine XArr.nats ?_ ?_ ?_ | refine XArr.natsA ?_ ?_ ?_ | refine XArr.ptr ?_ ?_ ?_); omega; omega)); conv => whnf) | (exact XSame.mk (congrArg (AV.int .i64) e1) rfl) | (((refine XCall.of hof2 1 rfl rfl rfl ?_); rw [hqq]); conv => whnf) | (exact XSame.mk (congrArg AV.bool eA) rfl) | (exact XSame.mk (congrArg AV.bool eB) rfl) | (exact XSame.mk (congrArg (AV.int .i64) e2) rfl) | (exact XSame.mk (congrArg (AV.int .i64) e3) rfl) | (exact XSame.mk (congrArg (AV.int .i64) e4) rfl) | ((with_reducible apply XBr.mk') <;> (intro h; conv => whnf))
                    · skip
                      repeat' first | ((with_reducible first | apply XBr.tt | apply XBr.ff | apply Chk.go | apply ChkA.go | apply ChkF.go | apply ChkB.go | apply XArr.pim0 | apply XArr.pim1); conv => whnf) | (with_reducible apply XBr.not) | ((with_reducible apply XBr.dec) <;> (intro h; first | (exfalso; omega) | ((try simp only [List.length_map] at h); first | (exfalso; omega) | (conv => whnf)))) | ((with_reducible first | apply XBr.beq | apply XBr.bne) <;> (intro h; first | (exfalso; omega) | (conv => whnf))) | ((with_reducible refine XInt.i64 (by omega) (by omega) ?_); conv => whnf) | ((with_reducible refine XHold.mk ?_ ?_); (first | omega | rfl | decide | exact ⟨rfl, by decide, rfl⟩ | exact wideI _ | exact widePr _ | exact wideSk _ | (unfold Room; constructor <;> ((try simp) <;> omega)) | exact ⟨rfl, by simp only [List.length_map], by unfold Room; constructor <;> ((try simp) <;> omega)⟩ | exact ⟨by omega, by omega, by unfold Room; constructor <;> ((try simp) <;> omega)⟩); conv => whnf) | ((first | ((with_reducible refine XIx.nat ?_ ?_ ?_); omega; (intro _; rfl)) | ((with_reducible refine XIx.map ?_ ?_ ?_ ?_); omega; omega; (intro _; rfl))); conv => whnf) | (with_reducible apply XAnd.mk) | (exact XSame.mk rfl rfl) | (exact XSame.mk (by first | rfl | (simp only [List.map_append, List.length_append, List.length_map]; done) | (simp only [List.map_append, List.length_append, List.length_map]; rfl)) (by first | rfl | (simp only [List.map_append]; done) | (simp only [List.map_append]; rfl))) | (with_reducible exact trivial) | ((first | (with_reducible refine xdrop_app (by rw [List.length_map]; omega) ?_) | (with_reducible refine XDrop.desk (by assumption) ?_) | (with_reducible first | refine XArr.ints (by omega) (by omega) (by omega) ?_ | refine XArr.intsA (by omega) (by omega) (by omega) ?_) | ((with_reducible first | refine XArr.nats ?_ ?_ ?_ | refine XArr.natsA ?_ ?_ ?_ | refine XArr.ptr ?_ ?_ ?_); omega; omega)); conv => whnf) | (exact XSame.mk (congrArg (AV.int .i64) e1) rfl) | (((refine XCall.of hof2 1 rfl rfl rfl ?_); rw [hqq]); conv => whnf) | (exact XSame.mk (congrArg AV.bool eA) rfl) | (exact XSame.mk (congrArg AV.bool eB) rfl) | (exact XSame.mk (congrArg (AV.int .i64) e2) rfl) | (exact XSame.mk (congrArg (AV.int .i64) e3) rfl) | (exact XSame.mk (congrArg (AV.int .i64) e4) rfl) | ((with_reducible apply XBr.mk') <;> (intro h; conv => whnf))
                    · rw [hp]
                      conv => whnf
                      repeat' first | ((with_reducible first | apply XBr.tt | apply XBr.ff | apply Chk.go | apply ChkA.go | apply ChkF.go | apply ChkB.go | apply XArr.pim0 | apply XArr.pim1); conv => whnf) | (with_reducible apply XBr.not) | ((with_reducible apply XBr.dec) <;> (intro h; first | (exfalso; omega) | ((try simp only [List.length_map] at h); first | (exfalso; omega) | (conv => whnf)))) | ((with_reducible first | apply XBr.beq | apply XBr.bne) <;> (intro h; first | (exfalso; omega) | (conv => whnf))) | ((with_reducible refine XInt.i64 (by omega) (by omega) ?_); conv => whnf) | ((with_reducible refine XHold.mk ?_ ?_); (first | omega | rfl | decide | exact ⟨rfl, by decide, rfl⟩ | exact wideI _ | exact widePr _ | exact wideSk _ | (unfold Room; constructor <;> ((try simp) <;> omega)) | exact ⟨rfl, by simp only [List.length_map], by unfold Room; constructor <;> ((try simp) <;> omega)⟩ | exact ⟨by omega, by omega, by unfold Room; constructor <;> ((try simp) <;> omega)⟩); conv => whnf) | ((first | ((with_reducible refine XIx.nat ?_ ?_ ?_); omega; (intro _; rfl)) | ((with_reducible refine XIx.map ?_ ?_ ?_ ?_); omega; omega; (intro _; rfl))); conv => whnf) | (with_reducible apply XAnd.mk) | (exact XSame.mk rfl rfl) | (exact XSame.mk (by first | rfl | (simp only [List.map_append, List.length_append, List.length_map]; done) | (simp only [List.map_append, List.length_append, List.length_map]; rfl)) (by first | rfl | (simp only [List.map_append]; done) | (simp only [List.map_append]; rfl))) | (with_reducible exact trivial) | ((first | (with_reducible refine xdrop_app (by rw [List.length_map]; omega) ?_) | (with_reducible refine XDrop.desk (by assumption) ?_) | (with_reducible first | refine XArr.ints (by omega) (by omega) (by omega) ?_ | refine XArr.intsA (by omega) (by omega) (by omega) ?_) | ((with_reducible first | refine XArr.nats ?_ ?_ ?_ | refine XArr.natsA ?_ ?_ ?_ | refine XArr.ptr ?_ ?_ ?_); omega; omega)); conv => whnf) | ((with_reducible apply XBr.mk') <;> (intro h; conv => whnf))
                      exact ⟨rfl, rfl⟩
                  · have eB : ((b : Int) == 0) = false := by rw [beq_eq_false_iff_ne]; omega
                    apply Walk.drawX tab_ok mixed_ok [] [5] (hsV _ [id, fun H => H.set 1 (.map (esA qq.2))])
                      [_, _, _, _, natA (diff left c), natA qq.1, _, _, _, _, .bool true, _, _, .bool false, _, _, natA (c ^^^ b), natA (c ^^^ b), _, natA (lowb (c ^^^ b)), natA (c &&& lowb (c ^^^ b)), _, _, _] (by kernel_rfl) rfl
                    · skip
                      repeat' first | ((with_reducible first | apply XBr.tt | apply XBr.ff | apply Chk.go | apply ChkA.go | apply ChkF.go | apply ChkB.go | apply XArr.pim0 | apply XArr.pim1); conv => whnf) | (with_reducible apply XBr.not) | ((with_reducible apply XBr.dec) <;> (intro h; first | (exfalso; omega) | ((try simp only [List.length_map] at h); first | (exfalso; omega) | (conv => whnf)))) | ((with_reducible first | apply XBr.beq | apply XBr.bne) <;> (intro h; first | (exfalso; omega) | (conv => whnf))) | ((with_reducible refine XInt.i64 (by omega) (by omega) ?_); conv => whnf) | ((with_reducible refine XHold.mk ?_ ?_); (first | omega | rfl | decide | exact ⟨rfl, by decide, rfl⟩ | exact wideI _ | exact widePr _ | exact wideSk _ | (unfold Room; constructor <;> ((try simp) <;> omega)) | exact ⟨rfl, by simp only [List.length_map], by unfold Room; constructor <;> ((try simp) <;> omega)⟩ | exact ⟨by omega, by omega, by unfold Room; constructor <;> ((try simp) <;> omega)⟩); conv => whnf) | ((first | ((with_reducible refine XIx.nat ?_ ?_ ?_); omega; (intro _; rfl)) | ((with_reducible refine XIx.map ?_ ?_ ?_ ?_); omega; omega; (intro _; rfl))); conv => whnf) | (with_reducible apply XAnd.mk) | (exact XSame.mk rfl rfl) | (exact XSame.mk (by first | rfl | (simp only [List.map_append, List.length_append, List.length_map]; done) | (simp only [List.map_append, List.length_append, List.length_map]; rfl)) (by first | rfl | (simp only [List.map_append]; done) | (simp only [List.map_append]; rfl))) | (with_reducible exact trivial) | ((first | (with_reducible refine xdrop_app (by rw [List.length_map]; omega) ?_) | (with_reducible refine XDrop.desk (by assumption) ?_) | (with_reducible first | refine XArr.ints (by omega) (by omega) (by omega) ?_ | refine XArr.intsA (by omega) (by omega) (by omega) ?_) | ((with_reducible first | refine XArr.nats ?_ ?_ ?_ | refine XArr.natsA ?_ ?_ ?_ | refine XArr.ptr ?_ ?_ ?_); omega; omega)); conv => whnf) | (exact XSame.mk (congrArg (AV.int .i64) e1) rfl) | (((refine XCall.of hof2 1 rfl rfl rfl ?_); rw [hqq]); conv => whnf) | (exact XSame.mk (congrArg AV.bool eA) rfl) | (exact XSame.mk (congrArg AV.bool eB) rfl) | (exact XSame.mk (congrArg (AV.int .i64) e2) rfl) | (exact XSame.mk (congrArg (AV.int .i64) e3) rfl) | (exact XSame.mk (congrArg (AV.int .i64) e4) rfl) | ((with_reducible apply XBr.mk') <;> (intro h; conv => whnf))
                    · skip
                      repeat' first | ((with_reducible first | apply XBr.tt | apply XBr.ff | apply Chk.go | apply ChkA.go | apply ChkF.go | apply ChkB.go | apply XArr.pim0 | apply XArr.pim1); conv => whnf) | (with_reducible apply XBr.not) | ((with_reducible apply XBr.dec) <;> (intro h; first | (exfalso; omega) | ((try simp only [List.length_map] at h); first | (exfalso; omega) | (conv => whnf)))) | ((with_reducible first | apply XBr.beq | apply XBr.bne) <;> (intro h; first | (exfalso; omega) | (conv => whnf))) | ((with_reducible refine XInt.i64 (by omega) (by omega) ?_); conv => whnf) | ((with_reducible refine XHold.mk ?_ ?_); (first | omega | rfl | decide | exact ⟨rfl, by decide, rfl⟩ | exact wideI _ | exact widePr _ | exact wideSk _ | (unfold Room; constructor <;> ((try simp) <;> omega)) | exact ⟨rfl, by simp only [List.length_map], by unfold Room; constructor <;> ((try simp) <;> omega)⟩ | exact ⟨by omega, by omega, by unfold Room; constructor <;> ((try simp) <;> omega)⟩); conv => whnf) | ((first | ((with_reducible refine XIx.nat ?_ ?_ ?_); omega; (intro _; rfl)) | ((with_reducible refine XIx.map ?_ ?_ ?_ ?_); omega; omega; (intro _; rfl))); conv => whnf) | (with_reducible apply XAnd.mk) | (exact XSame.mk rfl rfl) | (exact XSame.mk (by first | rfl | (simp only [List.map_append, List.length_append, List.length_map]; done) | (simp only [List.map_append, List.length_append, List.length_map]; rfl)) (by first | rfl | (simp only [List.map_append]; done) | (simp only [List.map_append]; rfl))) | (with_reducible exact trivial) | ((first | (with_reducible refine xdrop_app (by rw [List.length_map]; omega) ?_) | (with_reducible refine XDrop.desk (by assumption) ?_) | (with_reducible first | refine XArr.ints (by omega) (by omega) (by omega) ?_ | refine XArr.intsA (by omega) (by omega) (by omega) ?_) | ((with_reducible first | refine XArr.nats ?_ ?_ ?_ | refine XArr.natsA ?_ ?_ ?_ | refine XArr.ptr ?_ ?_ ?_); omega; omega)); conv => whnf) | (exact XSame.mk (congrArg (AV.int .i64) e1) rfl) | (((refine XCall.of hof2 1 rfl rfl rfl ?_); rw [hqq]); conv => whnf) | (exact XSame.mk (congrArg AV.bool eA) rfl) | (exact XSame.mk (congrArg AV.bool eB) rfl) | (exact XSame.mk (congrArg (AV.int .i64) e2) rfl) | (exact XSame.mk (congrArg (AV.int .i64) e3) rfl) | (exact XSame.mk (congrArg (AV.int .i64) e4) rfl) | ((with_reducible apply XBr.mk') <;> (intro h; conv => whnf))
                    · conv => whnf
                      repeat' first | ((with_reducible first | apply XBr.tt | apply XBr.ff | apply Chk.go | apply ChkA.go | apply ChkF.go | apply ChkB.go | apply XArr.pim0 | apply XArr.pim1); conv => whnf) | (with_reducible apply XBr.not) | ((with_reducible apply XBr.dec) <;> (intro h; first | (exfalso; omega) | ((try simp only [List.length_map] at h); first | (exfalso; omega) | (conv => whnf)))) | ((with_reducible first | apply XBr.beq | apply XBr.bne) <;> (intro h; first | (exfalso; omega) | (conv => whnf))) | ((with_reducible refine XInt.i64 (by omega) (by omega) ?_); conv => whnf) | ((with_reducible refine XHold.mk ?_ ?_); (first | omega | rfl | decide | exact ⟨rfl, by decide, rfl⟩ | exact wideI _ | exact widePr _ | exact wideSk _ | (unfold Room; constructor <;> ((try simp) <;> omega)) | exact ⟨rfl, by simp only [List.length_map], by unfold Room; constructor <;> ((try simp) <;> omega)⟩ | exact ⟨by omega, by omega, by unfold Room; constructor <;> ((try simp) <;> omega)⟩); conv => whnf) | ((first | ((with_reducible refine XIx.nat ?_ ?_ ?_); omega; (intro _; rfl)) | ((with_reducible refine XIx.map ?_ ?_ ?_ ?_); omega; omega; (intro _; rfl))); conv => whnf) | (with_reducible apply XAnd.mk) | (exact XSame.mk rfl rfl) | (exact XSame.mk (by first | rfl | (simp only [List.map_append, List.length_append, List.length_map]; done) | (simp only [List.map_append, List.length_append, List.length_map]; rfl)) (by first | rfl | (simp only [List.map_append]; done) | (simp only [List.map_append]; rfl))) | (with_reducible exact trivial) | ((first | (with_reducible refine xdrop_app (by rw [List.length_map]; omega) ?_) | (with_reducible refine XDrop.desk (by assumption) ?_) | (with_reducible first | refine XArr.ints (by omega) (by omega) (by omega) ?_ | refine XArr.intsA (by omega) (by omega) (by omega) ?_) | ((with_reducible first | refine XArr.nats ?_ ?_ ?_ | refine XArr.natsA ?_ ?_ ?_ | refine XArr.ptr ?_ ?_ ?_); omega; omega)); conv => whnf) | ((with_reducible apply XBr.mk') <;> (intro h; conv => whnf))
                      · have hp : pickB d q.1 n left (b, m') c = (c, qq.2) := by simp only [pickB, hqq]; rw [if_pos ⟨hA, .inr (by omega)⟩]
                        rw [hp]; exact ⟨rfl, rfl⟩
                      · have hp : pickB d q.1 n left (b, m') c = (b, qq.2) := by simp only [pickB, hqq]; rw [if_neg (by omega)]
                        rw [hp]; exact ⟨rfl, rfl⟩
                · have eA : ((qq.1 : Int) == (q.1 : Int) - (n : Int) - 1) = false := by rw [beq_eq_false_iff_ne]; omega
                  have hp : pickB d q.1 n left (b, m') c = (b, qq.2) := by simp only [pickB, hqq]; rw [if_neg (by omega)]
                  apply Walk.drawX tab_ok mixed_ok [] [5] (hsV _ [id, fun H => H.set 1 (.map (esA qq.2))])
                    [_, _, _, _, natA (diff left c), natA qq.1, _, _, _, _, .bool false, _, _, _, _, _, _, _, _, _, _, _, _, _] (by kernel_rfl) rfl
                  · skip
                    repeat' first | ((with_reducible first | apply XBr.tt | apply XBr.ff | apply Chk.go | apply ChkA.go | apply ChkF.go | apply ChkB.go | apply XArr.pim0 | apply XArr.pim1); conv => whnf) | (with_reducible apply XBr.not) | ((with_reducible apply XBr.dec) <;> (intro h; first | (exfalso; omega) | ((try simp only [List.length_map] at h); first | (exfalso; omega) | (conv => whnf)))) | ((with_reducible first | apply XBr.beq | apply XBr.bne) <;> (intro h; first | (exfalso; omega) | (conv => whnf))) | ((with_reducible refine XInt.i64 (by omega) (by omega) ?_); conv => whnf) | ((with_reducible refine XHold.mk ?_ ?_); (first | omega | rfl | decide | exact ⟨rfl, by decide, rfl⟩ | exact wideI _ | exact widePr _ | exact wideSk _ | (unfold Room; constructor <;> ((try simp) <;> omega)) | exact ⟨rfl, by simp only [List.length_map], by unfold Room; constructor <;> ((try simp) <;> omega)⟩ | exact ⟨by omega, by omega, by unfold Room; constructor <;> ((try simp) <;> omega)⟩); conv => whnf) | ((first | ((with_reducible refine XIx.nat ?_ ?_ ?_); omega; (intro _; rfl)) | ((with_reducible refine XIx.map ?_ ?_ ?_ ?_); omega; omega; (intro _; rfl))); conv => whnf) | (with_reducible apply XAnd.mk) | (exact XSame.mk rfl rfl) | (exact XSame.mk (by first | rfl | (simp only [List.map_append, List.length_append, List.length_map]; done) | (simp only [List.map_append, List.length_append, List.length_map]; rfl)) (by first | rfl | (simp only [List.map_append]; done) | (simp only [List.map_append]; rfl))) | (with_reducible exact trivial) | ((first | (with_reducible refine xdrop_app (by rw [List.length_map]; omega) ?_) | (with_reducible refine XDrop.desk (by assumption) ?_) | (with_reducible first | refine XArr.ints (by omega) (by omega) (by omega) ?_ | refine XArr.intsA (by omega) (by omega) (by omega) ?_) | ((with_reducible first | refine XArr.nats ?_ ?_ ?_ | refine XArr.natsA ?_ ?_ ?_ | refine XArr.ptr ?_ ?_ ?_); omega; omega)); conv => whnf) | (exact XSame.mk (congrArg (AV.int .i64) e1) rfl) | (((refine XCall.of hof2 1 rfl rfl rfl ?_); rw [hqq]); conv => whnf) | (exact XSame.mk (congrArg AV.bool eA) rfl) | (exact XSame.mk (congrArg AV.bool eB) rfl) | (exact XSame.mk (congrArg (AV.int .i64) e2) rfl) | (exact XSame.mk (congrArg (AV.int .i64) e3) rfl) | (exact XSame.mk (congrArg (AV.int .i64) e4) rfl) | ((with_reducible apply XBr.mk') <;> (intro h; conv => whnf))
                  · skip
                    repeat' first | ((with_reducible first | apply XBr.tt | apply XBr.ff | apply Chk.go | apply ChkA.go | apply ChkF.go | apply ChkB.go | apply XArr.pim0 | apply XArr.pim1); conv => whnf) | (with_reducible apply XBr.not) | ((with_reducible apply XBr.dec) <;> (intro h; first | (exfalso; omega) | ((try simp only [List.length_map] at h); first | (exfalso; omega) | (conv => whnf)))) | ((with_reducible first | apply XBr.beq | apply XBr.bne) <;> (intro h; first | (exfalso; omega) | (conv => whnf))) | ((with_reducible refine XInt.i64 (by omega) (by omega) ?_); conv => whnf) | ((with_reducible refine XHold.mk ?_ ?_); (first | omega | rfl | decide | exact ⟨rfl, by decide, rfl⟩ | exact wideI _ | exact widePr _ | exact wideSk _ | (unfold Room; constructor <;> ((try simp) <;> omega)) | exact ⟨rfl, by simp only [List.length_map], by unfold Room; constructor <;> ((try simp) <;> omega)⟩ | exact ⟨by omega, by omega, by unfold Room; constructor <;> ((try simp) <;> omega)⟩); conv => whnf) | ((first | ((with_reducible refine XIx.nat ?_ ?_ ?_); omega; (intro _; rfl)) | ((with_reducible refine XIx.map ?_ ?_ ?_ ?_); omega; omega; (intro _; rfl))); conv => whnf) | (with_reducible apply XAnd.mk) | (exact XSame.mk rfl rfl) | (exact XSame.mk (by first | rfl | (simp only [List.map_append, List.length_append, List.length_map]; done) | (simp only [List.map_append, List.length_append, List.length_map]; rfl)) (by first | rfl | (simp only [List.map_append]; done) | (simp only [List.map_append]; rfl))) | (with_reducible exact trivial) | ((first | (with_reducible refine xdrop_app (by rw [List.length_map]; omega) ?_) | (with_reducible refine XDrop.desk (by assumption) ?_) | (with_reducible first | refine XArr.ints (by omega) (by omega) (by omega) ?_ | refine XArr.intsA (by omega) (by omega) (by omega) ?_) | ((with_reducible first | refine XArr.nats ?_ ?_ ?_ | refine XArr.natsA ?_ ?_ ?_ | refine XArr.ptr ?_ ?_ ?_); omega; omega)); conv => whnf) | (exact XSame.mk (congrArg (AV.int .i64) e1) rfl) | (((refine XCall.of hof2 1 rfl rfl rfl ?_); rw [hqq]); conv => whnf) | (exact XSame.mk (congrArg AV.bool eA) rfl) | (exact XSame.mk (congrArg AV.bool eB) rfl) | (exact XSame.mk (congrArg (AV.int .i64) e2) rfl) | (exact XSame.mk (congrArg (AV.int .i64) e3) rfl) | (exact XSame.mk (congrArg (AV.int .i64) e4) rfl) | ((with_reducible apply XBr.mk') <;> (intro h; conv => whnf))
                  · rw [hp]
                    conv => whnf
                    repeat' first | ((with_reducible first | apply XBr.tt | apply XBr.ff | apply Chk.go | apply ChkA.go | apply ChkF.go | apply ChkB.go | apply XArr.pim0 | apply XArr.pim1); conv => whnf) | (with_reducible apply XBr.not) | ((with_reducible apply XBr.dec) <;> (intro h; first | (exfalso; omega) | ((try simp only [List.length_map] at h); first | (exfalso; omega) | (conv => whnf)))) | ((with_reducible first | apply XBr.beq | apply XBr.bne) <;> (intro h; first | (exfalso; omega) | (conv => whnf))) | ((with_reducible refine XInt.i64 (by omega) (by omega) ?_); conv => whnf) | ((with_reducible refine XHold.mk ?_ ?_); (first | omega | rfl | decide | exact ⟨rfl, by decide, rfl⟩ | exact wideI _ | exact widePr _ | exact wideSk _ | (unfold Room; constructor <;> ((try simp) <;> omega)) | exact ⟨rfl, by simp only [List.length_map], by unfold Room; constructor <;> ((try simp) <;> omega)⟩ | exact ⟨by omega, by omega, by unfold Room; constructor <;> ((try simp) <;> omega)⟩); conv => whnf) | ((first | ((with_reducible refine XIx.nat ?_ ?_ ?_); omega; (intro _; rfl)) | ((with_reducible refine XIx.map ?_ ?_ ?_ ?_); omega; omega; (intro _; rfl))); conv => whnf) | (with_reducible apply XAnd.mk) | (exact XSame.mk rfl rfl) | (exact XSame.mk (by first | rfl | (simp only [List.map_append, List.length_append, List.length_map]; done) | (simp only [List.map_append, List.length_append, List.length_map]; rfl)) (by first | rfl | (simp only [List.map_append]; done) | (simp only [List.map_append]; rfl))) | (with_reducible exact trivial) | ((first | (with_reducible refine xdrop_app (by rw [List.length_map]; omega) ?_) | (with_reducible refine XDrop.desk (by assumption) ?_) | (with_reducible first | refine XArr.ints (by omega) (by omega) (by omega) ?_ | refine XArr.intsA (by omega) (by omega) (by omega) ?_) | ((with_reducible first | refine XArr.nats ?_ ?_ ?_ | refine XArr.natsA ?_ ?_ ?_ | refine XArr.ptr ?_ ?_ ?_); omega; omega)); conv => whnf) | ((with_reducible apply XBr.mk') <;> (intro h; conv => whnf))
                    exact ⟨rfl, rfl⟩
              · refine ⟨?_, by simp only [pickB, hqq]; exact q2, fun c hc => g2 c (List.mem_cons_of_mem _ hc)⟩
                simp only [pickB]; split
                · exact gc
                · exact g0
            · have hbest := best_ok d q.1 n left m0 k2
              have hbd : (cartsL d left).foldl (pickB d q.1 n left) (0, m0) = bestB d q.1 n left m0 := rfl
              rw [hbd]
              have hst : loadI d q.1 (n + 1) = ⟨diff left (bestB d q.1 n left m0).1, (bestB d q.1 n left m0).2, fillB n out0 (bits (bestB d q.1 n left m0).1)⟩ := hnext
              generalize bestB d q.1 n left m0 = bb at hbest hst
              obtain ⟨b, m2⟩ := bb
              dsimp only at hbest hst ⊢
              have hb2 := hbest.2.le
              conv => whnf
              repeat' first | ((with_reducible first | apply XBr.tt | apply XBr.ff | apply Chk.go | apply ChkA.go | apply ChkF.go | apply ChkB.go | apply XArr.pim0 | apply XArr.pim1); conv => whnf) | (with_reducible apply XBr.not) | ((with_reducible apply XBr.dec) <;> (intro h; first | (exfalso; omega) | ((try simp only [List.length_map] at h); first | (exfalso; omega) | (conv => whnf)))) | ((with_reducible first | apply XBr.beq | apply XBr.bne) <;> (intro h; first | (exfalso; omega) | (conv => whnf))) | ((with_reducible refine XInt.i64 (by omega) (by omega) ?_); conv => whnf) | ((with_reducible refine XHold.mk ?_ ?_); (first | omega | rfl | decide | exact ⟨rfl, by decide, rfl⟩ | exact wideI _ | exact widePr _ | exact wideSk _ | (unfold Room; constructor <;> ((try simp) <;> omega)) | exact ⟨rfl, by simp only [List.length_map], by unfold Room; constructor <;> ((try simp) <;> omega)⟩ | exact ⟨by omega, by omega, by unfold Room; constructor <;> ((try simp) <;> omega)⟩); conv => whnf) | ((first | ((with_reducible refine XIx.nat ?_ ?_ ?_); omega; (intro _; rfl)) | ((with_reducible refine XIx.map ?_ ?_ ?_ ?_); omega; omega; (intro _; rfl))); conv => whnf) | (with_reducible apply XAnd.mk) | (exact XSame.mk rfl rfl) | (exact XSame.mk (by first | rfl | (simp only [List.map_append, List.length_append, List.length_map]; done) | (simp only [List.map_append, List.length_append, List.length_map]; rfl)) (by first | rfl | (simp only [List.map_append]; done) | (simp only [List.map_append]; rfl))) | (with_reducible exact trivial) | ((first | (with_reducible refine xdrop_app (by rw [List.length_map]; omega) ?_) | (with_reducible refine XDrop.desk (by assumption) ?_) | (with_reducible first | refine XArr.ints (by omega) (by omega) (by omega) ?_ | refine XArr.intsA (by omega) (by omega) (by omega) ?_) | ((with_reducible first | refine XArr.nats ?_ ?_ ?_ | refine XArr.natsA ?_ ?_ ?_ | refine XArr.ptr ?_ ?_ ?_); omega; omega)); conv => whnf) | ((with_reducible apply XBr.mk') <;> (intro h; conv => whnf))
              refine XCall.ret (list_c b (by omega)) ?_
              conv => whnf
              have hbb : ∀ x ∈ bits b, 0 ≤ x ∧ x < (d.l.sacks.length : Int) := fun x hx => by
                have hp2 : b < 2 ^ d.l.sacks.length := by have := Nat.two_pow_pos d.l.sacks.length; show b < _; unfold allD at k1; omega
                have := bitsF_bound 62 0 b d.l.sacks.length hp2 x hx; omega
              have hbl := bits_len b
              refine Walk.loop tab_ok [] (fun j : Nat => j ≤ (bits b).length) (fun j => [(5, .pim (deskC d)), (7, .ptr 4 0), (8, .ptr 5 0), (9, .gr 6 l.sacks.length), (10, .ptr 7 0), (11, .ptr 8 0), (12, .ptr 9 0), (40, natA q.1), (41, natA n), (77, slA (bits b)), (78, natA (bits b).length), (79, natA j)])
                (fun j => [.cells [ofC d 1], .map (esA m2), .cells [.mp 1], .cells [ofC d 1], .cells [ofC d 1], .cells [natA q.1], .grow 3 false (nats (fillB n out0 ((bits b).take j))), .cells [natA left], .cells [natA n], .cells [natA b], .raw (.deferred (some [])), .dead])
                (fun j => (bits b).length - j) 0 (by omega) rfl ⟨rfl, rfl, rfl, rfl, rfl, rfl, rfl, rfl, rfl, rfl, by simp only [ints, List.length_map]; rfl, rfl, trivial⟩ ?_
              intro j hj
              have hfl := fillB_len n ((bits b).take j) out0
              conv => whnf
              repeat' first | ((with_reducible first | apply XBr.tt | apply XBr.ff | apply Chk.go | apply ChkA.go | apply ChkF.go | apply ChkB.go | apply XArr.pim0 | apply XArr.pim1); conv => whnf) | (with_reducible apply XBr.not) | ((with_reducible apply XBr.dec) <;> (intro h; first | (exfalso; omega) | ((try simp only [List.length_map] at h); first | (exfalso; omega) | (conv => whnf)))) | ((with_reducible first | apply XBr.beq | apply XBr.bne) <;> (intro h; first | (exfalso; omega) | (conv => whnf))) | ((with_reducible refine XInt.i64 (by omega) (by omega) ?_); conv => whnf) | ((with_reducible refine XHold.mk ?_ ?_); (first | omega | rfl | decide | exact ⟨rfl, by decide, rfl⟩ | exact wideI _ | exact widePr _ | exact wideSk _ | (unfold Room; constructor <;> ((try simp) <;> omega)) | exact ⟨rfl, by simp only [List.length_map], by unfold Room; constructor <;> ((try simp) <;> omega)⟩ | exact ⟨by omega, by omega, by unfold Room; constructor <;> ((try simp) <;> omega)⟩); conv => whnf) | ((first | ((with_reducible refine XIx.nat ?_ ?_ ?_); omega; (intro _; rfl)) | ((with_reducible refine XIx.map ?_ ?_ ?_ ?_); omega; omega; (intro _; rfl))); conv => whnf) | (with_reducible apply XAnd.mk) | (exact XSame.mk rfl rfl) | (exact XSame.mk (by first | rfl | (simp only [List.map_append, List.length_append, List.length_map]; done) | (simp only [List.map_append, List.length_append, List.length_map]; rfl)) (by first | rfl | (simp only [List.map_append]; done) | (simp only [List.map_append]; rfl))) | (with_reducible exact trivial) | ((first | (with_reducible refine xdrop_app (by rw [List.length_map]; omega) ?_) | (with_reducible refine XDrop.desk (by assumption) ?_) | (with_reducible first | refine XArr.ints (by omega) (by omega) (by omega) ?_ | refine XArr.intsA (by omega) (by omega) (by omega) ?_) | ((with_reducible first | refine XArr.nats ?_ ?_ ?_ | refine XArr.natsA ?_ ?_ ?_ | refine XArr.ptr ?_ ?_ ?_); omega; omega)); conv => whnf) | ((with_reducible apply XBr.mk') <;> (intro h; conv => whnf))
              · rename_i hjl
                have hmem := getD_mem (xs := bits b) (i := j) (d := default) (by omega)
                have hv := hbb _ hmem
                refine XHold.mk ⟨by rw [List.length_map, hfl, k3, hdn], rfl, by omega, by omega⟩ ?_
                conv => whnf
                refine XPut.map n rfl (by rw [hfl, k3, hdn]) (by omega) ?_
                conv => whnf
                repeat' first | ((with_reducible first | apply XBr.tt | apply XBr.ff | apply Chk.go | apply ChkA.go | apply ChkF.go | apply ChkB.go | apply XArr.pim0 | apply XArr.pim1); conv => whnf) | (with_reducible apply XBr.not) | ((with_reducible apply XBr.dec) <;> (intro h; first | (exfalso; omega) | ((try simp only [List.length_map] at h); first | (exfalso; omega) | (conv => whnf)))) | ((with_reducible first | apply XBr.beq | apply XBr.bne) <;> (intro h; first | (exfalso; omega) | (conv => whnf))) | ((with_reducible refine XInt.i64 (by omega) (by omega) ?_); conv => whnf) | ((with_reducible refine XHold.mk ?_ ?_); (first | omega | rfl | decide | exact ⟨rfl, by decide, rfl⟩ | exact wideI _ | exact widePr _ | exact wideSk _ | (unfold Room; constructor <;> ((try simp) <;> omega)) | exact ⟨rfl, by simp only [List.length_map], by unfold Room; constructor <;> ((try simp) <;> omega)⟩ | exact ⟨by omega, by omega, by unfold Room; constructor <;> ((try simp) <;> omega)⟩); conv => whnf) | ((first | ((with_reducible refine XIx.nat ?_ ?_ ?_); omega; (intro _; rfl)) | ((with_reducible refine XIx.map ?_ ?_ ?_ ?_); omega; omega; (intro _; rfl))); conv => whnf) | (with_reducible apply XAnd.mk) | (exact XSame.mk rfl rfl) | (exact XSame.mk (by first | rfl | (simp only [List.map_append, List.length_append, List.length_map]; done) | (simp only [List.map_append, List.length_append, List.length_map]; rfl)) (by first | rfl | (simp only [List.map_append]; done) | (simp only [List.map_append]; rfl))) | (with_reducible exact trivial) | ((first | (with_reducible refine xdrop_app (by rw [List.length_map]; omega) ?_) | (with_reducible refine XDrop.desk (by assumption) ?_) | (with_reducible first | refine XArr.ints (by omega) (by omega) (by omega) ?_ | refine XArr.intsA (by omega) (by omega) (by omega) ?_) | ((with_reducible first | refine XArr.nats ?_ ?_ ?_ | refine XArr.natsA ?_ ?_ ?_ | refine XArr.ptr ?_ ?_ ?_); omega; omega)); conv => whnf) | ((with_reducible apply XBr.mk') <;> (intro h; conv => whnf))
                refine XAgain.go (j + 1) (by omega) (by omega) ?_ ⟨rfl, rfl, rfl, rfl, rfl, rfl, rfl, rfl, rfl, rfl, rfl, rfl, trivial⟩
                rw [take_next (by omega)]
                unfold fillB
                rw [List.foldl_append]; rfl
              · rename_i hjl
                have hje : j = (bits b).length := by omega
                subst hje
                refine XAgainM.go (n + 1) [.cells [natA n], .cells [natA b], .raw (.deferred (some [])), .dead] (by omega) (by omega) ?_ ⟨rfl, rfl, rfl, rfl, rfl, rfl, rfl, trivial⟩ (Nat.le_refl _) ?_ ?_ ?_ ?_
                · rw [hst, List.take_length]
                  have e1 : iandn .i64 (left : Int) (b : Int) = ((diff left b : Nat) : Int) := iandn_nat (by omega) (by omega)
                  simp only [List.cons_append, List.nil_append, natA, e1]
                · intro x hx
                  simp only [List.mem_cons, List.not_mem_nil, or_false] at hx
                  rcases hx with rfl | rfl | rfl | rfl | rfl | rfl | rfl | rfl <;> first | exact low_esA _ | exact lowN _ | rfl | (simp only [Blk.low, ofC, lowL, AV.low, lowDk, List.length_cons, List.length_nil]; rfl)
                · intro p hp
                  simp only [List.mem_cons, List.not_mem_nil, or_false] at hp
                  rcases hp with rfl | rfl | rfl | rfl | rfl | rfl | rfl <;> first | rfl | exact lowDk _
                · simp
                · intro i hi; simp at hi; subst hi; exact ⟨Nat.le_of_ble_eq_true rfl, rfl⟩
          · have hne : n = q.1 := by omega
            subst hne
            rw [hfin, hs]
            apply Walk.drawX tab_ok mixed_ok [] [] (hsK _) [_, _, _, _, _] (by kernel_rfl) rfl
            · skip
              repeat' first | ((with_reducible first | apply XBr.tt | apply XBr.ff | apply Chk.go | apply ChkA.go | apply ChkF.go | apply ChkB.go | apply XArr.pim0 | apply XArr.pim1); conv => whnf) | (with_reducible apply XBr.not) | ((with_reducible apply XBr.dec) <;> (intro h; first | (exfalso; omega) | ((try simp only [List.length_map] at h); first | (exfalso; omega) | (conv => whnf)))) | ((with_reducible first | apply XBr.beq | apply XBr.bne) <;> (intro h; first | (exfalso; omega) | (conv => whnf))) | ((with_reducible refine XInt.i64 (by omega) (by omega) ?_); conv => whnf) | ((with_reducible refine XHold.mk ?_ ?_); (first | omega | rfl | decide | exact ⟨rfl, by decide, rfl⟩ | exact wideI _ | exact widePr _ | exact wideSk _ | (unfold Room; constructor <;> ((try simp) <;> omega)) | exact ⟨rfl, by simp only [List.length_map], by unfold Room; constructor <;> ((try simp) <;> omega)⟩ | exact ⟨by omega, by omega, by unfold Room; constructor <;> ((try simp) <;> omega)⟩); conv => whnf) | ((first | ((with_reducible refine XIx.nat ?_ ?_ ?_); omega; (intro _; rfl)) | ((with_reducible refine XIx.map ?_ ?_ ?_ ?_); omega; omega; (intro _; rfl))); conv => whnf) | (with_reducible apply XAnd.mk) | (exact XSame.mk rfl rfl) | (exact XSame.mk (by first | rfl | (simp only [List.map_append, List.length_append, List.length_map]; done) | (simp only [List.map_append, List.length_append, List.length_map]; rfl)) (by first | rfl | (simp only [List.map_append]; done) | (simp only [List.map_append]; rfl))) | (with_reducible exact trivial) | ((first | (with_reducible refine xdrop_app (by rw [List.length_map]; omega) ?_) | (with_reducible refine XDrop.desk (by assumption) ?_) | (with_reducible first | refine XArr.ints (by omega) (by omega) (by omega) ?_ | refine XArr.intsA (by omega) (by omega) (by omega) ?_) | ((with_reducible first | refine XArr.nats ?_ ?_ ?_ | refine XArr.natsA ?_ ?_ ?_ | refine XArr.ptr ?_ ?_ ?_); omega; omega)); conv => whnf) | ((with_reducible apply XBr.mk') <;> (intro h; conv => whnf))
            · skip
              repeat' first | ((with_reducible first | apply XBr.tt | apply XBr.ff | apply Chk.go | apply ChkA.go | apply ChkF.go | apply ChkB.go | apply XArr.pim0 | apply XArr.pim1); conv => whnf) | (with_reducible apply XBr.not) | ((with_reducible apply XBr.dec) <;> (intro h; first | (exfalso; omega) | ((try simp only [List.length_map] at h); first | (exfalso; omega) | (conv => whnf)))) | ((with_reducible first | apply XBr.beq | apply XBr.bne) <;> (intro h; first | (exfalso; omega) | (conv => whnf))) | ((with_reducible refine XInt.i64 (by omega) (by omega) ?_); conv => whnf) | ((with_reducible refine XHold.mk ?_ ?_); (first | omega | rfl | decide | exact ⟨rfl, by decide, rfl⟩ | exact wideI _ | exact widePr _ | exact wideSk _ | (unfold Room; constructor <;> ((try simp) <;> omega)) | exact ⟨rfl, by simp only [List.length_map], by unfold Room; constructor <;> ((try simp) <;> omega)⟩ | exact ⟨by omega, by omega, by unfold Room; constructor <;> ((try simp) <;> omega)⟩); conv => whnf) | ((first | ((with_reducible refine XIx.nat ?_ ?_ ?_); omega; (intro _; rfl)) | ((with_reducible refine XIx.map ?_ ?_ ?_ ?_); omega; omega; (intro _; rfl))); conv => whnf) | (with_reducible apply XAnd.mk) | (exact XSame.mk rfl rfl) | (exact XSame.mk (by first | rfl | (simp only [List.map_append, List.length_append, List.length_map]; done) | (simp only [List.map_append, List.length_append, List.length_map]; rfl)) (by first | rfl | (simp only [List.map_append]; done) | (simp only [List.map_append]; rfl))) | (with_reducible exact trivial) | ((first | (with_reducible refine xdrop_app (by rw [List.length_map]; omega) ?_) | (with_reducible refine XDrop.desk (by assumption) ?_) | (with_reducible first | refine XArr.ints (by omega) (by omega) (by omega) ?_ | refine XArr.intsA (by omega) (by omega) (by omega) ?_) | ((with_reducible first | refine XArr.nats ?_ ?_ ?_ | refine XArr.natsA ?_ ?_ ?_ | refine XArr.ptr ?_ ?_ ?_); omega; omega)); conv => whnf) | ((with_reducible apply XBr.mk') <;> (intro h; conv => whnf))
            · conv => whnf
              repeat' first | ((with_reducible first | apply XBr.tt | apply XBr.ff | apply Chk.go | apply ChkA.go | apply ChkF.go | apply ChkB.go | apply XArr.pim0 | apply XArr.pim1); conv => whnf) | (with_reducible apply XBr.not) | ((with_reducible apply XBr.dec) <;> (intro h; first | (exfalso; omega) | ((try simp only [List.length_map] at h); first | (exfalso; omega) | (conv => whnf)))) | ((with_reducible first | apply XBr.beq | apply XBr.bne) <;> (intro h; first | (exfalso; omega) | (conv => whnf))) | ((with_reducible refine XInt.i64 (by omega) (by omega) ?_); conv => whnf) | ((with_reducible refine XHold.mk ?_ ?_); (first | omega | rfl | decide | exact ⟨rfl, by decide, rfl⟩ | exact wideI _ | exact widePr _ | exact wideSk _ | (unfold Room; constructor <;> ((try simp) <;> omega)) | exact ⟨rfl, by simp only [List.length_map], by unfold Room; constructor <;> ((try simp) <;> omega)⟩ | exact ⟨by omega, by omega, by unfold Room; constructor <;> ((try simp) <;> omega)⟩); conv => whnf) | ((first | ((with_reducible refine XIx.nat ?_ ?_ ?_); omega; (intro _; rfl)) | ((with_reducible refine XIx.map ?_ ?_ ?_ ?_); omega; omega; (intro _; rfl))); conv => whnf) | (with_reducible apply XAnd.mk) | (exact XSame.mk rfl rfl) | (exact XSame.mk (by first | rfl | (simp only [List.map_append, List.length_append, List.length_map]; done) | (simp only [List.map_append, List.length_append, List.length_map]; rfl)) (by first | rfl | (simp only [List.map_append]; done) | (simp only [List.map_append]; rfl))) | (with_reducible exact trivial) | ((first | (with_reducible refine xdrop_app (by rw [List.length_map]; omega) ?_) | (with_reducible refine XDrop.desk (by assumption) ?_) | (with_reducible first | refine XArr.ints (by omega) (by omega) (by omega) ?_ | refine XArr.intsA (by omega) (by omega) (by omega) ?_) | ((with_reducible first | refine XArr.nats ?_ ?_ ?_ | refine XArr.natsA ?_ ?_ ?_ | refine XArr.ptr ?_ ?_ ?_); omega; omega)); conv => whnf) | ((with_reducible apply XBr.mk') <;> (intro h; conv => whnf))
              exact ⟨Froz.tup (.cons (Froz.grow rfl (by simp only [nats, List.length_map, k3, hdn]) (lowN _)) (.cons (Froz.low rfl) (.cons (Froz.low rfl) .nil)))⟩
  · rw [if_neg hc, if_neg hc]
    conv => whnf
    repeat' first | ((with_reducible first | apply XBr.tt | apply XBr.ff | apply Chk.go | apply ChkA.go | apply ChkF.go | apply ChkB.go | apply XArr.pim0 | apply XArr.pim1); conv => whnf) | (with_reducible apply XBr.not) | ((with_reducible apply XBr.dec) <;> (intro h; first | (exfalso; omega) | ((try simp only [List.length_map] at h); first | (exfalso; omega) | (conv => whnf)))) | ((with_reducible first | apply XBr.beq | apply XBr.bne) <;> (intro h; first | (exfalso; omega) | (conv => whnf))) | ((with_reducible refine XInt.i64 (by omega) (by omega) ?_); conv => whnf) | ((with_reducible refine XHold.mk ?_ ?_); (first | omega | rfl | decide | exact ⟨rfl, by decide, rfl⟩ | exact wideI _ | exact widePr _ | exact wideSk _ | (unfold Room; constructor <;> ((try simp) <;> omega)) | exact ⟨rfl, by simp only [List.length_map], by unfold Room; constructor <;> ((try simp) <;> omega)⟩ | exact ⟨by omega, by omega, by unfold Room; constructor <;> ((try simp) <;> omega)⟩); conv => whnf) | ((first | ((with_reducible refine XIx.nat ?_ ?_ ?_); omega; (intro _; rfl)) | ((with_reducible refine XIx.map ?_ ?_ ?_ ?_); omega; omega; (intro _; rfl))); conv => whnf) | (with_reducible apply XAnd.mk) | (exact XSame.mk rfl rfl) | (exact XSame.mk (by first | rfl | (simp only [List.map_append, List.length_append, List.length_map]; done) | (simp only [List.map_append, List.length_append, List.length_map]; rfl)) (by first | rfl | (simp only [List.map_append]; done) | (simp only [List.map_append]; rfl))) | (with_reducible exact trivial) | ((first | (with_reducible refine xdrop_app (by rw [List.length_map]; omega) ?_) | (with_reducible refine XDrop.desk (by assumption) ?_) | (with_reducible first | refine XArr.ints (by omega) (by omega) (by omega) ?_ | refine XArr.intsA (by omega) (by omega) (by omega) ?_) | ((with_reducible first | refine XArr.nats ?_ ?_ ?_ | refine XArr.natsA ?_ ?_ ?_ | refine XArr.ptr ?_ ?_ ?_); omega; omega)); conv => whnf) | ((with_reducible apply XBr.mk') <;> (intro h; conv => whnf))
    exact ⟨Froz.low rfl⟩
end GA
end
