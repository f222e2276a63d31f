/- Part 7 of a proof: F42, Abs41, F43, F44, F45. -/
import Derived.Test.YtmeankpoalkloaaGreatP6
section
namespace GA
open Go Go.RowKit Go.Proofs
set_option pp.deepTerms true
set_option maxRecDepth 8000
set_option linter.unusedVariables false
set_option linter.unusedSimpArgs false

structure RInv (s : Sn) (M p l : Nat) (W : T3 Int) : Prop where
  a : ∀ y, vld s y → W y.p y.m y.l = -1 ∨ W y.p y.m y.l = worthZ s y
  b : ∀ y, vld s y → (M ≤ y.m ∨ (y.m + 1 = M ∧ (y.p < p ∨ (y.p = p ∧ y.l < l)))) → W y.p y.m y.l = worthZ s y
def RAll (s : Sn) (W : T3 Int) : Prop := ∀ y, vld s y → W y.p y.m y.l = worthZ s y
theorem RInv.set {s : Sn} {m p l : Nat} {W : T3 Int} (h : RInv s (m + 1) p l W) (hv : vld s ⟨p, m, l⟩) : RInv s (m + 1) p (l + 1) (upd3 W p m l (worthZ s ⟨p, m, l⟩)) := by
  refine ⟨fun y hy => ?_, fun y hy hd => ?_⟩
  · by_cases e : y.p = p ∧ y.m = m ∧ y.l = l
    · obtain ⟨rfl, rfl, rfl⟩ := e
      rw [upd3_at]; exact .inr rfl
    · rw [upd3_ne _ _ e]; exact h.a y hy
  · by_cases e : y.p = p ∧ y.m = m ∧ y.l = l
    · obtain ⟨rfl, rfl, rfl⟩ := e
      rw [upd3_at]
    · rw [upd3_ne _ _ e]; exact h.b y hy (by omega)
theorem RInv.same {s : Sn} {m p l : Nat} {W : T3 Int} (h : RInv s (m + 1) p l W) (hw : W p m l = worthZ s ⟨p, m, l⟩) : RInv s (m + 1) p (l + 1) W := by
  refine ⟨h.a, fun y hy hd => ?_⟩
  by_cases e : y.p = p ∧ y.m = m ∧ y.l = l
  · obtain ⟨rfl, rfl, rfl⟩ := e; exact hw
  · exact h.b y hy (by omega)
theorem RInv.row {s : Sn} {m p : Nat} {W : T3 Int} (h : RInv s (m + 1) p (allN s + 1) W) : RInv s (m + 1) (p + 1) 0 W :=
  ⟨h.a, fun y hy hd => h.b y hy (by have := hy.2.2; omega)⟩
theorem RInv.minute {s : Sn} {m p : Nat} {W : T3 Int} (hp : (p : Int) = s.places) (h : RInv s (m + 1) p 0 W) : RInv s m 0 0 W :=
  ⟨h.a, fun y hy hd => h.b y hy (by have := hy.1; omega)⟩
theorem RInv.fin {s : Sn} {W : T3 Int} (h : RInv s 0 0 0 W) : RAll s W := fun y hy => h.b y hy (.inl (Nat.zero_le _))
theorem RInv.again {s : Sn} {M : Nat} {W : T3 Int} (hM : (M : Int) = s.last + 1) (h : RInv s 0 0 0 W) : RInv s M 0 0 W := ⟨h.a, fun y hy _ => h.fin y hy⟩
theorem RInv.bound {s : Sn} (ok : SnOk s) {m p l : Nat} {W : T3 Int} (h : RInv s (m + 1) p l W) (hv : vld s ⟨p, m, l⟩) (f : Sta → Int) (hf : ∀ y, vld s y → f y = W y.p y.m y.l) : bestZ s f ⟨p, m, l⟩ = worthZ s ⟨p, m, l⟩ := by
  rw [worthZ_eq ok hv.2.1]
  refine bestZ_congr fun t _ y hy => ?_
  have hvy := afterS_vld ok hy
  have := (afterS_later ok hy).1
  rw [hf y hvy]
  exact h.b y hvy (.inl (by dsimp only at this; omega))
theorem worthT_ok {s : Sn} {P M N : Nat} {W : T3 Int} (hP : (P : Int) = s.places) (hM : (M : Int) = s.last + 1) (hN : N = allN s + 1) (hL : s.last ≤ 59) (h : ∀ y, vld s y → W y.p y.m y.l = -1 ∨ W y.p y.m y.l = worthZ s y) : TbOk s (mkT P M N W) := by
  refine mkT_ok hP hM hN fun p m l hp hm hl => ?_
  have hv : vld s ⟨p, m, l⟩ := ⟨by show (p : Int) < s.places; omega, by show (m : Int) ≤ s.last; omega, by show l ≤ allN s; omega⟩
  have h1 := worthZ_ge s ⟨p, m, l⟩
  have h2 := worthZ_le s ⟨p, m, l⟩ hv.2.1
  have h2' : worthZ s ⟨p, m, l⟩ ≤ s.last + 1 - m := h2
  rcases h _ hv with h | h <;> dsimp only at h <;> omega
def wrT (s : Sn) : List Rs := mkT s.places.toNat (s.last + 1).toNat (allN s + 1) fun p m l => worthZ s ⟨p, m, l⟩
theorem wrT_ok {s : Sn} (ok : SnOk s) (hL : s.last ≤ 59) : TbOk s (wrT s) := by
  have := ok.p1; have := ok.l1
  exact worthT_ok (by omega) (by omega) rfl hL fun y _ => .inr rfl
theorem wrT_at {s : Sn} (ok : SnOk s) {y : Sta} (hv : vld s y) : tbN (wrT s) y = worthZ s y := by
  have := hv.1; have := hv.2.1; have := hv.2.2
  exact mkT_at (by omega) (by omega) (by omega)
set_option maxHeartbeats 4000000 in
theorem rMade_c (s : Sn) (hb : SnB s) (ok : SnOk s) (hL59 : s.last ≤ 59) : Comp Tryz.prog 40 [rsA s] (.sl false ((wrT s).map rsT)) := by
  have p1 := ok.p1; have p2 := ok.p2; have l1 := ok.l1
  have hal := allN_lt ok
  have hac := rAll_c s (by have := ok.t2; omega)
  obtain ⟨P0, hP0⟩ : ∃ P0 : Nat, s.places = P0 := ⟨s.places.toNat, by omega⟩
  obtain ⟨L0, hL0⟩ : ∃ L0 : Nat, s.last = L0 := ⟨s.last.toNat, by omega⟩
  obtain ⟨N0, hN0⟩ : ∃ N0 : Nat, N0 = allN s + 1 := ⟨_, rfl⟩
  have hNt : (((allN s : Nat) : Int) + 1).toNat = N0 := by omega
  have hrep : List.replicate (((allN s : Nat) : Int) + 1).toNat (AV.int .i64 0) = zvs N0 fun k => if k < 0 then -1 else 0 := by
    rw [hNt, zvs0]; unfold zvs; rw [vecF_congr fun i _ => (if_neg (Nat.not_lt_zero i)).symm]
  refine Comp.body (T := tab) (res := [.tmp 2]) tab_ok [] Tryz.func40 rfl (by kernel_rfl) Tryz.ntmps40 rfl (by simp only [List.length_cons, List.length_nil]; decide) (by simp only [lowL, AV.low, rsL]; rfl) ?_; conv => whnf
  skip
  refine Walk.nilgr 3 23 rfl ?_
  refine Walk.loopK tab_ok [] [(1, _), (2, _)] ⟨rfl, rfl, trivial⟩ (fun p : Nat => p ≤ P0) (fun p => [(3, .gr 0 p), (4, natA p)]) (fun p => vecF (rowI (L0 + 1) p) (memB (L0 + 1) N0 p 0 fun _ _ _ => -1)) (fun p => P0 - p) 0 (Nat.zero_le _) (bld_init _ _ _) ⟨rfl, rfl, trivial⟩ ?_
  intro p hp
  obtain ⟨H, hH⟩ : ∃ H, H = vecF (rowI (L0 + 1) p) (memB (L0 + 1) N0 p 0 fun _ _ _ => -1) := ⟨_, rfl⟩
  refine XRun.heap H hH ?_
  conv => whnf
  by_cases hlt : p < P0
  · skip
    repeat' first | ((with_reducible apply XBr.dec) <;> (intro h; first | (exfalso; omega) | ((try simp only [List.length_map] at h); first | (exfalso; omega) | (conv => whnf)))) | fail
    refine Walk.nilgr 5 68 rfl ?_
    refine Walk.loopK tab_ok [] [(1, _), (2, _), (3, _), (4, _)] ⟨rfl, rfl, rfl, rfl, trivial⟩ (fun m : Nat => m ≤ L0 + 1) (fun m => [(5, .gr (rowI (L0 + 1) p) m), (6, natA m)]) (fun m => bldW (L0 + 1) N0 p m fun _ _ _ => -1) (fun m => L0 + 1 - m) 0 (Nat.zero_le _) (by rw [hH]; exact (bld_row _ _ _ _).symm) ⟨(by rw [hH]; show some (AV.gr (vecF _ _).length 0) = _; rw [vecF_len]), rfl, trivial⟩ ?_
    intro m hm
    obtain ⟨H1, hH1⟩ : ∃ H1, H1 = bldW (L0 + 1) N0 p m fun _ _ _ => -1 := ⟨_, rfl⟩
    have hl1 : H1.length = celI (L0 + 1) p m := by rw [hH1]; exact bld_len _ _ _ _ _
    have h1t : lget H1 0 = some (.grow 23 (decide (p = 0)) (vecF p fun p => .gr (rowI (L0 + 1) p) (L0 + 1))) := by rw [hH1]; exact bld_t _ _ _ _ _
    have h1r : lget H1 (rowI (L0 + 1) p) = some (.grow 68 (decide (p = p ∧ m = 0)) (vecF m fun m => .gr (celI (L0 + 1) p m) N0)) := by rw [hH1]; exact bld_r _ _ _ _ _
    have hrl : rowI (L0 + 1) p < H1.length := by rw [hl1]; unfold celI; omega
    refine XRun.heap H1 hH1 ?_
    conv => whnf
    by_cases hlt2 : m < L0 + 1
    · skip
      repeat' first | ((with_reducible apply XBr.dec) <;> (intro h; first | (exfalso; omega) | ((try simp only [List.length_map] at h); first | (exfalso; omega) | (conv => whnf)))) | ((with_reducible refine XInt.i64 (by omega) (by omega) ?_); conv => whnf) | ((with_reducible refine XHold.mk ?_ ?_); (first | omega | rfl | decide | exact ⟨rfl, by decide, rfl⟩ | exact wideI _ | exact widePr _ | exact wideSk _ | (unfold Room; constructor <;> ((try simp) <;> omega)) | exact ⟨rfl, by simp only [List.length_map], by unfold Room; constructor <;> ((try simp) <;> omega)⟩ | exact ⟨by omega, by omega, by unfold Room; constructor <;> ((try simp) <;> omega)⟩); conv => whnf) | ((refine XCall.ret hac ?_); conv => whnf) | fail
      refine hpush_to (celI (L0 + 1) p m) (H1 ++ [Blk.grow 3 false (zvs N0 fun k => if k < 0 then -1 else 0)]) (by rw [Nat.zero_add]; exact hl1) (by rw [hrep]) ?_
      conv => whnf
      skip
      refine Walk.loopK tab_ok [] [(1, _), (2, _), (3, _), (4, _), (5, _), (6, _), (7, .gr (celI (L0 + 1) p m) N0)] ⟨rfl, rfl, rfl, rfl, rfl, rfl, (by show some (AV.gr _ _) = some (AV.gr _ _); rw [hNt]), trivial⟩ (fun l : Nat => l ≤ N0) (fun l => [(8, natA l)]) (fun l => H1 ++ [Blk.grow 3 false (zvs N0 fun k => if k < l then -1 else 0)]) (fun l => N0 - l) 0 (Nat.zero_le _) rfl ⟨rfl, trivial⟩ ?_
      intro l hl
      have hzl : (zvs N0 fun k => if k < l then -1 else 0).length = N0 := zvs_len _ _
      have hzs : (zvs N0 fun k => if k < l then -1 else 0).set l (.int .i64 (-1)) = zvs N0 fun k => if k < l + 1 then -1 else 0 := by
        rw [zvs_set]
        unfold zvs
        congr 1
        refine vecF_congr fun k _ => ?_
        unfold updV
        show (if k = l then (-1 : Int) else if k < l then -1 else 0) = if k < l + 1 then -1 else 0
        by_cases e : k = l
        · rw [if_pos e, if_pos (by omega)]
        · rw [if_neg e]
          by_cases e2 : k < l
          · rw [if_pos e2, if_pos (by omega)]
          · rw [if_neg e2, if_neg (by omega)]
      have hze : l = N0 → (zvs N0 fun k => if k < l then -1 else 0) = zvs N0 fun _ => -1 := fun h => by
        unfold zvs
        congr 1
        exact vecF_congr fun k hk => if_pos (by omega)
      generalize (zvs N0 fun k => if k < l then -1 else 0) = zs at hzl hzs hze
      obtain ⟨H2, hH2⟩ : ∃ H2, H2 = H1 ++ [Blk.grow 3 false zs] := ⟨_, rfl⟩
      have h2c : lget H2 (celI (L0 + 1) p m) = some (.grow 3 false zs) := by rw [hH2]; exact lget_push hl1.symm
      have h2r : lget H2 (rowI (L0 + 1) p) = some (.grow 68 (decide (p = p ∧ m = 0)) (vecF m fun m => .gr (celI (L0 + 1) p m) N0)) := by rw [hH2, lget_eq, List.getElem?_append_left hrl, ← lget_eq]; exact h1r
      have h2l : H2.length = celI (L0 + 1) p m + 1 := by rw [hH2, List.length_append, hl1]; rfl
      refine XRun.heap H2 hH2 ?_
      conv => whnf
      by_cases hlt3 : l < N0
      · skip
        repeat' first | ((with_reducible apply XBr.dec) <;> (intro h; first | (exfalso; omega) | ((try simp only [List.length_map] at h); first | (exfalso; omega) | (conv => whnf)))) | ((with_reducible refine XHold.mk ?_ ?_); (first | omega | rfl | decide | exact ⟨rfl, by decide, rfl⟩ | exact wideI _ | exact widePr _ | exact wideSk _ | (unfold Room; constructor <;> ((try simp) <;> omega)) | exact ⟨rfl, by simp only [List.length_map], by unfold Room; constructor <;> ((try simp) <;> omega)⟩ | exact ⟨by omega, by omega, by unfold Room; constructor <;> ((try simp) <;> omega)⟩); conv => whnf) | (rw [h2c]; conv => whnf) | ((first | (refine XHold.mk ⟨hzl, rfl, by omega, by omega⟩ ?_) | (refine XPut.to (zvs N0 fun k => if k < l + 1 then -1 else 0) hzl.symm hlt3 hzs ?_)); conv => whnf) | fail
        refine hset_to (H1 ++ [Blk.grow 3 false (zvs N0 fun k => if k < l + 1 then -1 else 0)]) (by omega) (by rw [hH2]; exact set_push hl1.symm) ?_
        conv => whnf
        repeat' first | ((with_reducible refine XInt.i64 (by omega) (by omega) ?_); conv => whnf) | fail
        exact XAgain.go (l + 1) (by omega) (by omega) rfl ⟨rfl, rfl, rfl, rfl, rfl, rfl, rfl, rfl, trivial⟩
      obtain rfl : l = N0 := by omega
      have hze := hze rfl
      repeat' first | ((with_reducible apply XBr.dec) <;> (intro h; first | (exfalso; omega) | ((try simp only [List.length_map] at h); first | (exfalso; omega) | (conv => whnf)))) | ((with_reducible refine XHold.mk ?_ ?_); (first | omega | rfl | decide | exact ⟨rfl, by decide, rfl⟩ | exact wideI _ | exact widePr _ | exact wideSk _ | (unfold Room; constructor <;> ((try simp) <;> omega)) | exact ⟨rfl, by simp only [List.length_map], by unfold Room; constructor <;> ((try simp) <;> omega)⟩ | exact ⟨by omega, by omega, by unfold Room; constructor <;> ((try simp) <;> omega)⟩); conv => whnf) | (rw [h2c]; conv => whnf) | (rw [h2r]; conv => whnf) | ((refine XHold.mk ⟨rfl, vecF_len _ _, by unfold Room; constructor <;> ((try simp) <;> omega)⟩ ?_); conv => whnf) | fail
      refine hset_to (bldW (L0 + 1) l p (m + 1) fun _ _ _ => -1) (by omega) ?_ ?_
      · rw [hH2, hH1, hze]
        show (_ : List Blk).set _ (.grow _ (_ && false) _) = _
        rw [Bool.and_false]; exact bld_app hlt2
      conv => whnf
      repeat' first | ((with_reducible refine XInt.i64 (by omega) (by omega) ?_); conv => whnf) | fail
      exact XAgain.go (m + 1) (by omega) (by omega) rfl ⟨rfl, rfl, rfl, rfl, rfl, rfl, trivial⟩
    obtain rfl : m = L0 + 1 := by omega
    repeat' first | ((with_reducible apply XBr.dec) <;> (intro h; first | (exfalso; omega) | ((try simp only [List.length_map] at h); first | (exfalso; omega) | (conv => whnf)))) | ((with_reducible refine XHold.mk ?_ ?_); (first | omega | rfl | decide | exact ⟨rfl, by decide, rfl⟩ | exact wideI _ | exact widePr _ | exact wideSk _ | (unfold Room; constructor <;> ((try simp) <;> omega)) | exact ⟨rfl, by simp only [List.length_map], by unfold Room; constructor <;> ((try simp) <;> omega)⟩ | exact ⟨by omega, by omega, by unfold Room; constructor <;> ((try simp) <;> omega)⟩); conv => whnf) | (rw [h1t]; conv => whnf) | ((refine XHold.mk ⟨rfl, vecF_len _ _, by unfold Room; constructor <;> ((try simp) <;> omega)⟩ ?_); conv => whnf) | fail
    refine hset_to (vecF (rowI (L0 + 1) (p + 1)) (memB (L0 + 1) N0 (p + 1) 0 fun _ _ _ => -1)) (by omega) ?_ ?_
    · rw [hH1]
      show (_ : List Blk).set _ (.grow _ (_ && false) _) = _
      rw [Bool.and_false]; exact bld_next (by omega)
    conv => whnf
    repeat' first | ((with_reducible refine XInt.i64 (by omega) (by omega) ?_); conv => whnf) | fail
    exact XAgain.go (p + 1) (by omega) (by omega) rfl ⟨rfl, rfl, rfl, rfl, trivial⟩
  obtain rfl : p = P0 := by omega
  repeat' first | ((with_reducible apply XBr.dec) <;> (intro h; first | (exfalso; omega) | ((try simp only [List.length_map] at h); first | (exfalso; omega) | (conv => whnf)))) | fail
  refine Walk.loopK tab_ok [] [(1, _), (2, _), (3, _)] ⟨rfl, rfl, rfl, trivial⟩ (fun g : Bool × T3 Int × Bool => RInv s (L0 + 1) 0 0 g.2.1 ∧ (g.1 = true → RAll s g.2.1) ∧ (g.2.2 = false → g.1 = true)) (fun g => [(9, .bool g.2.2)]) (fun g => memW (L0 + 1) N0 p g.2.1) (fun g => (if g.1 = true then 0 else 2) + if g.2.2 = true then 1 else 0) (false, (fun _ _ _ => -1), true) ⟨⟨fun _ _ => .inl rfl, fun y hy hd => by have := hy.2.1; omega⟩, by simp, by simp⟩ hH.symm ⟨rfl, trivial⟩ ?_
  rintro ⟨ph, W, r⟩ ⟨hI, hA, hr⟩
  dsimp only at hI hA hr ⊢
  obtain ⟨H1, hH1⟩ : ∃ H1, H1 = memW (L0 + 1) N0 p W := ⟨_, rfl⟩
  refine XRun.heap H1 hH1 ?_
  conv => whnf
  cases r with
  | false =>
    repeat' first | ((with_reducible apply XBr.ff); conv => whnf) | fail
    refine ⟨?_⟩
    have hall := hA (hr rfl)
    have e : wrT s = mkT p (L0 + 1) N0 W := by
      unfold wrT
      rw [show s.places.toNat = p by omega, show (s.last + 1).toNat = L0 + 1 by omega, ← hN0]
      exact mkT_congr fun q m l hq hm hl => (hall ⟨q, m, l⟩ ⟨by show (q : Int) < s.places; omega, by show (m : Int) ≤ s.last; omega, by show l ≤ allN s; omega⟩).symm
    rw [e, hH1]
    exact memW_froz W (by omega)
  | true =>
  repeat' first | ((with_reducible apply XBr.tt); conv => whnf) | fail
  refine Walk.loopK tab_ok [] [(1, _), (2, _), (3, _)] ⟨rfl, rfl, rfl, trivial⟩ (fun g : Nat × T3 Int × Bool => g.1 ≤ L0 + 1 ∧ RInv s g.1 0 0 g.2.1 ∧ (ph = true → RAll s g.2.1 ∧ g.2.2 = false)) (fun g => [(9, .bool g.2.2), (10, .int .i64 ((g.1 : Int) - 1))]) (fun g => memW (L0 + 1) N0 p g.2.1) (fun g => g.1) (L0 + 1, W, false) ⟨Nat.le_refl _, hI, fun h => ⟨hA h, rfl⟩⟩ hH1.symm ⟨rfl, (by show some (AV.int .i64 s.last) = some (AV.int .i64 (((L0 + 1 : Nat) : Int) - 1)); congr 2; omega), trivial⟩ ?_
  clear hI hA hr hH1
  rintro ⟨M, W, r⟩ ⟨hM, hI, hA⟩
  dsimp only at hM hI hA ⊢
  obtain ⟨H1, hH1⟩ : ∃ H1, H1 = memW (L0 + 1) N0 p W := ⟨_, rfl⟩
  refine XRun.heap H1 hH1 ?_
  conv => whnf
  cases M with
  | zero =>
    repeat' first | ((with_reducible apply XBr.dec) <;> (intro h; first | (exfalso; omega) | ((try simp only [List.length_map] at h); first | (exfalso; omega) | (conv => whnf)))) | fail
    refine XAgain.go (true, W, r) ⟨hI.again (by omega), fun _ => hI.fin, fun _ => rfl⟩ ?_ hH1.symm ⟨rfl, rfl, rfl, rfl, trivial⟩
    dsimp only
    cases ph with
    | true => obtain ⟨-, rfl⟩ := hA rfl; simp
    | false => cases r <;> simp
  | succ m =>
  repeat' first | ((with_reducible apply XBr.dec) <;> (intro h; first | (exfalso; omega) | ((try simp only [List.length_map] at h); first | (exfalso; omega) | (conv => whnf)))) | fail
  refine Walk.loopK tab_ok [] [(1, _), (2, _), (3, _), (10, natA m)] ⟨rfl, rfl, rfl, (by show some (AV.int .i64 (((m + 1 : Nat) : Int) - 1)) = some (AV.int .i64 (m : Int)); congr 2; omega), trivial⟩ (fun g : Nat × T3 Int × Bool => g.1 ≤ p ∧ RInv s (m + 1) g.1 0 g.2.1 ∧ (ph = true → RAll s g.2.1 ∧ g.2.2 = false)) (fun g => [(9, .bool g.2.2), (11, natA g.1)]) (fun g => memW (L0 + 1) N0 p g.2.1) (fun g => p - g.1) (0, W, r) ⟨Nat.zero_le _, hI, hA⟩ hH1.symm ⟨rfl, rfl, trivial⟩ ?_
  clear hI hA hH1
  rintro ⟨q, W, r⟩ ⟨hq, hI, hA⟩
  dsimp only at hq hI hA ⊢
  obtain ⟨H1, hH1⟩ : ∃ H1, H1 = memW (L0 + 1) N0 p W := ⟨_, rfl⟩
  refine XRun.heap H1 hH1 ?_
  conv => whnf
  by_cases hlt : q < p
  rotate_left
  · obtain rfl : q = p := by omega
    repeat' first | ((with_reducible apply XBr.dec) <;> (intro h; first | (exfalso; omega) | ((try simp only [List.length_map] at h); first | (exfalso; omega) | (conv => whnf)))) | ((with_reducible refine XInt.i64 (by omega) (by omega) ?_); conv => whnf) | fail
    exact XAgain.go (m, W, r) ⟨by dsimp only; omega, hI.minute (by omega), hA⟩ (by dsimp only; omega) hH1.symm ⟨rfl, rfl, rfl, rfl, rfl, trivial⟩
  repeat' first | ((with_reducible apply XBr.dec) <;> (intro h; first | (exfalso; omega) | ((try simp only [List.length_map] at h); first | (exfalso; omega) | (conv => whnf)))) | fail
  refine Walk.loopK tab_ok [] [(1, _), (2, _), (3, _), (10, _), (11, _)] ⟨rfl, rfl, rfl, rfl, rfl, trivial⟩ (fun g : Nat × T3 Int × Bool => g.1 ≤ N0 ∧ RInv s (m + 1) q g.1 g.2.1 ∧ (ph = true → RAll s g.2.1 ∧ g.2.2 = false)) (fun g => [(9, .bool g.2.2), (12, natA g.1)]) (fun g => memW (L0 + 1) N0 p g.2.1) (fun g => N0 - g.1) (0, W, r) ⟨Nat.zero_le _, hI, hA⟩ hH1.symm ⟨rfl, rfl, trivial⟩ ?_
  clear hI hA hH1
  rintro ⟨l, W, r⟩ ⟨hl, hI, hA⟩
  dsimp only at hl hI hA ⊢
  obtain ⟨H1, hH1⟩ : ∃ H1, H1 = memW (L0 + 1) N0 p W := ⟨_, rfl⟩
  refine XRun.heap H1 hH1 ?_
  conv => whnf
  by_cases hlt2 : l < N0
  rotate_left
  · obtain rfl : l = N0 := by omega
    repeat' first | ((with_reducible apply XBr.dec) <;> (intro h; first | (exfalso; omega) | ((try simp only [List.length_map] at h); first | (exfalso; omega) | (conv => whnf)))) | ((first | (with_reducible refine XInt.i64 (by omega) (by omega) ?_) | (refine XCall.ret hac ?_)); conv => whnf) | fail
    exact XAgain.go (q + 1, W, r) ⟨by dsimp only; omega, RInv.row (by rw [← hN0]; exact hI), hA⟩ (by dsimp only; omega) hH1.symm ⟨rfl, rfl, rfl, rfl, rfl, rfl, trivial⟩
  have hv : vld s ⟨q, m, l⟩ := ⟨by show (q : Int) < s.places; omega, by show (m : Int) ≤ s.last; omega, by show l ≤ allN s; omega⟩
  have hT : TbOk s (mkT p (L0 + 1) N0 W) := worthT_ok (by omega) (by omega) hN0 hL59 hI.a
  have hbo := rBound_c s hb ok false _ hT ⟨q, m, l⟩ ⟨hv.1, hv.2.1, by show l ≤ 1000; omega⟩ hv.2.2
  rw [hI.bound ok hv (tbN (mkT p (L0 + 1) N0 W)) (fun y hy => mkT_at (by have := hy.1; omega) (by have := hy.2.1; omega) (by have := hy.2.2; omega))] at hbo
  have hfl : FrozL Tryz.prog H1 [rsA s, .gr 0 p, staA ⟨q, m, l⟩] [rsA s, .sl false ((mkT p (L0 + 1) N0 W).map rsT), staA ⟨q, m, l⟩] :=
    .cons (.low (rsL s)) (.cons (by rw [hH1]; exact memW_froz W (by omega)) (.cons (.low rfl) .nil))
  have h0 : lget H1 0 = some (.grow 23 false (vecF p fun p => .gr (rowI (L0 + 1) p) (L0 + 1))) := by rw [hH1]; exact memW_t (by omega)
  have h1 : lget H1 (rowI (L0 + 1) q) = some (.grow 68 false (vecF (L0 + 1) fun m => .gr (celI (L0 + 1) q m) N0)) := by rw [hH1]; exact memW_r hlt
  have h2 : lget H1 (celI (L0 + 1) q m) = some (.grow 3 false (zvs N0 fun l => W q m l)) := by rw [hH1]; exact memW_c hlt (by omega)
  have hlen : celI (L0 + 1) q m < H1.length := by rw [hH1, memW_len]; exact celI_lt hlt (by omega)
  have hset : H1.set (celI (L0 + 1) q m) (.grow 3 false (zvs N0 (updV (fun l => W q m l) l (worthZ s ⟨q, m, l⟩)))) = memW (L0 + 1) N0 p (upd3 W q m l (worthZ s ⟨q, m, l⟩)) := by rw [hH1]; exact memW_set hlt (by omega)
  have hIs := hI.set hv
  have hIa := hI.a _ hv
  have hge := worthZ_ge s ⟨q, m, l⟩
  have hIm := hI.same (p := q) (l := l)
  have hAl : ph = true → W q m l = worthZ s ⟨q, m, l⟩ := fun h => (hA h).1 _ hv
  dsimp only at hIa
  generalize worthZ s ⟨q, m, l⟩ = wz at hbo hset hIs hIa hge hIm hAl
  have hm' : m < L0 + 1 := by omega
  by_cases hgt : W q m l < wz
  · skip
    repeat' first | ((with_reducible apply XBr.dec) <;> (intro h; first | (exfalso; omega) | ((try simp only [List.length_map] at h); first | (exfalso; omega) | (conv => whnf)))) | ((first | (with_reducible refine XInt.i64 (by omega) (by omega) ?_) | (refine XCall.ret hac ?_) | (refine XCall.lend hbo hfl rfl ?_)); conv => whnf) | (rw [h0]; conv => whnf) | (rw [h1]; conv => whnf) | (rw [h2]; conv => whnf) | ((first | (refine XHold.mk ⟨vecF_len _ _, rfl, by omega, by omega⟩ ?_) | (refine XHold.mk ⟨zvs_len _ _, rfl, by omega, by omega⟩ ?_) | (refine XGet.to (.gr (rowI (L0 + 1) q) (L0 + 1)) (vecF_len _ _).symm hlt (vecF_get _ hlt) ?_) | (refine XGet.to (.gr (celI (L0 + 1) q m) N0) (vecF_len _ _).symm hm' (vecF_get _ hm') ?_) | (refine XGet.to (.int .i64 (W q m l)) (zvs_len _ _).symm hlt2 (zvs_at hlt2) ?_) | (refine XPut.to _ (zvs_len _ _).symm hlt2 (zvs_set _ _ _ _) ?_) | (refine hset_to _ hlen hset ?_)); conv => whnf) | fail
    refine XAgain.go (l + 1, upd3 W q m l wz, true) ⟨by dsimp only; omega, hIs, fun h => ?_⟩ (by dsimp only; omega) rfl ⟨rfl, rfl, rfl, rfl, rfl, rfl, rfl, trivial⟩
    have := hAl h
    omega
  · have hw : W q m l = wz := by omega
    repeat' first | ((with_reducible apply XBr.dec) <;> (intro h; first | (exfalso; omega) | ((try simp only [List.length_map] at h); first | (exfalso; omega) | (conv => whnf)))) | ((first | (with_reducible refine XInt.i64 (by omega) (by omega) ?_) | (refine XCall.ret hac ?_) | (refine XCall.lend hbo hfl rfl ?_)); conv => whnf) | (rw [h0]; conv => whnf) | (rw [h1]; conv => whnf) | (rw [h2]; conv => whnf) | ((first | (refine XHold.mk ⟨vecF_len _ _, rfl, by omega, by omega⟩ ?_) | (refine XHold.mk ⟨zvs_len _ _, rfl, by omega, by omega⟩ ?_) | (refine XGet.to (.gr (rowI (L0 + 1) q) (L0 + 1)) (vecF_len _ _).symm hlt (vecF_get _ hlt) ?_) | (refine XGet.to (.gr (celI (L0 + 1) q m) N0) (vecF_len _ _).symm hm' (vecF_get _ hm') ?_) | (refine XGet.to (.int .i64 (W q m l)) (zvs_len _ _).symm hlt2 (zvs_at hlt2) ?_)); conv => whnf) | fail
    exact XAgain.go (l + 1, W, r) ⟨by dsimp only; omega, hIm hw, hA⟩ (by dsimp only; omega) hH1.symm ⟨rfl, rfl, rfl, rfl, rfl, rfl, rfl, trivial⟩
end GA
end

section
namespace GA
open Go Go.RowKit
set_option linter.unusedVariables false
section
variable {P : Program} {N : Nat} {ρ : Option Nat} {H : List Blk} {σ : St} {D : List Nat}

theorem XDo.freezeRow {K : St → List Blk → Prop} (j e i n : Nat) {t t' : TypeId} {nl nl' : Bool} {els ys : List AV} (hj : lget H j = some (.grow t nl els)) (hone : ∀ x ∈ els, x.one = true) (he : els[e]? = some (.gr i n)) (hi : lget H i = some (.grow t' nl' ys)) (hij : i ≠ j) (hn : ys.length = n)
    (x : XDo P N D σ ((H.set i .dead).set j (.grow t nl (els.set e (.sl nl' ys)))) K) : XDo P N D σ H K := by
  constructor
  intro E h β a w s
  rw [lget_eq] at hi hj
  obtain ⟨h', s1, X1, hfz⟩ := s.sr.freeze hi
  have hj1 : (H.set i .dead)[j]? = some (.grow t nl els) := by rw [List.getElem?_set_ne hij]; exact hj
  have hlt := (List.getElem?_eq_some_iff.1 he).1
  have hone' : ∀ x ∈ els.set e (.sl nl' ys), x.one = true := fun x hx => by
    rcases List.mem_or_eq_of_mem_set hx with hx | rfl
    · exact hone x hx
    · rfl
  obtain ⟨s2, X2⟩ := s1.modify (β' := β) (w' := w) (x' := .grow t nl (els.set e (.sl nl' ys))) hj1 (fun _ _ => rfl) (.inr ⟨_, _, rfl, by rw [List.length_set]; exact Nat.le_refl _, fun _ => rfl⟩) s1.env (fun _ _ _ => rfl) (fun b e => .inl (by unfold blkOf; rw [hj1]; exact e)) (fun X => by
    rcases s.sr.blk j _ hj with ⟨_, h0, _⟩ | ⟨_, h0, _⟩ | ⟨h0, b, cap, c, h1, h2, h3, h4, h5, h6, h7, h8, h9, us, h10, h11⟩
    · subst h0; simp at hlt
    · subst h0; simp at hlt
    · refine .inr (.inr ⟨h0, b, cap, c, by rw [List.length_set]; exact h1, h2, h3, by rw [List.length_set]; exact h4, h5, h6, h7, fun y hy => ?_, fun y hy => ?_, us, fun k y ek => ?_, fun k y ek => ?_⟩)
      · rw [cells_one (hone' y hy)]
        have := h8 _ (List.mem_of_getElem? he)
        exact this
      · rw [flat_one hone'] at hy; exact hone' y hy
      · rw [flat_one hone'] at ek
        rw [flat_one hone] at h10
        by_cases hke : e = k
        · subst hke; exact h10 e _ he
        · rw [List.getElem?_set_ne hke] at ek; exact h10 k y ek
      · rw [flat_one hone'] at ek
        rw [flat_one hone] at h11
        by_cases hke : e = k
        · subst hke
          rw [List.getElem?_set_self hlt] at ek; cases ek
          exact gr_frz s.sr hi hn (h11 e _ he) (X1.trans X) hfz
        · rw [List.getElem?_set_ne hke] at ek; exact (X1.trans X).rep (h11 k y ek))
  obtain ⟨σ2, H2, h2, β2, q2, X3, s3⟩ := x.o E h' β a w ⟨s2, fun u r e => let ⟨v, h1, h2⟩ := s.fits u r e; ⟨v, h1, (X1.trans X2).rep h2⟩, s.size, s.df.ext (X1.trans X2)⟩
  exact ⟨σ2, H2, h2, β2, q2, (X1.trans X2).trans X3, s3⟩
end
end GA
end

section
namespace GA
open Go Go.RowKit Go.Proofs
set_option pp.deepTerms true
set_option maxRecDepth 8000
set_option linter.unusedVariables false
set_option linter.unusedSimpArgs false

theorem st_vld {s : Sn} {p m l : Int} (h : sttE s p m l = 0) : vld s (stN p m l) := by
  obtain ⟨ok, h1, h2, h3, h4⟩ := sttE_iff.1 h
  exact ⟨by show ((p.toNat : Nat) : Int) < s.places; omega, by show ((m.toNat : Nat) : Int) ≤ s.last; omega, by show l.toNat ≤ allN s; omega⟩
theorem fWorth_no (s : Sn) (hb : SnB s) (p m l : Int) (h : sttE s p m l ≠ 0) : Comp Tryz.prog 38 [snA s, xA p m l] (.tup [.int .i64 0, .int .i64 (sttE s p m l)]) := by
  have hs := stated_no s hb p m l h
  generalize sttE s p m l = e at h hs
  refine Comp.body (T := tab) (res := [.tmp 4, .tmp 5]) tab_ok [] Tryz.func38 rfl (by kernel_rfl) Tryz.ntmps38 rfl (by simp only [List.length_cons, List.length_nil]; decide) (by simp only [lowL, snL, xL]; rfl) ?_; conv => whnf
  repeat' first | ((with_reducible apply XBr.bne) <;> (intro h; first | (exfalso; omega) | (conv => whnf))) | ((refine XCall.ret hs ?_); conv => whnf) | fail
  exact ⟨.low rfl⟩
theorem fWorth_ok (s : Sn) (hb : SnB s) (p m l : Int) (h : sttE s p m l = 0) : Comp Tryz.prog 38 [snA s, xA p m l] (.tup [.int .i64 (worthZ s (stN p m l)), .int .i64 0]) := by
  have hs := stated_ok s hb p m l h
  obtain ⟨ok, h1, h2, h3, h4⟩ := sttE_iff.1 h
  have hx := xA_st h1.1 h2.1 (show 0 ≤ l by omega)
  have hw := worths_c s ok
  have hc := wof_c s ok (stN p m l) (st_vld h)
  rw [← hx] at hc
  refine Comp.body (T := tab) (res := [.tmp 4, .tmp 5]) tab_ok [] Tryz.func38 rfl (by kernel_rfl) Tryz.ntmps38 rfl (by simp only [List.length_cons, List.length_nil]; decide) (by simp only [lowL, snL, xL]; rfl) ?_; conv => whnf
  repeat' first | ((with_reducible apply XBr.bne) <;> (intro h; first | (exfalso; omega) | (conv => whnf))) | (with_reducible apply XAnd.mk) | ((first | (with_reducible apply Chk.go) | (with_reducible apply ChkA.go) | (with_reducible apply ChkF.go) | (with_reducible apply ChkB.go)); conv => whnf) | (exact XSame.mk rfl rfl) | (with_reducible exact trivial) | (apply Walk.drawN (id := 4) tab_ok mixed_ok [] [] (hsU _) [_, _, _, _, _, _] (by kernel_rfl) rfl) | ((first | (with_reducible apply XNext.mk) | (refine XCall.ret hs ?_) | (refine XCall.ret hw ?_) | (refine XCall.ret hc ?_)); conv => whnf) | fail
  exact ⟨.low rfl⟩
theorem clone_zi (xs : List Int) (hx : xs.length ≤ 100000) : Comp Tryz.prog 96 [.sl false (ints xs)] (.sl false (ints xs)) := by
  have e1 : ((ints xs).length : Int) = xs.length := by rw [ints_len]
  refine Comp.body (T := tab) (res := [.tmp 2]) tab_ok [5] Tryz.func96 rfl (by kernel_rfl) Tryz.ntmps96 rfl (by simp only [List.length_cons, List.length_nil]; decide) (by simp only [lowL, AV.low, lowI]; rfl) ?_; conv => whnf
  repeat' first | ((with_reducible apply XBr.ff); conv => whnf) | ((with_reducible refine XHold.mk ?_ ?_); (first | omega | rfl | decide | exact ⟨rfl, by decide, rfl⟩ | exact wideI _ | exact widePr _ | exact wideSk _ | (unfold Room; constructor <;> ((try simp) <;> omega)) | exact ⟨rfl, by simp only [List.length_map], by unfold Room; constructor <;> ((try simp) <;> omega)⟩ | exact ⟨by omega, by omega, by unfold Room; constructor <;> ((try simp) <;> omega)⟩); conv => whnf) | fail
  exact ⟨Froz.grow rfl (by simp) (lowI xs)⟩
theorem wTab_row {s : Sn} (ok : SnOk s) {p m : Nat} (hp : (p : Int) < s.places) (hm : (m : Int) ≤ s.last) : ((wTab s).drop (976 * p + 16 * m)).take (allN s + 1) = zvs (allN s + 1) fun l => worthZ s ⟨p, m, l⟩ := by
  have hal := allN_lt ok; have p2 := ok.p2; have l2 := ok.l2
  apply List.ext_getElem?
  intro l
  rw [List.getElem?_take]
  by_cases h : l < allN s + 1
  · rw [if_pos h, List.getElem?_drop, wTab_at s ok ⟨hp, hm, by show l ≤ allN s; omega⟩]
    unfold zvs
    rw [List.getElem?_map, vecF_get?, if_pos h]; rfl
  · rw [if_neg h, List.getElem?_eq_none (by rw [zvs_len]; omega)]
def wrR (s : Sn) (p m : Nat) : AV := rwA (false, vecF (allN s + 1) fun l => worthZ s ⟨p, m, l⟩)
def wrP (s : Sn) (M p : Nat) : AV := .sl false (vecF M (wrR s p))
def wrE (s : Sn) (M p q : Nat) : AV := if q < p then wrP s M q else .sl true []
theorem wrE_one (s : Sn) (M p : Nat) (P : Nat) : ∀ x ∈ vecF P (wrE s M p), x.one = true := fun x hx => by
  obtain ⟨q, -, rfl⟩ := vecF_mem.1 hx
  unfold wrE; split <;> rfl
theorem wrR_low {n : Nat} (s : Sn) (p m : Nat) : (wrR s p m).low n = true := rwL _
theorem wrP_low {n : Nat} (s : Sn) (M p : Nat) : (wrP s M p).low n = true := by
  show lowL n (vecF M (wrR s p)) = true
  rw [lowL_iff]; intro x hx
  obtain ⟨q, -, rfl⟩ := vecF_mem.1 hx
  exact wrR_low s p q
theorem wrE_low {n : Nat} (s : Sn) (M p P : Nat) : lowL n (vecF P (wrE s M p)) = true := by
  rw [lowL_iff]; intro x hx
  obtain ⟨q, -, rfl⟩ := vecF_mem.1 hx
  unfold wrE; split
  · exact wrP_low s M q
  · rfl
theorem wrE_at {s : Sn} {M p P : Nat} (h : p < P) : (vecF P (wrE s M p))[p]? = some (.sl true []) := by
  rw [vecF_get?, if_pos h]; unfold wrE; rw [if_neg (by omega)]
theorem wrE_next {s : Sn} {M p P : Nat} (h : p < P) : (vecF P (wrE s M p)).set p (wrP s M p) = vecF P (wrE s M (p + 1)) := by
  rw [vecF_set]
  refine vecF_congr fun q hq => ?_
  unfold updV wrE
  by_cases e : q = p
  · rw [if_pos e, e, if_pos (by omega)]
  · rw [if_neg e]
    by_cases e2 : q < p
    · rw [if_pos e2, if_pos (by omega)]
    · rw [if_neg e2, if_neg (by omega)]
theorem wrE_0 (s : Sn) (M P : Nat) : vecF P (wrE s M 0) = List.replicate P (.sl true []) := by
  rw [← vecF_replicate]
  refine vecF_congr fun q _ => ?_
  unfold wrE; rw [if_neg (by omega)]
theorem wrE_all (s : Sn) (M P : Nat) (hM : M = (s.last + 1).toNat) (hP : P = s.places.toNat) : vecF P (wrE s M P) = (wrT s).map rsT := by
  unfold wrT mkT
  rw [vecF_map, ← hM, ← hP]
  refine vecF_congr fun p hp => ?_
  unfold wrE
  rw [if_pos hp]
  show AV.sl false _ = AV.sl false _
  rw [vecF_map]; rfl
theorem XCall.as {P : Program} {f : FuncId} {rs rs' : List AV} {H : List Blk} {k : AV → List Blk → Prop} (e : rs' = rs) (x : XCall P f rs' H k) : XCall P f rs H k := e ▸ x
theorem fMade_no (s : Sn) (hb : SnB s) (h : snE s ≠ 0) : Comp Tryz.prog 37 [snA s] (.tup [.sl true [], .int .i64 (snE s)]) := by
  have hs := fdOpenedE_c s hb h
  generalize snE s = e at h hs
  refine Comp.body (T := tab) (res := [.tmp 2, .tmp 3]) tab_ok [] Tryz.func37 rfl (by kernel_rfl) Tryz.ntmps37 rfl (by simp only [List.length_cons, List.length_nil]; decide) (by simp only [lowL, snL]; rfl) ?_; conv => whnf
  repeat' first | ((with_reducible apply XBr.bne) <;> (intro h; first | (exfalso; omega) | (conv => whnf))) | ((refine XCall.ret hs ?_); conv => whnf) | fail
  exact ⟨.low rfl⟩
theorem fMade_ok (s : Sn) (hb : SnB s) (ok : SnOk s) : Comp Tryz.prog 37 [snA s] (.tup [.sl false ((wrT s).map rsT), .int .i64 0]) := by
  have p1 := ok.p1; have p2 := ok.p2; have l1 := ok.l1; have l2 := ok.l2
  have hal := allN_lt ok
  have ho := fdOpened_c s hb ok
  have hw := worths_c s ok
  have hac := fall_c s ok
  obtain ⟨P0, hP0⟩ : ∃ P0 : Nat, s.places = P0 := ⟨s.places.toNat, by omega⟩
  obtain ⟨L0, hL0⟩ : ∃ L0 : Nat, s.last = L0 := ⟨s.last.toNat, by omega⟩
  refine Comp.body (T := tab) (res := [.tmp 2, .tmp 3]) tab_ok [] Tryz.func37 rfl (by kernel_rfl) Tryz.ntmps37 rfl (by simp only [List.length_cons, List.length_nil]; decide) (by simp only [lowL, snL]; rfl) ?_; conv => whnf
  repeat' first | ((with_reducible apply XBr.bne) <;> (intro h; first | (exfalso; omega) | (conv => whnf))) | ((with_reducible refine XHold.mk ?_ ?_); (first | omega | rfl | decide | exact ⟨rfl, by decide, rfl⟩ | exact wideI _ | exact widePr _ | exact wideSk _ | (unfold Room; constructor <;> ((try simp) <;> omega)) | exact ⟨rfl, by simp only [List.length_map], by unfold Room; constructor <;> ((try simp) <;> omega)⟩ | exact ⟨by omega, by omega, by unfold Room; constructor <;> ((try simp) <;> omega)⟩); conv => whnf) | ((first | (refine XCall.ret ho ?_) | (refine XCall.ret hw ?_) | (refine XHold.mk List.length_replicate ?_)); conv => whnf) | fail
  refine Walk.loopGK tab_ok [] [(1, _), (2, _), (3, _), (4, _), (6, _), (24, _)] ⟨rfl, rfl, rfl, rfl, rfl, rfl, trivial⟩ (fun p : Nat => p ≤ P0) (fun p => [(7, .gr 0 P0), (25, natA p)]) (fun p => [.grow 23 false (vecF P0 (wrE s (L0 + 1) p))]) (fun p => P0 - p) 0 (Nat.zero_le _) (by rw [wrE_0]; show [Blk.grow _ _ (List.replicate P0 _)] = [Blk.grow _ _ (List.replicate s.places.toNat _)]; rw [hP0, Int.toNat_natCast]) ⟨(by show some (AV.gr 0 s.places.toNat) = some (AV.gr 0 P0); rw [hP0, Int.toNat_natCast]), rfl, trivial⟩ ?_ (fun _ _ => (show (1 : Nat) ≤ 1 from Nat.le_refl 1)) ?_
  · intro p _
    refine ⟨fun z hz => ?_, fun z hz => ?_⟩
    · rw [List.mem_singleton] at hz; subst hz; exact wrE_low _ _ _ _
    · simp only [List.cons_append, List.nil_append, List.mem_cons, List.not_mem_nil, or_false] at hz
      rcases hz with rfl | rfl | rfl | rfl | rfl | rfl | rfl | rfl <;> first | rfl | exact snCL s | exact dskFL s | exact worsL s
  intro p hp
  have hnx : p < P0 → (vecF P0 (wrE s (L0 + 1) p)).set p (wrP s (L0 + 1) p) = vecF P0 (wrE s (L0 + 1) (p + 1)) := wrE_next
  have hone := wrE_one s (L0 + 1) p P0
  have hat : p < P0 → (vecF P0 (wrE s (L0 + 1) p))[p]? = some (.sl true []) := wrE_at
  have hel := wrE_low (n := 0) s (L0 + 1) p P0
  have hlen : (vecF P0 (wrE s (L0 + 1) p)).length = P0 := vecF_len _ _
  have hall : p = P0 → vecF P0 (wrE s (L0 + 1) p) = (wrT s).map rsT := fun h => by rw [h]; exact wrE_all s _ _ (by omega) (by omega)
  generalize vecF P0 (wrE s (L0 + 1) p) = els at hnx hone hat hel hlen hall
  conv => whnf
  by_cases hlt : p < P0
  · have hlt' : p < els.length := by omega
    have hsl : ∀ v, (els.set p v).length = P0 := fun v => by rw [List.length_set]; exact hlen
    repeat' first | ((with_reducible apply XBr.dec) <;> (intro h; first | (exfalso; omega) | ((try simp only [List.length_map] at h); first | (exfalso; omega) | (conv => whnf)))) | ((with_reducible refine XInt.i64 (by omega) (by omega) ?_); conv => whnf) | fail
    refine Walk.nilRowIn 0 p 68 rfl hone (hat hlt) ?_
    refine Walk.thenDo ?_
    refine Walk.loopGK tab_ok [] [(1, _), (2, _), (3, _), (4, _), (6, _), (7, _), (8, _), (24, _), (25, _), (30, _)] ⟨rfl, rfl, rfl, rfl, rfl, rfl, rfl, rfl, rfl, rfl, trivial⟩ (fun m : Nat => m ≤ L0 + 1) (fun m => [(31, natA m)]) (fun m => [.grow 23 false (els.set p (.gr 1 m)), .grow 68 (vecF m (wrR s p)).isEmpty (vecF m (wrR s p))]) (fun m => L0 + 1 - m) 0 (Nat.zero_le _) (by rw [show vecF 0 (wrR s p) = [] by rw [vecF_eq]; rfl]; rfl) ⟨rfl, trivial⟩ ?_ (fun _ _ => (show (2 : Nat) ≤ 2 from Nat.le_refl 2)) ?_
    · intro m _
      refine ⟨fun z hz => ?_, fun z hz => ?_⟩
      · simp only [List.mem_cons, List.not_mem_nil, or_false] at hz
        rcases hz with rfl | rfl
        · show lowL 2 (els.set p (.gr 1 m)) = true
          rw [lowL_iff]
          intro y hy
          rcases List.mem_or_eq_of_mem_set hy with hy | rfl
          · exact AV.low_mono (Nat.zero_le _) ((lowL_iff.1 hel) y hy)
          · rfl
        · show lowL 2 (vecF m (wrR s p)) = true
          rw [lowL_iff]; intro y hy
          obtain ⟨q, -, rfl⟩ := vecF_mem.1 hy
          exact wrR_low s p q
      · simp only [List.cons_append, List.nil_append, List.mem_cons, List.not_mem_nil, or_false] at hz
        rcases hz with rfl | rfl | rfl | rfl | rfl | rfl | rfl | rfl | rfl | rfl | rfl <;> first | rfl | exact snCL s | exact dskFL s | exact worsL s
    intro m hm
    have hRs := vecF_succ m (wrR s p)
    have hRl : (vecF m (wrR s p)).length = m := vecF_len _ _
    have hRP : m = L0 + 1 → AV.sl false (vecF m (wrR s p)) = wrP s (L0 + 1) p := fun h => by rw [h]; rfl
    have hRe : m = L0 + 1 → (vecF m (wrR s p)).isEmpty = false := fun h => by
      cases hh : vecF m (wrR s p) with
      | nil => rw [hh] at hRl; simp at hRl; omega
      | cons _ _ => rfl
    generalize vecF m (wrR s p) = R at hRs hRl hRP hRe
    conv => whnf
    by_cases hlt2 : m < L0 + 1
    · have hrow : List.take (((allN s : Nat) : Int) + 1 - 0).toNat (List.drop (Int.toNat 0) (List.drop ((m : Int).toNat * 16) (List.drop ((p : Int).toNat * 976) (wTab s)))) = ints (vecF (allN s + 1) fun l => worthZ s ⟨p, m, l⟩) := by
        have h := wTab_row ok (p := p) (m := m) (by omega) (by omega)
        rw [zvs_ints] at h
        rw [← h, List.drop_drop, List.drop_drop]
        congr 2 <;> omega
      have hcl := clone_zi (vecF (allN s + 1) fun l => worthZ s ⟨p, m, l⟩) (by rw [vecF_len]; omega)
      have hwl : (wTab s).length = 4880 := zvs_len _ _
      repeat' first | ((with_reducible apply XBr.dec) <;> (intro h; first | (exfalso; omega) | ((try simp only [List.length_map] at h); first | (exfalso; omega) | (conv => whnf)))) | fail
      apply Walk.drawX tab_ok mixed_ok [] [18, 20] (hsC [_, _, _]) [_, _, _, _, _, _, _, _, _, _, _, _, _, _, _, _, _, _, _, _, _] (by kernel_rfl) rfl
      · skip
        repeat' first | ((with_reducible refine XInt.i64 (by omega) (by omega) ?_); conv => whnf) | ((with_reducible refine XHold.mk ?_ ?_); (first | omega | rfl | decide | exact ⟨rfl, by decide, rfl⟩ | exact wideI _ | exact widePr _ | exact wideSk _ | (unfold Room; constructor <;> ((try simp) <;> omega)) | exact ⟨rfl, by simp only [List.length_map], by unfold Room; constructor <;> ((try simp) <;> omega)⟩ | exact ⟨by omega, by omega, by unfold Room; constructor <;> ((try simp) <;> omega)⟩); conv => whnf) | (with_reducible apply XAnd.mk) | ((first | (with_reducible apply Chk.go) | (with_reducible apply ChkA.go)); conv => whnf) | (exact XSame.mk rfl rfl) | (with_reducible exact trivial) | ((first | (refine XGet.set rfl hlt' hlen.symm ?_) | (refine XArr.pim (by omega) (by omega) ?_) | (refine XCall.ret hac ?_) | ((refine XHold.mk ⟨?_, by omega, by omega, by omega⟩ ?_); (simp only [List.length_drop, hwl]; omega)) | (refine XHold.mk ⟨hsl _, rfl, by omega, by omega⟩ ?_) | ((refine XCall.as (congrArg (fun l => [AV.sl false l]) hrow.symm) ?_); (refine XCall.ret hcl ?_)) | (refine XPut.set rfl hlt' hlen.symm ?_)); conv => whnf) | fail
      · skip
        repeat' first | ((with_reducible refine XInt.i64 (by omega) (by omega) ?_); conv => whnf) | (with_reducible apply XAnd.mk) | ((first | (with_reducible apply Chk.go) | (with_reducible apply ChkF.go) | (with_reducible apply ChkB.go)); conv => whnf) | (exact XSame.mk rfl rfl) | (with_reducible exact trivial) | ((first | (refine XArr.pim (by omega) (by omega) ?_) | (refine XCall.ret hac ?_) | ((refine XHold.mk ⟨?_, by omega, by omega, by omega⟩ ?_); (simp only [List.length_drop, hwl]; omega)) | (refine XHold.mk ⟨hsl _, rfl, by omega, by omega⟩ ?_)); conv => whnf) | fail
      conv => whnf
      repeat' first | ((with_reducible refine XInt.i64 (by omega) (by omega) ?_); conv => whnf) | fail
      refine XAgainG.go (m + 1) [] (by omega) (by omega) ?_ ⟨rfl, rfl, rfl, rfl, rfl, rfl, rfl, rfl, rfl, rfl, rfl, trivial⟩
      show [Blk.grow _ false (els.set p (.gr 1 (m + 1))), Blk.grow _ (vecF (m + 1) (wrR s p)).isEmpty (vecF (m + 1) (wrR s p))] ++ [] = _
      rw [hRs, isEmpty_app]; rfl
    obtain rfl : m = L0 + 1 := by omega
    repeat' first | ((with_reducible apply XBr.dec) <;> (intro h; first | (exfalso; omega) | ((try simp only [List.length_map] at h); first | (exfalso; omega) | (conv => whnf)))) | fail
    refine XDo.freezeRow 0 p 1 (L0 + 1) rfl ?_ ?_ rfl (by decide) hRl (XDo.run ?_)
    · intro z hz
      rcases List.mem_or_eq_of_mem_set hz with hz | rfl
      · exact hone z hz
      · rfl
    · exact List.getElem?_set_self hlt'
    conv => whnf
    repeat' first | ((with_reducible refine XInt.i64 (by omega) (by omega) ?_); conv => whnf) | fail
    refine XAgainG.go (p + 1) [.dead] (by omega) (by omega) ?_ ⟨rfl, rfl, rfl, rfl, rfl, rfl, rfl, rfl, trivial⟩
    show [Blk.grow _ false (vecF P0 (wrE s (L0 + 1) (p + 1)))] ++ [Blk.dead] = [Blk.grow _ false ((els.set p _).set p (.sl R.isEmpty R)), .dead]
    rw [List.set_set, hRe rfl, hRP rfl, hnx hlt]; rfl
  obtain rfl : p = P0 := by omega
  obtain rfl := hall rfl
  repeat' first | ((with_reducible apply XBr.dec) <;> (intro h; first | (exfalso; omega) | ((try simp only [List.length_map] at h); first | (exfalso; omega) | (conv => whnf)))) | fail
  exact ⟨Froz.tup (.cons (Froz.grow rfl hlen hel) (.cons (.low rfl) .nil))⟩
end GA
end

section
namespace GA
open Go Go.RowKit Go.Proofs
set_option pp.deepTerms true
set_option maxRecDepth 8000
set_option linter.unusedVariables false
set_option linter.unusedSimpArgs false

theorem gained_bf (gg : FuncId) (cs : List AV) (s : Sn) (f : Sta → Int) (x : Sta) (t : Int × Int) (nl : Bool) (y0 : Sta) (l : List Sta) (hl : l.length ≤ 100) (hc : lowL 0 [(AV.bf gg cs)] = true) (hn : ∀ y ∈ y0 :: l, Comp Tryz.prog gg (cs ++ [staA y]) (.int .i64 (f y))) (hb : ∀ y ∈ y0 :: l, -1 ≤ f y ∧ f y ≤ 100) :
    Comp Tryz.prog 100 [dskFA s, staA x, sgA t, .sl nl ((y0 :: l).map staA), (AV.bf gg cs)] (.int .i64 (gainL s f x t (y0 :: l))) := by
  have hb0 := hb y0 List.mem_cons_self
  have e1 : (((y0 :: l).map staA).length : Int) = l.length + 1 := by rw [List.length_map, List.length_cons]; omega
  have hsl : List.take (((((y0 :: l).map staA).length : Nat) : Int) - 1).toNat (List.drop (Int.toNat 1) ((y0 :: l).map staA)) = l.map staA := by
    rw [e1, show ((l.length : Int) + 1 - 1).toNat = l.length by omega]
    show List.take l.length (l.map staA) = _
    rw [← List.map_take, List.take_length]
  have e2 : ((y0 :: l).length : Int) = l.length + 1 := by rw [List.length_cons]; omega
  have e3 : ((l.map staA).length : Int) = l.length := by rw [List.length_map]
  have hn0 := hn y0 List.mem_cons_self
  refine Comp.body (T := tab) (res := [.tmp 10]) tab_ok [] Tryz.func100 rfl (by kernel_rfl) Tryz.ntmps100 rfl (by simp only [List.length_cons, List.length_nil]; decide) (by simp only [lowL, AV.low, dskFL, staL, lowSta, Bool.and_true, Bool.true_and] at hc ⊢; first | exact hc | (rw [hc]; rfl)) ?_; conv => whnf
  repeat' first | ((first | ((with_reducible refine XIx.map ?_ ?_ ?_ ?_); omega; omega; (intro _; rfl)) | (refine XCall.ret hn0 ?_)); conv => whnf) | (rw [hsl]; conv => whnf) | ((refine XHold.mk ⟨by omega, by omega, by omega, .inr (wideSta _)⟩ ?_); conv => whnf) | fail
  refine Walk.loopGK tab_ok [] [(0, _), (4, _), (6, _), (7, _), (10, _), (20, _), (21, _)] ⟨rfl, rfl, rfl, rfl, rfl, rfl, rfl, trivial⟩ (fun k : Nat => k ≤ l.length) (fun k => [(11, .int .i64 ((l.take k).foldl (fun n y => min n (f y)) (f y0))), (22, natA k)]) (fun _ => []) (fun k => l.length - k) 0 (Nat.zero_le _) rfl ⟨rfl, rfl, trivial⟩ ?_ (fun _ _ => (show (0 : Nat) ≤ 0 from Nat.le_refl 0)) ?_
  · intro k _
    refine ⟨by simp, fun z hz => ?_⟩
    simp only [List.cons_append, List.nil_append, List.mem_cons, List.not_mem_nil, or_false] at hz
    rcases hz with rfl | rfl | rfl | rfl | rfl | rfl | rfl | rfl | rfl <;> first | rfl | exact dskFL s | exact lowSta _ | (simp only [lowL, Bool.and_true] at hc; exact hc)
  intro k hk
  have hfx : k < l.length → (l.take (k + 1)).foldl (fun n y => min n (f y)) (f y0) = min ((l.take k).foldl (fun n y => min n (f y)) (f y0)) (f (l.getD k default)) := fun h => by rw [take_next h, List.foldl_append]; rfl
  have hfend : k = l.length → (l.take k).foldl (fun n y => min n (f y)) (f y0) = minL f (y0 :: l) := fun h => by rw [h, List.take_length]; rfl
  generalize (l.take k).foldl (fun n y => min n (f y)) (f y0) = v at hfx hfend
  conv => whnf
  by_cases hlt : k < l.length
  · have hy : l.getD k default ∈ y0 :: l := List.mem_cons_of_mem _ (getD_mem hlt)
    have hls := fleast_c v false [f (l.getD k default)] (by simp)
    have hny := hn _ hy
    repeat' first | ((with_reducible apply XBr.dec) <;> (intro h; first | (exfalso; omega) | ((try simp only [List.length_map] at h); first | (exfalso; omega) | (conv => whnf)))) | ((with_reducible refine XInt.i64 (by omega) (by omega) ?_); conv => whnf) | ((with_reducible refine XHold.mk ?_ ?_); (first | omega | rfl | decide | exact ⟨rfl, by decide, rfl⟩ | exact wideI _ | exact widePr _ | exact wideSk _ | (unfold Room; constructor <;> ((try simp) <;> omega)) | exact ⟨rfl, by simp only [List.length_map], by unfold Room; constructor <;> ((try simp) <;> omega)⟩ | exact ⟨by omega, by omega, by unfold Room; constructor <;> ((try simp) <;> omega)⟩); conv => whnf) | ((first | ((with_reducible refine XIx.nat ?_ ?_ ?_); omega; (intro _; rfl)) | (refine XCall.ret hny ?_) | (refine XCall.ret hls ?_)); conv => whnf) | fail
    refine XAgainG.go (k + 1) [.cells (stC (l.getD k default))] (by omega) (by omega) rfl ⟨rfl, rfl, rfl, rfl, rfl, rfl, rfl, (by rw [hfx hlt]; rfl), rfl, trivial⟩
  obtain rfl : k = l.length := by omega
  have hv := hfend rfl
  have hge : -1 ≤ minL f (y0 :: l) := minL_ge (List.cons_ne_nil _ _) fun y hy => (hb y hy).1
  have hle : minL f (y0 :: l) ≤ f y0 := (minL_mem (f := f) (List.cons_ne_nil y0 l)).2 y0 List.mem_cons_self
  have hgl : gainL s f x t (y0 :: l) = if v ≠ -1 ∧ (x.p : Int) = s.bed ∧ t.1 = s.bed then v + 1 else v := by unfold gainL; rw [← hv]
  rw [← hv] at hge hle
  rw [hgl]
  by_cases c1 : v = -1
  · rw [if_neg (fun h => h.1 c1)]
    repeat' first | ((with_reducible apply XBr.ff); conv => whnf) | ((with_reducible apply XBr.dec) <;> (intro h; first | (exfalso; omega) | ((try simp only [List.length_map] at h); first | (exfalso; omega) | (conv => whnf)))) | ((with_reducible apply XBr.bne) <;> (intro h; first | (exfalso; omega) | (conv => whnf))) | (with_reducible apply XAnd.mk) | ((first | (with_reducible apply Chk.go) | (with_reducible apply ChkA.go) | (with_reducible apply ChkF.go) | (with_reducible apply ChkB.go)); conv => whnf) | (exact XSame.mk rfl rfl) | (with_reducible exact trivial) | (apply Walk.drawN (id := 7) tab_ok mixed_ok [] [] (hsU _) [_, _, _, _, _, _, _, _, _, _, _, _, _, _, _, _, _, _, _, _, _, _] (by kernel_rfl) rfl) | ((with_reducible apply XNext.mk); conv => whnf) | fail
    exact XOut.int rfl
  by_cases c2 : (x.p : Int) = s.bed
  · by_cases c3 : t.1 = s.bed
    · rw [if_pos ⟨c1, c2, c3⟩]
      repeat' first | ((with_reducible apply XBr.dec) <;> (intro h; first | (exfalso; omega) | ((try simp only [List.length_map] at h); first | (exfalso; omega) | (conv => whnf)))) | ((with_reducible apply XBr.beq) <;> (intro h; first | (exfalso; omega) | (conv => whnf))) | ((with_reducible apply XBr.bne) <;> (intro h; first | (exfalso; omega) | (conv => whnf))) | ((with_reducible refine XInt.i64 (by omega) (by omega) ?_); conv => whnf) | (with_reducible apply XAnd.mk) | ((first | (with_reducible apply Chk.go) | (with_reducible apply ChkA.go) | (with_reducible apply ChkF.go) | (with_reducible apply ChkB.go)); conv => whnf) | (exact XSame.mk rfl rfl) | (with_reducible exact trivial) | (apply Walk.drawN (id := 7) tab_ok mixed_ok [] [] (hsU _) [_, _, _, _, _, _, _, _, _, _, _, _, _, _, _, _, _, _, _, _, _, _] (by kernel_rfl) rfl) | ((with_reducible apply XNext.mk); conv => whnf) | fail
      exact XOut.int rfl
    · rw [if_neg (fun h => c3 h.2.2)]
      repeat' first | ((with_reducible apply XBr.dec) <;> (intro h; first | (exfalso; omega) | ((try simp only [List.length_map] at h); first | (exfalso; omega) | (conv => whnf)))) | ((with_reducible apply XBr.beq) <;> (intro h; first | (exfalso; omega) | (conv => whnf))) | ((with_reducible apply XBr.bne) <;> (intro h; first | (exfalso; omega) | (conv => whnf))) | (with_reducible apply XAnd.mk) | ((first | (with_reducible apply Chk.go) | (with_reducible apply ChkA.go) | (with_reducible apply ChkF.go) | (with_reducible apply ChkB.go)); conv => whnf) | (exact XSame.mk rfl rfl) | (with_reducible exact trivial) | (apply Walk.drawN (id := 7) tab_ok mixed_ok [] [] (hsU _) [_, _, _, _, _, _, _, _, _, _, _, _, _, _, _, _, _, _, _, _, _, _] (by kernel_rfl) rfl) | ((with_reducible apply XNext.mk); conv => whnf) | fail
      exact XOut.int rfl
  · rw [if_neg (fun h => c2 h.2.1)]
    repeat' first | ((with_reducible apply XBr.ff); conv => whnf) | ((with_reducible apply XBr.dec) <;> (intro h; first | (exfalso; omega) | ((try simp only [List.length_map] at h); first | (exfalso; omega) | (conv => whnf)))) | ((with_reducible apply XBr.beq) <;> (intro h; first | (exfalso; omega) | (conv => whnf))) | ((with_reducible apply XBr.bne) <;> (intro h; first | (exfalso; omega) | (conv => whnf))) | (with_reducible apply XAnd.mk) | ((first | (with_reducible apply Chk.go) | (with_reducible apply ChkA.go) | (with_reducible apply ChkF.go) | (with_reducible apply ChkB.go)); conv => whnf) | (exact XSame.mk rfl rfl) | (with_reducible exact trivial) | (apply Walk.drawN (id := 7) tab_ok mixed_ok [] [] (hsU _) [_, _, _, _, _, _, _, _, _, _, _, _, _, _, _, _, _, _, _, _, _, _] (by kernel_rfl) rfl) | ((with_reducible apply XNext.mk); conv => whnf) | fail
    exact XOut.int rfl
def ruleS (s : Sn) (x : Sta) : Option (Int × Int) := if worthZ s x = -1 ∨ worthZ s x = homeZ s x then none else (stepsS s x).find? fun t => gainZ s (worthZ s) x t == worthZ s x
theorem fRule_no (s : Sn) (hb : SnB s) (p m l : Int) (h : sttE s p m l ≠ 0) : Comp Tryz.prog 39 [snA s, xA p m l] (.tup [sgA (0, 0), .int .i64 (sttE s p m l)]) := by
  have hs := stated_no s hb p m l h
  generalize sttE s p m l = e at h hs
  refine Comp.body (T := tab) (res := [.cell 4 30, .cell 5 41]) tab_ok [] Tryz.func39 rfl (by kernel_rfl) Tryz.ntmps39 rfl (by simp only [List.length_cons, List.length_nil]; decide) (by simp only [lowL, snL, xL]; rfl) ?_; conv => whnf
  repeat' first | ((with_reducible apply XBr.bne) <;> (intro h; first | (exfalso; omega) | (conv => whnf))) | ((refine XCall.ret hs ?_); conv => whnf) | fail
  exact ⟨.low rfl⟩
def ruleR (o : Option (Int × Int)) : AV := .tup [sgA (o.getD (0, 0)), .int .i64 (if o.isSome = true then 0 else 6)]
theorem rul_find {s : Sn} {x : Sta} {W : List (Int × Int)} {k : Nat} {p : Int × Int → Bool} (q : Int × Int → Bool) (hk : k < W.length) (h0 : ∀ j, j < k → (q (W.getD j default) && p (W.getD j default)) = false) (hq : q (W.getD k default) = true) (hp : p (W.getD k default) = true) : (W.filter q).find? p = some (W.getD k default) := by
  induction W generalizing k with
  | nil => simp at hk
  | cons t W ih =>
    cases k with
    | zero =>
      rw [List.getD_cons_zero] at hq hp ⊢
      rw [List.filter_cons, if_pos hq, List.find?_cons, hp]
    | succ k =>
      have h1 := h0 0 (by omega)
      rw [List.getD_cons_zero] at h1
      rw [List.getD_cons_succ] at hq hp ⊢
      have ih' := ih (k := k) (by simpa using hk) (fun j hj => by have := h0 (j + 1) (by omega); rwa [List.getD_cons_succ] at this) hq hp
      rw [List.filter_cons]
      by_cases hqt : q t = true
      · rw [if_pos hqt, List.find?_cons]
        rw [hqt, Bool.true_and] at h1
        rw [h1]; exact ih'
      · rw [if_neg hqt]; exact ih'
theorem rul_none {W : List (Int × Int)} {p q : Int × Int → Bool} (h0 : ∀ j, j < W.length → (q (W.getD j default) && p (W.getD j default)) = false) : (W.filter q).find? p = none := by
  rw [List.find?_eq_none]
  intro t ht
  obtain ⟨h1, h2⟩ := List.mem_filter.1 ht
  obtain ⟨j, hj, rfl⟩ := List.mem_iff_getElem.1 h1
  have := h0 j hj
  rw [List.getD_eq_getElem?_getD, List.getElem?_eq_getElem hj] at this
  rw [show (some W[j]).getD default = W[j] from rfl, h2, Bool.true_and] at this
  rw [this]; simp
def rulB (s : Sn) (x : Sta) (t : Int × Int) : Bool := !(afterS s x t).isEmpty && gainZ s (worthZ s) x t == worthZ s x
set_option maxHeartbeats 4000000 in
theorem fRule_ok (s : Sn) (hb : SnB s) (p m l : Int) (h : sttE s p m l = 0) : Comp Tryz.prog 39 [snA s, xA p m l] (ruleR (ruleS s (stN p m l))) := by
  have hs := stated_ok s hb p m l h
  obtain ⟨ok, h1, h2, h3, h4⟩ := sttE_iff.1 h
  have hxe := xA_st h1.1 h2.1 (show 0 ≤ l by omega)
  have hx := stN_ok h
  have hv := st_vld h
  rw [hxe] at hs ⊢
  generalize stN p m l = x at hs hx hv
  clear h h1 h2 h3 h4 hxe
  have p1 := ok.p1; have p2 := ok.p2; have l1 := ok.l1; have l2 := ok.l2; have w1 := ok.w1
  have x1 := hx.p; have x2 := hx.m; have x3 := hx.l
  have hw := worths_c s ok
  have hof := wof_c s ok x hv
  have hho := fhome_c s x
  have hst := fsteps_c s x
  have hwk := worthZ_ge s x
  by_cases hc : worthZ s x = -1 ∨ worthZ s x = homeZ s x
  · have hr : ruleS s x = none := if_pos hc
    rw [hr]
    generalize worthZ s x = v at hof hc hwk
    generalize homeZ s x = hz at hho hc
    by_cases hc1 : v = -1
    · refine Comp.body (T := tab) (res := [.cell 4 30, .cell 5 41]) tab_ok [] Tryz.func39 rfl (by kernel_rfl) Tryz.ntmps39 rfl (by simp only [List.length_cons, List.length_nil]; decide) (by simp only [lowL, snL, staL]; rfl) ?_; conv => whnf
      repeat' first | ((with_reducible apply XBr.tt); conv => whnf) | ((with_reducible apply XBr.beq) <;> (intro h; first | (exfalso; omega) | (conv => whnf))) | ((with_reducible apply XBr.bne) <;> (intro h; first | (exfalso; omega) | (conv => whnf))) | (with_reducible apply XAnd.mk) | ((first | (with_reducible apply Chk.go) | (with_reducible apply ChkA.go) | (with_reducible apply ChkF.go) | (with_reducible apply ChkB.go)); conv => whnf) | (exact XSame.mk rfl rfl) | (with_reducible exact trivial) | (apply Walk.drawN (id := 6) tab_ok mixed_ok [] [] (hsU _) [_, _, _, _, _, _, _, _, _] (by kernel_rfl) rfl) | ((first | (with_reducible apply XNext.mk) | (refine XCall.ret hs ?_) | (refine XCall.ret hw ?_) | (refine XCall.ret hof ?_)); conv => whnf) | fail
      exact ⟨.low rfl⟩
    · have hc2 : v = hz := by omega
      refine Comp.body (T := tab) (res := [.cell 4 30, .cell 5 41]) tab_ok [] Tryz.func39 rfl (by kernel_rfl) Tryz.ntmps39 rfl (by simp only [List.length_cons, List.length_nil]; decide) (by simp only [lowL, snL, staL]; rfl) ?_; conv => whnf
      repeat' first | ((with_reducible apply XBr.beq) <;> (intro h; first | (exfalso; omega) | (conv => whnf))) | ((with_reducible apply XBr.bne) <;> (intro h; first | (exfalso; omega) | (conv => whnf))) | (with_reducible apply XAnd.mk) | ((first | (with_reducible apply Chk.go) | (with_reducible apply ChkA.go) | (with_reducible apply ChkF.go) | (with_reducible apply ChkB.go)); conv => whnf) | (exact XSame.mk rfl rfl) | (with_reducible exact trivial) | (apply Walk.drawN (id := 6) tab_ok mixed_ok [] [] (hsU _) [_, _, _, _, _, _, _, _, _] (by kernel_rfl) rfl) | ((first | (with_reducible apply XNext.mk) | (refine XCall.ret hs ?_) | (refine XCall.ret hw ?_) | (refine XCall.ret hof ?_) | (refine XCall.ret hho ?_)); conv => whnf) | fail
      exact ⟨.low rfl⟩
  have hr : ruleS s x = (stepsS s x).find? fun t => gainZ s (worthZ s) x t == worthZ s x := if_neg hc
  have hfk : ∀ k, k < (waysL s x.p).length → (∀ j, j < k → rulB s x ((waysL s x.p).getD j default) = false) → rulB s x ((waysL s x.p).getD k default) = true → ruleS s x = some ((waysL s x.p).getD k default) := fun k hk h0 h1 => by
    rw [hr]
    unfold rulB at h0 h1
    rw [Bool.and_eq_true] at h1
    exact rul_find (s := s) (x := x) (fun t => !(afterS s x t).isEmpty) hk h0 h1.1 h1.2
  have hfn : (∀ j, j < (waysL s x.p).length → rulB s x ((waysL s x.p).getD j default) = false) → ruleS s x = none := fun h0 => by
    rw [hr]; exact rul_none h0
  have hgw := fun (t : Int × Int) (y0 : Sta) (L : List Sta) (ha : afterS s x t = y0 :: L) => gained_bf 98 [wsA s] s (worthZ s) x t false y0 L (by have := afterS_len s x t; rw [ha, List.length_cons] at this; omega) (by simp only [lowL, AV.low, worsL]; rfl) (fun y hy => wof_c s ok y (afterS_vld ok (ha ▸ hy))) (fun y hy => ⟨worthZ_ge s y, by have := worthZ_le s y (afterS_vld ok (t := t) (x := x) (ha ▸ hy)).2.1; omega⟩)
  have hrb : ∀ t, rulB s x t = (!(afterS s x t).isEmpty && gainZ s (worthZ s) x t == worthZ s x) := fun t => rfl
  have hge := fun t => gain_eq s (worthZ s) x t
  generalize ruleS s x = rr at hfk hfn
  have hc' := not_or.1 hc
  clear hc hr
  generalize worthZ s x = v at hof hc' hwk hrb
  generalize homeZ s x = hz at hho hc'
  have hc1 := hc'.1
  have hc2 := hc'.2
  have hmg : mget (x.p : Int) ((keyF s).zip ((esF s s.places.toNat).map (·.2))) = some (.sl false ((waysL s x.p).map sgA)) := by
    unfold keyF; rw [zip_fs]; exact esF_get s _ _ (by omega)
  have hwl : (waysL s x.p).length ≤ 55 := by
    have h := waysK_len s x.p s.places.toNat
    have h2 : s.places.toNat * (1 + s.ways.length) ≤ 5 * 11 := Nat.mul_le_mul (by omega) (by omega)
    show (waysK s x.p s.places.toNat).length ≤ 55
    omega
  have hwm := fun t (h : t ∈ waysL s x.p) => waysL_pos ok h
  generalize waysL s x.p = W at hmg hwl hwm hfk hfn
  have e1 : ((W.map sgA).length : Int) = W.length := by rw [List.length_map]
  refine Comp.body' (T := tab) (res := [.cell 4 30, .cell 5 41]) tab_ok [] Tryz.func39 rfl (by kernel_rfl) Tryz.ntmps39 rfl (by simp only [List.length_cons, List.length_nil]; decide) (by simp only [lowL, snL, staL]; rfl) ?_; conv => whnf
  repeat' first | ((with_reducible apply XBr.beq) <;> (intro h; first | (exfalso; omega) | (conv => whnf))) | ((with_reducible apply XBr.bne) <;> (intro h; first | (exfalso; omega) | (conv => whnf))) | (with_reducible apply XAnd.mk) | ((first | (with_reducible apply Chk.go) | (with_reducible apply ChkA.go) | (with_reducible apply ChkF.go) | (with_reducible apply ChkB.go)); conv => whnf) | (exact XSame.mk rfl rfl) | (with_reducible exact trivial) | (apply Walk.drawN (id := 6) tab_ok mixed_ok [] [] (hsU _) [_, _, _, _, _, _, _, _, _] (by kernel_rfl) rfl) | ((first | (with_reducible apply XNext.mk) | (refine XCall.ret hs ?_) | (refine XCall.ret hw ?_) | (refine XCall.ret hof ?_) | (refine XCall.ret hho ?_) | (refine XCall.ret hst ?_)); conv => whnf) | fail
  refine Walk.range (own := []) tab_ok [(3, .pim (stC x)), (4, .ptr 0 0), (5, .ptr 1 0), (6, .ptr 2 0), (8, .ptr 3 0), (9, .ptr 4 0)] rfl ⟨rfl, rfl, rfl, rfl, rfl, rfl, trivial⟩ ?_
  intro fn
  refine XCall.inl (T := tab) (res := []) tab_ok [] Tryz.func144 rfl (by kernel_rfl) Tryz.ntmps144 rfl (by simp only [List.length_append, List.length_cons, List.length_nil]; decide) ?_; conv => whnf
  repeat' first | (with_reducible apply XAnd.mk) | ((first | (with_reducible apply Chk.go) | (with_reducible apply ChkA.go) | (with_reducible apply ChkF.go) | (with_reducible apply ChkB.go)); conv => whnf) | (exact XSame.mk rfl rfl) | (with_reducible exact trivial) | (apply Walk.drawN (id := 0) tab_ok mixed_ok [] [] (hsU _) [_, _, _, _, _, _, _, _, _] (by kernel_rfl) rfl) | ((first | (with_reducible apply XNext.mk) | (refine XDrop.dskF ?_) | (refine XGetM.mk' hmg ?_)); conv => whnf) | fail
  refine Walk.loopGKL tab_ok [] _ [(0, _), (1, _), (2, _), (13, _), (14, _)] ⟨rfl, rfl, rfl, rfl, rfl, trivial⟩ (fun k : Nat => k ≤ W.length ∧ ∀ j, j < k → rulB s x (W.getD j default) = false) (fun k => [(15, natA k)]) (fun lp k => [.cells [.int .i64 0, .int .i64 0], .cells [.int .i64 0], .cells [dskFA s], .cells [wsA s], .cells [.int .i64 v], .raw (.deferred (some [])), lp]) (fun k => W.length - k) 0 ⟨Nat.zero_le _, fun j hj => by omega⟩ rfl ⟨rfl, trivial⟩ ?_ (fun _ _ => (show (7 : Nat) ≤ 7 from Nat.le_refl 7)) ?_
  · intro k _
    refine ⟨fun z hz => ?_, fun z hz => ?_⟩
    · show z.low 7 = true
      simp only [List.mem_cons, List.not_mem_nil, or_false] at hz
      rcases hz with rfl | rfl | rfl | rfl | rfl | rfl | rfl
      · rfl
      · rfl
      · show ((dskFA s).low 7 && true) = true
        rw [dskFL]; rfl
      · show ((wsA s).low 7 && true) = true
        rw [worsL]; rfl
      · rfl
      · rfl
      · rfl
    · show z.2.low 7 = true
      simp only [List.cons_append, List.nil_append, List.mem_cons, List.not_mem_nil, or_false] at hz
      rcases hz with rfl | rfl | rfl | rfl | rfl | rfl <;> first | rfl | exact lowSg _ | (simp only [AV.low, lowL, dskFL]; rfl)
  rintro k ⟨hk, hI⟩
  conv => whnf
  by_cases hlt : k < W.length
  · have hw := hwm _ (getD_mem (d := default) hlt)
    have hfa := fafter_c s ok x hx (W.getD k default) (by omega) (by omega)
    have hgk := hgw (W.getD k default)
    have hrk := hrb (W.getD k default)
    have hek := hge (W.getD k default)
    have hfk := hfk k hlt hI
    cases haf : afterS s x (W.getD k default) with
    | nil =>
      rw [haf] at hfa hrk
      have e0 : (([] : List AV).length : Int) = 0 := rfl
      have hfa' : Comp Tryz.prog 68 [dskFA s, staA x, sgA (W.getD k default)] (.sl true []) := hfa
      repeat' first | ((with_reducible apply XBr.ff); conv => whnf) | ((with_reducible apply XBr.dec) <;> (intro h; first | (exfalso; omega) | ((try simp only [List.length_map] at h); first | (exfalso; omega) | (conv => whnf)))) | ((first | (with_reducible refine XInt.i64 (by omega) (by omega) ?_) | ((with_reducible refine XIx.nat ?_ ?_ ?_); omega; (intro _; rfl)) | (refine XCall.ret hfa' ?_)); conv => whnf) | fail
      refine XAgainG.go (k + 1) [.cells (sgA (W.getD k default)).cells] ⟨by omega, fun j hj => ?_⟩ (by omega) rfl ⟨rfl, rfl, rfl, rfl, rfl, rfl, trivial⟩
      by_cases e : j = k
      · subst e; rw [hrk]; rfl
      · exact hI j (by omega)
    | cons y0 L =>
      have hgk := hgk y0 L haf
      rw [haf] at hfa hrk hek
      rw [← hek] at hgk
      have e2 : (((y0 :: L).map staA).length : Int) = L.length + 1 := by rw [List.length_map, List.length_cons]; omega
      have hfa' : Comp Tryz.prog 68 [dskFA s, staA x, sgA (W.getD k default)] (.sl false ((y0 :: L).map staA)) := hfa
      generalize gainZ s (worthZ s) x (W.getD k default) = gz at hgk hrk
      have hrk' : rulB s x (W.getD k default) = (gz == v) := hrk
      by_cases hgv : gz = v
      · have hrr := hfk (by rw [hrk', hgv]; simp)
        rw [hrr]
        repeat' first | ((with_reducible apply XBr.tt); conv => whnf) | ((with_reducible apply XBr.dec) <;> (intro h; first | (exfalso; omega) | ((try simp only [List.length_map] at h); first | (exfalso; omega) | (conv => whnf)))) | ((first | ((with_reducible refine XIx.nat ?_ ?_ ?_); omega; (intro _; rfl)) | (refine XCall.ret hfa' ?_) | ((refine XYield.go (own := []) tab_ok rfl rfl (by decide) ?_); intro ρ)); conv => whnf) | fail
        apply Walk.drawX tab_ok mixed_ok [] [] (hsK _) [_, _, _, _, _, _, _, _, _] (by kernel_rfl) rfl
        · skip
          repeat' first | (with_reducible apply XAnd.mk) | ((first | (with_reducible apply Chk.go) | (with_reducible apply ChkA.go)); conv => whnf) | (exact XSame.mk rfl rfl) | (with_reducible exact trivial) | ((refine XCall.ret hgk ?_); conv => whnf) | fail
        · skip
          repeat' first | (with_reducible apply XAnd.mk) | ((first | (with_reducible apply ChkF.go) | (with_reducible apply ChkB.go)); conv => whnf) | (with_reducible exact trivial) | fail
        conv => whnf
        repeat' first | ((first | (with_reducible apply XBr.tt) | (with_reducible apply XBr.ff)); conv => whnf) | (with_reducible apply XBr.not) | ((with_reducible apply XBr.beq) <;> (intro h; first | (exfalso; omega) | (conv => whnf))) | fail
        exact ⟨.low rfl⟩
      · skip
        repeat' first | ((with_reducible apply XBr.tt); conv => whnf) | ((with_reducible apply XBr.dec) <;> (intro h; first | (exfalso; omega) | ((try simp only [List.length_map] at h); first | (exfalso; omega) | (conv => whnf)))) | ((first | ((with_reducible refine XIx.nat ?_ ?_ ?_); omega; (intro _; rfl)) | (refine XCall.ret hfa' ?_) | ((refine XYield.go (own := []) tab_ok rfl rfl (by decide) ?_); intro ρ)); conv => whnf) | fail
        apply Walk.drawX tab_ok mixed_ok [] [] (hsK _) [_, _, _, _, _, _, _, _, _] (by kernel_rfl) rfl
        · skip
          repeat' first | (with_reducible apply XAnd.mk) | ((first | (with_reducible apply Chk.go) | (with_reducible apply ChkA.go)); conv => whnf) | (exact XSame.mk rfl rfl) | (with_reducible exact trivial) | ((refine XCall.ret hgk ?_); conv => whnf) | fail
        · skip
          repeat' first | (with_reducible apply XAnd.mk) | ((first | (with_reducible apply ChkF.go) | (with_reducible apply ChkB.go)); conv => whnf) | (with_reducible exact trivial) | fail
        conv => whnf
        repeat' first | ((with_reducible apply XBr.tt); conv => whnf) | (with_reducible apply XBr.not) | ((with_reducible apply XBr.beq) <;> (intro h; first | (exfalso; omega) | (conv => whnf))) | ((with_reducible refine XInt.i64 (by omega) (by omega) ?_); conv => whnf) | fail
        refine XAgainG.go (k + 1) [.cells (sgA (W.getD k default)).cells, .cells (sgA (W.getD k default)).cells] ⟨by omega, fun j hj => ?_⟩ (by omega) rfl ⟨rfl, rfl, rfl, rfl, rfl, rfl, trivial⟩
        by_cases e : j = k
        · subst e; rw [hrk']; simpa using hgv
        · exact hI j (by omega)
  obtain rfl : k = W.length := by omega
  rw [hfn hI]
  repeat' first | ((with_reducible apply XBr.dec) <;> (intro h; first | (exfalso; omega) | ((try simp only [List.length_map] at h); first | (exfalso; omega) | (conv => whnf)))) | fail
  exact ⟨.low rfl⟩
end GA
end

section
namespace GA
open Go Go.RowKit Go.Proofs
set_option pp.deepTerms true
set_option maxRecDepth 8000
set_option linter.unusedVariables false
set_option linter.unusedSimpArgs false

def wideB (s : Sn) (n : Int) : Bool := decide (n < s.last) && decide (s.last ≤ 60)
theorem wide02_c (s : Sn) (n : Int) : Comp Tryz.prog 35 [snA s, .int .i64 n] (.bool (wideB s n)) := by
  refine Comp.body (T := tab) (res := [.tmp 4]) tab_ok [] Tryz.func35 rfl (by kernel_rfl) Tryz.ntmps35 rfl (by simp only [List.length_cons, List.length_nil]; decide) (by simp only [lowL, AV.low, snL]; rfl) ?_; conv => whnf
  repeat' first | ((first | (with_reducible apply XBr.tt) | (with_reducible apply XBr.ff)); conv => whnf) | ((with_reducible apply XBr.dec) <;> (intro h; first | (exfalso; omega) | ((try simp only [List.length_map] at h); first | (exfalso; omega) | (conv => whnf)))) | fail
  all_goals (refine XOut.bool ?_; unfold wideB; rw [Bool.eq_iff_iff]; simp; try omega)
theorem wide_last {s : Sn} {n : Int} (ok : SnOk s) (h : wideB s n = false) : s.last ≤ n := by
  unfold wideB at h
  rw [decide_eq_true ok.l2, Bool.and_true, decide_eq_false_iff_not] at h
  omega
theorem SnEq.wrT {s u : Sn} (e : SnEq s u) : GA.wrT s = GA.wrT u := by
  unfold GA.wrT
  rw [e.places, e.last, e.allN]
  exact mkT_congr fun p m l _ _ _ => e.worth _
theorem SnEq.rule {s u : Sn} (e : SnEq s u) (x : Sta) : ruleS s x = ruleS u x := by
  unfold ruleS homeZ
  rw [e.worth, e.home, e.steps, show (fun t => gainZ s (worthZ s) x t == worthZ u x) = (fun t => gainZ u (worthZ u) x t == worthZ u x) from funext fun t => by rw [e.gain, show worthZ s = worthZ u from funext e.worth]]
theorem own_rows (R : List Rw) (h : ∀ r ∈ R, r.1 = false) : R.map ownR = R := by
  rw [List.map_congr_left (g := id) fun r hr => by rw [← Prod.eta r, h r hr]; rfl, List.map_id]
theorem wrT_row {s : Sn} {p : Nat} (hp : p < (wrT s).length) : (wrT s).getD p default = (false, vecF (s.last + 1).toNat fun m => (false, vecF (allN s + 1) fun l => worthZ s ⟨p, m, l⟩)) := by
  unfold wrT at hp ⊢
  rw [mkT_len] at hp
  exact mkT_p hp
def fstR (s : Sn) (x : Sta) (L : List (Int × Int)) : Option (Int × Int) := L.find? fun t => gainZ s (worthZ s) x t == worthZ s x
theorem fstR_next (s : Sn) (x : Sta) (L : List (Int × Int)) (t : Int × Int) : fstR s x (L ++ [t]) = if (fstR s x L).isSome = true then fstR s x L else if gainZ s (worthZ s) x t = worthZ s x then some t else none := by
  unfold fstR
  rw [List.find?_append]
  cases L.find? fun t => gainZ s (worthZ s) x t == worthZ s x with
  | some y => rfl
  | none =>
    rw [Option.none_or, List.find?_cons]
    by_cases h : gainZ s (worthZ s) x t = worthZ s x
    · rw [show (gainZ s (worthZ s) x t == worthZ s x) = true by simpa using h, if_pos h]; rfl
    · rw [show (gainZ s (worthZ s) x t == worthZ s x) = false by simpa using h, if_neg h]; rfl
theorem rule_fst {s : Sn} {x : Sta} (h : 0 ≤ worthZ s x) (h2 : (x.p : Int) ≠ s.home ∨ 0 < worthZ s x) : ruleS s x = fstR s x (stepsS s x) := by
  unfold ruleS fstR
  rw [if_neg]
  rintro (h3 | h3)
  · omega
  · unfold homeZ at h3
    split at h3 <;> omega
theorem rule_no {s : Sn} {x : Sta} (h : worthZ s x < 0 ∨ ((x.p : Int) = s.home ∧ worthZ s x ≤ 0)) : ruleS s x = none := by
  unfold ruleS
  have := worthZ_ge s x
  rw [if_pos]
  rcases h with h | h
  · left; omega
  · by_cases h0 : worthZ s x = -1
    · exact .inl h0
    · right; unfold homeZ; rw [if_pos h.1]; omega
def erO (o : Option (Int × Int)) : Int := if o.isSome = true then 0 else 6
theorem gainZ_congr {s : Sn} {f g : Sta → Int} {x : Sta} {t : Int × Int} (h : ∀ y ∈ afterS s x t, f y = g y) : gainZ s f x t = gainZ s g x t := by
  unfold gainZ; rw [minL_congr h]
theorem wrT_rows {s : Sn} (ok : SnOk s) (k : Nat) (hk : k < (wrT s).length) : Comp Tryz.prog 34 [rsT ((wrT s).getD k default), rsT ((wrT s).getD k default)] (.bool true) := by
  have hal := allN_lt ok; have l1 := ok.l1; have l2 := ok.l2
  rw [wrT_row hk]
  generalize hR : (vecF (s.last + 1).toNat fun m => ((false, vecF (allN s + 1) fun l => worthZ s ⟨k, m, l⟩) : Rw)) = R
  have h1 : R.length ≤ 1000 := by rw [← hR, vecF_len]; omega
  have h2 : ∀ r ∈ R, r.2.length ≤ 1000 ∧ r.1 = false := fun r hr => by
    rw [← hR] at hr
    obtain ⟨m, -, rfl⟩ := vecF_mem.1 hr
    exact ⟨by show (vecF _ _).length ≤ 1000; rw [vecF_len]; omega, rfl⟩
  have := eqR_rw false false R h1 fun r hr => (h2 r hr).1
  rw [own_rows R fun r hr => (h2 r hr).2] at this
  exact this
set_option maxHeartbeats 8000000 in
theorem fordWorth_c (s : Sn) (p m l : Int) : Comp Tryz.prog 5 [snA s, xA p m l] (.bool true) := by
  have hgr := great02_c s
  have hwd := wide02_c s 16
  cases hgs : grtS s with
  | true =>
    rw [hgs] at hgr
    refine Comp.body (T := tab) (res := [.tmp 4]) tab_ok [] Tryz.func5 rfl (by kernel_rfl) Tryz.ntmps5 rfl (by simp only [List.length_cons, List.length_nil]; decide) (by simp only [lowL, AV.low, snL, xL]; rfl) ?_; conv => whnf
    repeat' first | ((first | (with_reducible apply XBr.tt) | (refine XCall.ret hgr ?_) | (refine XCall.ret awake02_c ?_)); conv => whnf) | fail
    exact XOut.bool rfl
  | false =>
  rw [hgs] at hgr
  cases hws : wideB s 16 with
  | true =>
    rw [hws] at hwd
    refine Comp.body (T := tab) (res := [.tmp 4]) tab_ok [] Tryz.func5 rfl (by kernel_rfl) Tryz.ntmps5 rfl (by simp only [List.length_cons, List.length_nil]; decide) (by simp only [lowL, AV.low, snL, xL]; rfl) ?_; conv => whnf
    repeat' first | ((first | (with_reducible apply XBr.tt) | (with_reducible apply XBr.ff) | (refine XCall.ret hgr ?_) | (refine XCall.ret hwd ?_) | (refine XCall.ret awake02_c ?_)); conv => whnf) | fail
    exact XOut.bool rfl
  | false =>
  rw [hws] at hwd
  have hb := (grt_B hgs).1
  have hbo := own_B hb
  have e := own_eq s
  have how := own02_c s hb
  have hth := theirs02_c s hb
  have hsa := same02_c s hb
  have hck := rCheck_c s hb
  by_cases h0 : snE s = 0
  rotate_left
  · have hst0 : sttE s p m l = snE s := by unfold sttE; rw [if_pos h0]
    have hmd := fMade_no (ownS s) hbo (by rw [← e.err]; exact h0)
    have hwo := fWorth_no (ownS s) hbo p m l (by rw [← e.sttE, hst0]; exact h0)
    have hru := fRule_no (ownS s) hbo p m l (by rw [← e.sttE, hst0]; exact h0)
    rw [← e.err] at hmd
    rw [← e.sttE, hst0] at hwo hru
    generalize snE s = v at h0 hck hmd hwo hru
    have e00 : (([] : List AV).length : Int) = 0 := rfl
    refine Comp.body (T := tab) (res := [.tmp 4]) tab_ok [] Tryz.func5 rfl (by kernel_rfl) Tryz.ntmps5 rfl (by simp only [List.length_cons, List.length_nil]; decide) (by simp only [lowL, AV.low, snL, xL]; rfl) ?_; conv => whnf
    repeat' first | ((first | (with_reducible apply XBr.ff) | (refine XCall.ret hgr ?_) | (refine XCall.ret hwd ?_)); conv => whnf) | fail
    refine Walk.place (Walk.place (Walk.place ?_))
    apply Walk.drawX tab_ok mixed_ok [] [5, 6, 7, 8, 9, 10] (fun fl => match fl with
      | [a, b, c, x, y, z] => [(bif a then .cells (bif x then snC (ownS s) else rsZ') else .free), (bif b then .cells (bif y then rsC s else rsZ') else .free), (bif c then .cells (bif z then [.int .i64 p, .int .i64 m, .int .i64 l] else [.int .i64 0, .int .i64 0, .int .i64 0]) else .free)]
      | _ => []) [_, _, _, _, _, .ptr 0 0, .ptr 1 0, .ptr 2 0, _, _, _] (by kernel_rfl) rfl
    · skip
      repeat' first | (with_reducible apply XAnd.mk) | ((first | (with_reducible apply Chk.go) | (with_reducible apply ChkA.go)); conv => whnf) | (exact XSame.mk rfl rfl) | (with_reducible exact trivial) | ((first | (refine XCall.ret how ?_) | (refine XCall.ret hth ?_)); conv => whnf) | (first | ((refine XFree.at 0 rfl ?_); (conv => whnf); exact XSame.mk rfl rfl) | ((refine XFree.at 1 rfl ?_); (conv => whnf); exact XSame.mk rfl rfl) | ((refine XFree.at 2 rfl ?_); (conv => whnf); exact XSame.mk rfl rfl)) | fail
    · skip
      repeat' first | (with_reducible apply XAnd.mk) | ((first | (with_reducible apply Chk.go) | (with_reducible apply ChkF.go) | (with_reducible apply ChkB.go)); conv => whnf) | (exact XSame.mk rfl rfl) | (with_reducible exact trivial) | ((first | (refine XCall.ret how ?_) | (refine XCall.ret hth ?_)); conv => whnf) | (first | ((refine XFree.at 0 rfl ?_); (conv => whnf); exact XSame.mk rfl rfl) | ((refine XFree.at 1 rfl ?_); (conv => whnf); exact XSame.mk rfl rfl) | ((refine XFree.at 2 rfl ?_); (conv => whnf); exact XSame.mk rfl rfl)) | fail
    conv => whnf
    repeat' first | ((first | (with_reducible apply XBr.tt) | (with_reducible apply XBr.ff)); conv => whnf) | ((with_reducible apply XBr.dec) <;> (intro h; first | (exfalso; omega) | ((try simp only [List.length_map] at h); first | (exfalso; omega) | (conv => whnf)))) | ((with_reducible apply XBr.bne) <;> (intro h; first | (exfalso; omega) | (conv => whnf))) | ((first | (refine XCall.ret hck ?_) | (refine XCall.ret hmd ?_) | (refine XCall.ret hwo ?_) | (refine XCall.ret hru ?_)); conv => whnf) | fail
    refine Walk.norm tab_ok [] [(2, _), (5, _), (8, _), (11, _), (12, _), (13, _), (14, _)] ⟨rfl, rfl, rfl, rfl, rfl, rfl, rfl, trivial⟩ ?_
    conv => whnf
    repeat' first | ((with_reducible apply XBr.tt); conv => whnf) | ((with_reducible apply XBr.beq) <;> (intro h; first | (exfalso; omega) | (conv => whnf))) | ((first | (refine XCall.ret hsa ?_) | (refine XCall.ret awake02_c ?_) | (refine XEqA.mk ⟨[_, _], [_, _], rfl, rfl, rfl, rfl, ?_⟩) | (with_reducible refine XBr.yes (by decide) ?_)); conv => whnf) | fail
    exact XOut.bool rfl
  have ok := snE_iff.1 h0
  have hL := wide_last ok hws
  have hmd := fMade_ok (ownS s) hbo (snE_iff.1 (by rw [← e.err]; exact h0))
  rw [← e.wrT] at hmd
  have hrm := rMade_c s hb ok (by omega)
  have hst := rStated_c s hb p m l
  have hrows := wrT_rows ok
  have hTl : (wrT s).length ≤ 5 := by unfold wrT; rw [mkT_len]; have := ok.p2; omega
  rw [h0] at hck
  by_cases h1 : sttE s p m l = 0
  rotate_left
  · have hwo := fWorth_no (ownS s) hbo p m l (by rw [← e.sttE]; exact h1)
    have hru := fRule_no (ownS s) hbo p m l (by rw [← e.sttE]; exact h1)
    rw [← e.sttE] at hwo hru
    generalize sttE s p m l = v at h1 hst hwo hru
    refine Comp.body (T := tab) (res := [.tmp 4]) tab_ok [] Tryz.func5 rfl (by kernel_rfl) Tryz.ntmps5 rfl (by simp only [List.length_cons, List.length_nil]; decide) (by simp only [lowL, AV.low, snL, xL]; rfl) ?_; conv => whnf
    repeat' first | ((first | (with_reducible apply XBr.ff) | (refine XCall.ret hgr ?_) | (refine XCall.ret hwd ?_)); conv => whnf) | fail
    refine Walk.place (Walk.place (Walk.place ?_))
    apply Walk.drawX tab_ok mixed_ok [] [5, 6, 7, 8, 9, 10] (fun fl => match fl with
      | [a, b, c, x, y, z] => [(bif a then .cells (bif x then snC (ownS s) else rsZ') else .free), (bif b then .cells (bif y then rsC s else rsZ') else .free), (bif c then .cells (bif z then [.int .i64 p, .int .i64 m, .int .i64 l] else [.int .i64 0, .int .i64 0, .int .i64 0]) else .free)]
      | _ => []) [_, _, _, _, _, .ptr 0 0, .ptr 1 0, .ptr 2 0, _, _, _] (by kernel_rfl) rfl
    · skip
      repeat' first | (with_reducible apply XAnd.mk) | ((first | (with_reducible apply Chk.go) | (with_reducible apply ChkA.go)); conv => whnf) | (exact XSame.mk rfl rfl) | (with_reducible exact trivial) | ((first | (refine XCall.ret how ?_) | (refine XCall.ret hth ?_)); conv => whnf) | (first | ((refine XFree.at 0 rfl ?_); (conv => whnf); exact XSame.mk rfl rfl) | ((refine XFree.at 1 rfl ?_); (conv => whnf); exact XSame.mk rfl rfl) | ((refine XFree.at 2 rfl ?_); (conv => whnf); exact XSame.mk rfl rfl)) | fail
    · skip
      repeat' first | (with_reducible apply XAnd.mk) | ((first | (with_reducible apply Chk.go) | (with_reducible apply ChkF.go) | (with_reducible apply ChkB.go)); conv => whnf) | (exact XSame.mk rfl rfl) | (with_reducible exact trivial) | ((first | (refine XCall.ret how ?_) | (refine XCall.ret hth ?_)); conv => whnf) | (first | ((refine XFree.at 0 rfl ?_); (conv => whnf); exact XSame.mk rfl rfl) | ((refine XFree.at 1 rfl ?_); (conv => whnf); exact XSame.mk rfl rfl) | ((refine XFree.at 2 rfl ?_); (conv => whnf); exact XSame.mk rfl rfl)) | fail
    conv => whnf
    repeat' first | ((with_reducible apply XBr.ff); conv => whnf) | ((with_reducible apply XBr.bne) <;> (intro h; first | (exfalso; omega) | (conv => whnf))) | ((first | (refine XCall.ret hck ?_) | (refine XCall.ret hmd ?_) | (refine XCall.ret hwo ?_) | (refine XCall.ret hru ?_) | (refine XCall.ret hrm ?_)); conv => whnf) | fail
    refine Walk.loopK tab_ok [] [(2, _), (3, _), (5, _), (6, _), (7, _), (9, _), (11, _), (12, _), (13, _), (14, _), (15, _), (99, _), (100, _)] ⟨rfl, rfl, rfl, rfl, rfl, rfl, rfl, rfl, rfl, rfl, rfl, rfl, rfl, trivial⟩ (fun k : Nat => k ≤ (wrT s).length) (fun k => [(101, natA k)]) (fun _ => [.cells (snC (ownS s)), .cells (rsC s), .cells [.int .i64 p, .int .i64 m, .int .i64 l], .cells [.int .i64 0, .int .i64 0]]) (fun k => (wrT s).length - k) 0 (Nat.zero_le _) rfl ⟨rfl, trivial⟩ ?_
    intro k hk
    conv => whnf
    by_cases hlt : k < (wrT s).length
    · have heq := hrows k hlt
      have eT : (((wrT s).map rsT).length : Int) = (wrT s).length := by rw [List.length_map]
      repeat' first | ((with_reducible apply XBr.tt); conv => whnf) | (with_reducible apply XBr.not) | ((with_reducible apply XBr.dec) <;> (intro h; first | (exfalso; omega) | ((try simp only [List.length_map] at h); first | (exfalso; omega) | (conv => whnf)))) | ((first | (with_reducible refine XInt.i64 (by omega) (by omega) ?_) | ((with_reducible refine XIx.nat ?_ ?_ ?_); omega; (intro _; rfl)) | (refine XCall.ret heq ?_)); conv => whnf) | fail
      exact XAgain.go (k + 1) (by omega) (by omega) rfl ⟨rfl, rfl, rfl, rfl, rfl, rfl, rfl, rfl, rfl, rfl, rfl, rfl, rfl, rfl, trivial⟩
    obtain rfl : k = (wrT s).length := by omega
    have eT : (((wrT s).map rsT).length : Int) = (wrT s).length := by rw [List.length_map]
    repeat' first | ((with_reducible apply XBr.dec) <;> (intro h; first | (exfalso; omega) | ((try simp only [List.length_map] at h); first | (exfalso; omega) | (conv => whnf)))) | ((with_reducible apply XBr.bne) <;> (intro h; first | (exfalso; omega) | (conv => whnf))) | ((refine XCall.ret hst ?_); conv => whnf) | fail
    refine Walk.norm tab_ok [] [(2, _), (5, _), (8, _), (11, _), (12, _), (13, _), (14, _)] ⟨rfl, rfl, rfl, rfl, rfl, rfl, rfl, trivial⟩ ?_
    conv => whnf
    repeat' first | ((with_reducible apply XBr.tt); conv => whnf) | ((with_reducible apply XBr.beq) <;> (intro h; first | (exfalso; omega) | (conv => whnf))) | ((first | (refine XCall.ret hsa ?_) | (refine XCall.ret awake02_c ?_) | (refine XEqA.mk ⟨[_, _], [_, _], rfl, rfl, rfl, rfl, ?_⟩) | (with_reducible refine XBr.yes (by decide) ?_)); conv => whnf) | fail
    exact XOut.bool rfl
  have hwo := fWorth_ok (ownS s) hbo p m l (by rw [← e.sttE]; exact h1)
  have hru := fRule_ok (ownS s) hbo p m l (by rw [← e.sttE]; exact h1)
  rw [← e.worth] at hwo
  rw [← e.rule] at hru
  obtain ⟨-, g1, g2, g3, g4⟩ := sttE_iff.1 h1
  have hx := stN_ok h1
  have hv := st_vld h1
  rw [h1] at hst
  obtain ⟨pn, rfl⟩ : ∃ pn : Nat, p = pn := ⟨p.toNat, by omega⟩
  obtain ⟨mn, rfl⟩ : ∃ mn : Nat, m = mn := ⟨m.toNat, by omega⟩
  obtain ⟨ln, rfl⟩ : ∃ ln : Nat, l = ln := ⟨l.toNat, by omega⟩
  have hxe : stN (pn : Int) (mn : Int) (ln : Int) = ⟨pn, mn, ln⟩ := rfl
  rw [hxe] at hx hv hwo hru
  have hxl : ln ≤ allN s := hv.2.2
  have hT := wrT_ok ok (by omega)
  obtain ⟨t1, t2, t3, -, -⟩ := hT.at hv
  dsimp only at t1 t2 t3
  have hwv : worthZ s ⟨pn, mn, ln⟩ = (((wrT s).getD pn default).2.getD mn default).2.getD ln default := (wrT_at ok hv).symm
  have hrs := rSteps_c s hb ok ⟨pn, mn, ln⟩ hx hxl
  have hgv : ∀ t ∈ stepsS s ⟨pn, mn, ln⟩, Comp Tryz.prog 41 [rsA s, .sl false ((wrT s).map rsT), staA ⟨pn, mn, ln⟩, sgA t] (.int .i64 (gainZ s (worthZ s) ⟨pn, mn, ln⟩ t)) := fun t ht => by
    have hne : (!(afterS s ⟨pn, mn, ln⟩ t).isEmpty) = true := (List.mem_filter.1 ht).2
    rw [gainZ_congr (f := worthZ s) (g := tbN (wrT s)) fun y hy => (wrT_at ok (afterS_vld ok hy)).symm]
    cases ha : afterS s ⟨pn, mn, ln⟩ t with
    | nil => rw [ha] at hne; cases hne
    | cons y0 l0 => exact rGives_c s hb ok false _ hT _ hx hxl t y0 l0 ha
  have hA := fun h h2 => rule_fst (s := s) (x := ⟨pn, mn, ln⟩) h h2
  have hB := fun h => rule_no (s := s) (x := ⟨pn, mn, ln⟩) h
  have hnx := fun L t => fstR_next s ⟨pn, mn, ln⟩ L t
  have hsl : (stepsS s ⟨pn, mn, ln⟩).length ≤ 55 := by
    have hwl : (waysL s pn).length ≤ 55 := by
      have h := waysK_len s pn s.places.toNat
      have p2 := ok.p2; have w1 := ok.w1
      have h2 : s.places.toNat * (1 + s.ways.length) ≤ 5 * 11 := Nat.mul_le_mul (by omega) (by omega)
      show (waysK s pn s.places.toNat).length ≤ 55
      omega
    exact Nat.le_trans (List.length_filter_le _ _) hwl
  have e2 : ((((wrT s).getD pn default).2.map rwA).length : Int) = ((wrT s).getD pn default).2.length := by rw [List.length_map]
  have e3 : ((ints (((wrT s).getD pn default).2.getD mn default).2).length : Int) = (((wrT s).getD pn default).2.getD mn default).2.length := by rw [ints_len]
  rw [hwv] at hwo hA hB hnx
  dsimp only at hA hB
  generalize ruleS s ⟨pn, mn, ln⟩ = rr at hru hA hB
  obtain ⟨ra, hra⟩ : ∃ ra, ra = (rr.getD (0, 0)).1 := ⟨_, rfl⟩
  obtain ⟨rb, hrb⟩ : ∃ rb, rb = (rr.getD (0, 0)).2 := ⟨_, rfl⟩
  obtain ⟨w14, hw4⟩ : ∃ w14, w14 = erO rr := ⟨_, rfl⟩
  have hru' : Comp Tryz.prog 39 [snA (ownS s), xA pn mn ln] (.tup [.agg [.int .i64 ra, .int .i64 rb], .int .i64 w14]) := by rw [hra, hrb, hw4]; exact hru
  clear hru
  by_cases hc : 0 ≤ (((wrT s).getD pn default).2.getD mn default).2.getD ln default ∧ ((pn : Int) ≠ s.home ∨ 0 < (((wrT s).getD pn default).2.getD mn default).2.getD ln default)
  rotate_left
  · obtain rfl := hB (by omega)
    have hra' : ra = 0 := hra
    have hrb' : rb = 0 := hrb
    subst hra' hrb'
    have hw6 : w14 = 6 := hw4
    subst hw6
    by_cases hc1 : 0 ≤ (((wrT s).getD pn default).2.getD mn default).2.getD ln default
    all_goals
      refine Comp.body (T := tab) (res := [.tmp 4]) tab_ok [] Tryz.func5 rfl (by kernel_rfl) Tryz.ntmps5 rfl (by simp only [List.length_cons, List.length_nil]; decide) (by simp only [lowL, AV.low, snL, xL]; rfl) ?_; conv => whnf
      repeat' first | ((first | (with_reducible apply XBr.ff) | (refine XCall.ret hgr ?_) | (refine XCall.ret hwd ?_)); conv => whnf) | fail
      refine Walk.place (Walk.place (Walk.place ?_))
      apply Walk.drawX tab_ok mixed_ok [] [5, 6, 7, 8, 9, 10] (fun fl => match fl with
        | [a, b, c, x, y, z] => [(bif a then .cells (bif x then snC (ownS s) else rsZ') else .free), (bif b then .cells (bif y then rsC s else rsZ') else .free), (bif c then .cells (bif z then [natA pn, natA mn, natA ln] else [.int .i64 0, .int .i64 0, .int .i64 0]) else .free)]
        | _ => []) [_, _, _, _, _, .ptr 0 0, .ptr 1 0, .ptr 2 0, _, _, _] (by kernel_rfl) rfl
      · skip
        repeat' first | (with_reducible apply XAnd.mk) | ((first | (with_reducible apply Chk.go) | (with_reducible apply ChkA.go)); conv => whnf) | (exact XSame.mk rfl rfl) | (with_reducible exact trivial) | ((first | (refine XCall.ret how ?_) | (refine XCall.ret hth ?_)); conv => whnf) | (first | ((refine XFree.at 0 rfl ?_); (conv => whnf); exact XSame.mk rfl rfl) | ((refine XFree.at 1 rfl ?_); (conv => whnf); exact XSame.mk rfl rfl) | ((refine XFree.at 2 rfl ?_); (conv => whnf); exact XSame.mk rfl rfl)) | fail
      · skip
        repeat' first | (with_reducible apply XAnd.mk) | ((first | (with_reducible apply Chk.go) | (with_reducible apply ChkF.go) | (with_reducible apply ChkB.go)); conv => whnf) | (exact XSame.mk rfl rfl) | (with_reducible exact trivial) | ((first | (refine XCall.ret how ?_) | (refine XCall.ret hth ?_)); conv => whnf) | (first | ((refine XFree.at 0 rfl ?_); (conv => whnf); exact XSame.mk rfl rfl) | ((refine XFree.at 1 rfl ?_); (conv => whnf); exact XSame.mk rfl rfl) | ((refine XFree.at 2 rfl ?_); (conv => whnf); exact XSame.mk rfl rfl)) | fail
      conv => whnf
      repeat' first | ((with_reducible apply XBr.ff); conv => whnf) | ((with_reducible apply XBr.bne) <;> (intro h; first | (exfalso; omega) | (conv => whnf))) | ((first | (refine XCall.ret hck ?_) | (refine XCall.ret hmd ?_) | (refine XCall.ret hwo ?_) | (refine XCall.ret hru' ?_) | (refine XCall.ret hrm ?_)); conv => whnf) | fail
      refine Walk.loopK tab_ok [] [(2, _), (3, _), (5, _), (6, _), (7, _), (9, _), (11, _), (12, _), (13, _), (14, _), (15, _), (99, _), (100, _)] ⟨rfl, rfl, rfl, rfl, rfl, rfl, rfl, rfl, rfl, rfl, rfl, rfl, rfl, trivial⟩ (fun k : Nat => k ≤ (wrT s).length) (fun k => [(101, natA k)]) (fun _ => [.cells (snC (ownS s)), .cells (rsC s), .cells [natA pn, natA mn, natA ln], .cells [.int .i64 0, .int .i64 0]]) (fun k => (wrT s).length - k) 0 (Nat.zero_le _) rfl ⟨rfl, trivial⟩ ?_
      intro k hk
      conv => whnf
      by_cases hlt : k < (wrT s).length
      · have heq := hrows k hlt
        have eT : (((wrT s).map rsT).length : Int) = (wrT s).length := by rw [List.length_map]
        repeat' first | ((with_reducible apply XBr.tt); conv => whnf) | (with_reducible apply XBr.not) | ((with_reducible apply XBr.dec) <;> (intro h; first | (exfalso; omega) | ((try simp only [List.length_map] at h); first | (exfalso; omega) | (conv => whnf)))) | ((first | (with_reducible refine XInt.i64 (by omega) (by omega) ?_) | ((with_reducible refine XIx.nat ?_ ?_ ?_); omega; (intro _; rfl)) | (refine XCall.ret heq ?_)); conv => whnf) | fail
        exact XAgain.go (k + 1) (by omega) (by omega) rfl ⟨rfl, rfl, rfl, rfl, rfl, rfl, rfl, rfl, rfl, rfl, rfl, rfl, rfl, rfl, trivial⟩
      obtain rfl : k = (wrT s).length := by omega
      have eT : (((wrT s).map rsT).length : Int) = (wrT s).length := by rw [List.length_map]
      repeat' first | ((first | (with_reducible apply XBr.tt) | (with_reducible apply XBr.ff)); conv => whnf) | ((with_reducible apply XBr.dec) <;> (intro h; first | (exfalso; omega) | ((try simp only [List.length_map] at h); first | (exfalso; omega) | (conv => whnf)))) | ((with_reducible apply XBr.beq) <;> (intro h; first | (exfalso; omega) | (conv => whnf))) | ((with_reducible apply XBr.bne) <;> (intro h; first | (exfalso; omega) | (conv => whnf))) | (((with_reducible refine XIx.nat ?_ ?_ ?_); omega; (intro _; rfl)); conv => whnf) | (with_reducible apply XAnd.mk) | ((first | (with_reducible apply Chk.go) | (with_reducible apply ChkA.go) | (with_reducible apply ChkF.go) | (with_reducible apply ChkB.go)); conv => whnf) | (exact XSame.mk rfl rfl) | (with_reducible exact trivial) | (apply Walk.drawN (id := 24) tab_ok mixed_ok [] [] (hsU _) [_, _, _, _, _, _, _, _, _, _, _, _, _, _] (by kernel_rfl) rfl) | ((first | (with_reducible apply XNext.mk) | (refine XCall.ret hst ?_)); conv => whnf) | fail
      repeat' first | ((first | (with_reducible apply XBr.tt) | (refine XCall.ret hsa ?_) | (refine XCall.ret awake02_c ?_) | (refine XEqA.mk ⟨[_, _], [_, _], rfl, rfl, rfl, rfl, ?_⟩) | (with_reducible refine XBr.yes (by decide) ?_)); conv => whnf) | fail
      exact XOut.bool rfl
  have hA := hA hc.1 hc.2
  generalize hW : stepsS s ⟨pn, mn, ln⟩ = W at hrs hgv hA hsl
  have eW : ((W.map sgA).length : Int) = W.length := by rw [List.length_map]
  refine Comp.body (T := tab) (res := [.tmp 4]) tab_ok [] Tryz.func5 rfl (by kernel_rfl) Tryz.ntmps5 rfl (by simp only [List.length_cons, List.length_nil]; decide) (by simp only [lowL, AV.low, snL, xL]; rfl) ?_; conv => whnf
  repeat' first | ((first | (with_reducible apply XBr.ff) | (refine XCall.ret hgr ?_) | (refine XCall.ret hwd ?_)); conv => whnf) | fail
  refine Walk.place (Walk.place (Walk.place ?_))
  apply Walk.drawX tab_ok mixed_ok [] [5, 6, 7, 8, 9, 10] (fun fl => match fl with
    | [a, b, c, x, y, z] => [(bif a then .cells (bif x then snC (ownS s) else rsZ') else .free), (bif b then .cells (bif y then rsC s else rsZ') else .free), (bif c then .cells (bif z then [natA pn, natA mn, natA ln] else [.int .i64 0, .int .i64 0, .int .i64 0]) else .free)]
    | _ => []) [_, _, _, _, _, .ptr 0 0, .ptr 1 0, .ptr 2 0, _, _, _] (by kernel_rfl) rfl
  · skip
    repeat' first | (with_reducible apply XAnd.mk) | ((first | (with_reducible apply Chk.go) | (with_reducible apply ChkA.go)); conv => whnf) | (exact XSame.mk rfl rfl) | (with_reducible exact trivial) | ((first | (refine XCall.ret how ?_) | (refine XCall.ret hth ?_)); conv => whnf) | (first | ((refine XFree.at 0 rfl ?_); (conv => whnf); exact XSame.mk rfl rfl) | ((refine XFree.at 1 rfl ?_); (conv => whnf); exact XSame.mk rfl rfl) | ((refine XFree.at 2 rfl ?_); (conv => whnf); exact XSame.mk rfl rfl)) | fail
  · skip
    repeat' first | (with_reducible apply XAnd.mk) | ((first | (with_reducible apply Chk.go) | (with_reducible apply ChkF.go) | (with_reducible apply ChkB.go)); conv => whnf) | (exact XSame.mk rfl rfl) | (with_reducible exact trivial) | ((first | (refine XCall.ret how ?_) | (refine XCall.ret hth ?_)); conv => whnf) | (first | ((refine XFree.at 0 rfl ?_); (conv => whnf); exact XSame.mk rfl rfl) | ((refine XFree.at 1 rfl ?_); (conv => whnf); exact XSame.mk rfl rfl) | ((refine XFree.at 2 rfl ?_); (conv => whnf); exact XSame.mk rfl rfl)) | fail
  conv => whnf
  repeat' first | ((with_reducible apply XBr.ff); conv => whnf) | ((with_reducible apply XBr.bne) <;> (intro h; first | (exfalso; omega) | (conv => whnf))) | ((first | (refine XCall.ret hck ?_) | (refine XCall.ret hmd ?_) | (refine XCall.ret hwo ?_) | (refine XCall.ret hru' ?_) | (refine XCall.ret hrm ?_)); conv => whnf) | fail
  refine Walk.loopK tab_ok [] [(2, _), (3, _), (5, _), (6, _), (7, _), (9, _), (11, _), (12, _), (13, _), (14, _), (15, _), (99, _), (100, _)] ⟨rfl, rfl, rfl, rfl, rfl, rfl, rfl, rfl, rfl, rfl, rfl, rfl, rfl, trivial⟩ (fun k : Nat => k ≤ (wrT s).length) (fun k => [(101, natA k)]) (fun _ => [.cells (snC (ownS s)), .cells (rsC s), .cells [natA pn, natA mn, natA ln], .cells [.int .i64 ra, .int .i64 rb]]) (fun k => (wrT s).length - k) 0 (Nat.zero_le _) rfl ⟨rfl, trivial⟩ ?_
  intro k hk
  conv => whnf
  by_cases hlt : k < (wrT s).length
  · have heq := hrows k hlt
    have eT : (((wrT s).map rsT).length : Int) = (wrT s).length := by rw [List.length_map]
    repeat' first | ((with_reducible apply XBr.tt); conv => whnf) | (with_reducible apply XBr.not) | ((with_reducible apply XBr.dec) <;> (intro h; first | (exfalso; omega) | ((try simp only [List.length_map] at h); first | (exfalso; omega) | (conv => whnf)))) | ((first | (with_reducible refine XInt.i64 (by omega) (by omega) ?_) | ((with_reducible refine XIx.nat ?_ ?_ ?_); omega; (intro _; rfl)) | (refine XCall.ret heq ?_)); conv => whnf) | fail
    exact XAgain.go (k + 1) (by omega) (by omega) rfl ⟨rfl, rfl, rfl, rfl, rfl, rfl, rfl, rfl, rfl, rfl, rfl, rfl, rfl, rfl, trivial⟩
  obtain rfl : k = (wrT s).length := by omega
  have eT : (((wrT s).map rsT).length : Int) = (wrT s).length := by rw [List.length_map]
  repeat' first | ((first | (with_reducible apply XBr.tt) | (with_reducible apply XBr.ff)); conv => whnf) | ((with_reducible apply XBr.dec) <;> (intro h; first | (exfalso; omega) | ((try simp only [List.length_map] at h); first | (exfalso; omega) | (conv => whnf)))) | ((with_reducible apply XBr.bne) <;> (intro h; first | (exfalso; omega) | (conv => whnf))) | (((with_reducible refine XIx.nat ?_ ?_ ?_); omega; (intro _; rfl)); conv => whnf) | (with_reducible apply XAnd.mk) | ((first | (with_reducible apply Chk.go) | (with_reducible apply ChkA.go) | (with_reducible apply ChkF.go) | (with_reducible apply ChkB.go)); conv => whnf) | (exact XSame.mk rfl rfl) | (with_reducible exact trivial) | (apply Walk.drawN (id := 24) tab_ok mixed_ok [] [] (hsU _) [_, _, _, _, _, _, _, _, _, _, _, _, _, _] (by kernel_rfl) rfl) | ((first | (with_reducible apply XNext.mk) | (refine XCall.ret hst ?_)); conv => whnf) | fail
  all_goals
    refine XCall.ret hrs ?_
    conv => whnf
    skip
    refine Walk.loopGK tab_ok [] [(2, _), (5, _), (6, _), (7, _), (13, _), (14, _), (15, _), (18, _), (19, _), (179, _), (180, _)] ⟨rfl, rfl, rfl, rfl, rfl, rfl, rfl, rfl, rfl, rfl, rfl, trivial⟩ (fun k : Nat => k ≤ W.length) (fun k => [(8, .int .i64 (erO (fstR s ⟨pn, mn, ln⟩ (W.take k)))), (181, natA k)]) (fun k => [.cells (snC (ownS s)), .cells (rsC s), .cells [natA pn, natA mn, natA ln], .cells [.int .i64 ra, .int .i64 rb], .cells [.int .i64 ((fstR s ⟨pn, mn, ln⟩ (W.take k)).getD (0, 0)).1, .int .i64 ((fstR s ⟨pn, mn, ln⟩ (W.take k)).getD (0, 0)).2]]) (fun k => W.length - k) 0 (Nat.zero_le _) rfl ⟨rfl, rfl, trivial⟩ ?_ (fun _ _ => (show (5 : Nat) ≤ 5 from Nat.le_refl 5)) ?_
    · intro k _
      refine ⟨fun z hz => ?_, fun z hz => ?_⟩
      · simp only [List.mem_cons, List.not_mem_nil, or_false] at hz
        rcases hz with rfl | rfl | rfl | rfl | rfl <;> first | rfl | exact snCL _ | exact rsCL _
      · simp only [List.cons_append, List.nil_append, List.mem_cons, List.not_mem_nil, or_false] at hz
        rcases hz with rfl | rfl | rfl | rfl | rfl | rfl | rfl | rfl | rfl | rfl | rfl | rfl | rfl <;> first | rfl | exact snCL _ | exact lowRs _ | exact lowSg _
    intro k hk
    have hnk : k < W.length → fstR s ⟨pn, mn, ln⟩ (W.take (k + 1)) = if (fstR s ⟨pn, mn, ln⟩ (W.take k)).isSome = true then fstR s ⟨pn, mn, ln⟩ (W.take k) else if gainZ s (worthZ s) ⟨pn, mn, ln⟩ (W.getD k default) = (((wrT s).getD pn default).2.getD mn default).2.getD ln default then some (W.getD k default) else none := fun h => by rw [take_next h]; exact hnx _ _
    have hall : k = W.length → fstR s ⟨pn, mn, ln⟩ (W.take k) = rr := fun h => by rw [h, List.take_length]; exact hA.symm
    generalize fstR s ⟨pn, mn, ln⟩ (W.take k) = fo at hnk hall
    obtain ⟨w8, hw8⟩ : ∃ w8, w8 = erO fo := ⟨_, rfl⟩
    rw [← hw8]
    conv => whnf
    by_cases hlt2 : k < W.length
    · have hnk := hnk hlt2
      have hgt := hgv _ (getD_mem (d := default) hlt2)
      generalize gainZ s (worthZ s) ⟨pn, mn, ln⟩ (W.getD k default) = gz at hgt hnk
      cases fo with
      | some y =>
        rw [if_pos (show (some y).isSome = true from rfl)] at hnk
        have hw0 : w8 = 0 := hw8
        repeat' first | ((with_reducible apply XBr.ff); conv => whnf) | ((with_reducible apply XBr.dec) <;> (intro h; first | (exfalso; omega) | ((try simp only [List.length_map] at h); first | (exfalso; omega) | (conv => whnf)))) | ((with_reducible apply XBr.beq) <;> (intro h; first | (exfalso; omega) | (conv => whnf))) | ((first | (with_reducible refine XInt.i64 (by omega) (by omega) ?_) | ((with_reducible refine XIx.nat ?_ ?_ ?_); omega; (intro _; rfl))); conv => whnf) | fail
        refine XAgainG.go (k + 1) [.cells (sgA (W.getD k default)).cells] (by omega) (by omega) ?_ ⟨rfl, rfl, rfl, rfl, rfl, rfl, rfl, rfl, rfl, rfl, rfl, (by rw [hnk, hw8]; rfl), rfl, trivial⟩
        rw [hnk]; rfl
      | none =>
        rw [if_neg (show ¬ (none : Option (Int × Int)).isSome = true from fun h => by cases h)] at hnk
        have hw0 : w8 = 6 := hw8
        by_cases hgz : gz = (((wrT s).getD pn default).2.getD mn default).2.getD ln default
        · rw [if_pos hgz] at hnk
          repeat' first | ((with_reducible apply XBr.tt); conv => whnf) | ((with_reducible apply XBr.dec) <;> (intro h; first | (exfalso; omega) | ((try simp only [List.length_map] at h); first | (exfalso; omega) | (conv => whnf)))) | ((with_reducible apply XBr.beq) <;> (intro h; first | (exfalso; omega) | (conv => whnf))) | ((first | (with_reducible refine XInt.i64 (by omega) (by omega) ?_) | ((with_reducible refine XIx.nat ?_ ?_ ?_); omega; (intro _; rfl)) | (refine XCall.ret hgt ?_)); conv => whnf) | fail
          refine XAgainG.go (k + 1) [.cells (sgA (W.getD k default)).cells] (by omega) (by omega) ?_ ⟨rfl, rfl, rfl, rfl, rfl, rfl, rfl, rfl, rfl, rfl, rfl, (by rw [hnk]; rfl), rfl, trivial⟩
          rw [hnk]; rfl
        · rw [if_neg hgz] at hnk
          repeat' first | ((with_reducible apply XBr.tt); conv => whnf) | ((with_reducible apply XBr.dec) <;> (intro h; first | (exfalso; omega) | ((try simp only [List.length_map] at h); first | (exfalso; omega) | (conv => whnf)))) | ((with_reducible apply XBr.beq) <;> (intro h; first | (exfalso; omega) | (conv => whnf))) | ((first | (with_reducible refine XInt.i64 (by omega) (by omega) ?_) | ((with_reducible refine XIx.nat ?_ ?_ ?_); omega; (intro _; rfl)) | (refine XCall.ret hgt ?_)); conv => whnf) | fail
          refine XAgainG.go (k + 1) [.cells (sgA (W.getD k default)).cells] (by omega) (by omega) ?_ ⟨rfl, rfl, rfl, rfl, rfl, rfl, rfl, rfl, rfl, rfl, rfl, (by rw [hnk, hw8]; rfl), rfl, trivial⟩
          rw [hnk]; rfl
    obtain rfl : k = W.length := by omega
    obtain rfl := hall rfl
    rw [← hra, ← hrb]
    have hw14 : w8 = w14 := hw8.trans hw4.symm
    subst hw14
    repeat' first | ((with_reducible apply XBr.tt); conv => whnf) | ((with_reducible apply XBr.dec) <;> (intro h; first | (exfalso; omega) | ((try simp only [List.length_map] at h); first | (exfalso; omega) | (conv => whnf)))) | ((with_reducible apply XBr.beq) <;> (intro h; first | (exfalso; omega) | (conv => whnf))) | ((first | (refine XCall.ret hsa ?_) | (refine XCall.ret awake02_c ?_) | (refine XEqA.mk ⟨[_, _], [_, _], rfl, rfl, rfl, rfl, ?_⟩) | (with_reducible refine XBr.yes (by simp) ?_)); conv => whnf) | fail
    exact XOut.bool rfl
end GA
end
